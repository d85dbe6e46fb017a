/- Facts on the types of this translation, for the conditions. -/
import Derived.Test.YtogmkikdpjkigaaDoorProg
import Derived.Test.YtogmkikdpjkigaaDoorWls
import Derived.KernelRfl
import Derived.Laws.BitsAllLaws
import Derived.Laws.BitsLemmas
namespace Go.Proofs.YtogmkikdpjkigaaDoor
theorem Tryd.co2 : Tryd.prog.cellsOf 2 = 1 := by kernel_rfl
theorem Tryd.co3 : Tryd.prog.cellsOf 3 = 1 := by kernel_rfl
theorem Tryd.co4 : Tryd.prog.cellsOf 4 = 1 := by kernel_rfl
theorem Tryd.co5 : Tryd.prog.cellsOf 5 = 1 := by kernel_rfl
theorem Tryd.co6 : Tryd.prog.cellsOf 6 = 1 := by kernel_rfl
theorem Tryd.co7 : Tryd.prog.cellsOf 7 = 4 := by kernel_rfl
theorem Tryd.co8 : Tryd.prog.cellsOf 8 = 4 := by kernel_rfl
theorem Tryd.co9 : Tryd.prog.cellsOf 9 = 1 := by kernel_rfl
theorem Tryd.co10 : Tryd.prog.cellsOf 10 = 1 := by kernel_rfl
theorem Tryd.co11 : Tryd.prog.cellsOf 11 = 1 := by kernel_rfl
theorem Tryd.co12 : Tryd.prog.cellsOf 12 = 1 := by kernel_rfl
theorem Tryd.co13 : Tryd.prog.cellsOf 13 = 2 := by kernel_rfl
theorem Tryd.co14 : Tryd.prog.cellsOf 14 = 2 := by kernel_rfl
theorem Tryd.co15 : Tryd.prog.cellsOf 15 = 1 := by kernel_rfl
theorem Tryd.co16 : Tryd.prog.cellsOf 16 = 1 := by kernel_rfl
theorem Tryd.co17 : Tryd.prog.cellsOf 17 = 1 := by kernel_rfl
theorem Tryd.co18 : Tryd.prog.cellsOf 18 = 1 := by kernel_rfl
theorem Tryd.co19 : Tryd.prog.cellsOf 19 = 1 := by kernel_rfl
theorem Tryd.co20 : Tryd.prog.cellsOf 20 = 1 := by kernel_rfl
theorem Tryd.co21 : Tryd.prog.cellsOf 21 = 1 := by kernel_rfl
theorem Tryd.co22 : Tryd.prog.cellsOf 22 = 1 := by kernel_rfl
theorem Tryd.co23 : Tryd.prog.cellsOf 23 = 3 := by kernel_rfl
theorem Tryd.co24 : Tryd.prog.cellsOf 24 = 3 := by kernel_rfl
theorem Tryd.co36 : Tryd.prog.cellsOf 36 = 1 := by kernel_rfl
theorem Tryd.co37 : Tryd.prog.cellsOf 37 = 1 := by kernel_rfl
theorem Tryd.co41 : Tryd.prog.cellsOf 41 = 1 := by kernel_rfl
theorem Tryd.co44 : Tryd.prog.cellsOf 44 = 1 := by kernel_rfl
theorem Tryd.co47 : Tryd.prog.cellsOf 47 = 1 := by kernel_rfl
theorem Tryd.co50 : Tryd.prog.cellsOf 50 = 1 := by kernel_rfl
theorem Tryd.co52 : Tryd.prog.cellsOf 52 = 3 := by kernel_rfl
theorem Tryd.co53 : Tryd.prog.cellsOf 53 = 3 := by kernel_rfl
theorem Tryd.co58 : Tryd.prog.cellsOf 58 = 1 := by kernel_rfl
theorem Tryd.co59 : Tryd.prog.cellsOf 59 = 1 := by kernel_rfl
theorem Tryd.co60 : Tryd.prog.cellsOf 60 = 1 := by kernel_rfl
theorem Tryd.co61 : Tryd.prog.cellsOf 61 = 1 := by kernel_rfl
theorem Tryd.co63 : Tryd.prog.cellsOf 63 = 24 := by kernel_rfl
theorem Tryd.co70 : Tryd.prog.cellsOf 70 = 20 := by kernel_rfl
theorem Tryd.co71 : Tryd.prog.cellsOf 71 = 1 := by kernel_rfl
theorem Tryd.co72 : Tryd.prog.cellsOf 72 = 65 := by kernel_rfl
theorem Tryd.co75 : Tryd.prog.cellsOf 75 = 32 := by kernel_rfl
theorem Tryd.co76 : Tryd.prog.cellsOf 76 = 64 := by kernel_rfl
theorem Tryd.co78 : Tryd.prog.cellsOf 78 = 4 := by kernel_rfl
theorem Tryd.co79 : Tryd.prog.cellsOf 79 = 4 := by kernel_rfl
theorem Tryd.co80 : Tryd.prog.cellsOf 80 = 0 := by kernel_rfl
theorem Tryd.co81 : Tryd.prog.cellsOf 81 = 0 := by kernel_rfl
theorem Tryd.co82 : Tryd.prog.cellsOf 82 = 0 := by kernel_rfl
theorem Tryd.co84 : Tryd.prog.cellsOf 84 = 1 := by kernel_rfl
theorem Tryd.co85 : Tryd.prog.cellsOf 85 = 1 := by kernel_rfl
theorem Tryd.co87 : Tryd.prog.cellsOf 87 = 1 := by kernel_rfl
theorem Tryd.co88 : Tryd.prog.cellsOf 88 = 1 := by kernel_rfl
theorem Tryd.co89 : Tryd.prog.cellsOf 89 = 11 := by kernel_rfl
theorem Tryd.co90 : Tryd.prog.cellsOf 90 = 11 := by kernel_rfl
theorem Tryd.ri5 : rowInfo Tryd.prog 5 = some (1, 1) := by kernel_rfl
theorem Tryd.ze2 : zeroOf Tryd.prog 2 = some [.int .i64 0] := by kernel_rfl
theorem Tryd.ze3 : zeroOf Tryd.prog 3 = some [.int .i64 0] := by kernel_rfl
theorem Tryd.ze4 : zeroOf Tryd.prog 4 = some [.bool false] := by kernel_rfl
theorem Tryd.ze5 : zeroOf Tryd.prog 5 = some [.int .u8 0] := by kernel_rfl
theorem Tryd.ze6 : zeroOf Tryd.prog 6 = some [.int .u8 0] := by kernel_rfl
theorem Tryd.ze7 : zeroOf Tryd.prog 7 = some [.int .i64 0, .int .i64 0, .bool false, .int .u8 0] := by kernel_rfl
theorem Tryd.ze8 : zeroOf Tryd.prog 8 = some [.int .i64 0, .int .i64 0, .bool false, .int .u8 0] := by kernel_rfl
theorem Tryd.ze9 : zeroOf Tryd.prog 9 = some [.string ⟨#[]⟩] := by kernel_rfl
theorem Tryd.ze10 : zeroOf Tryd.prog 10 = some [.string ⟨#[]⟩] := by kernel_rfl
theorem Tryd.ze11 : zeroOf Tryd.prog 11 = some [.string ⟨#[]⟩] := by kernel_rfl
theorem Tryd.ze12 : zeroOf Tryd.prog 12 = some [.int .u64 0] := by kernel_rfl
theorem Tryd.ze13 : zeroOf Tryd.prog 13 = some [.string ⟨#[]⟩, .int .u64 0] := by kernel_rfl
theorem Tryd.ze14 : zeroOf Tryd.prog 14 = some [.string ⟨#[]⟩, .int .u64 0] := by kernel_rfl
theorem Tryd.ze15 : zeroOf Tryd.prog 15 = some [.pointer none] := by kernel_rfl
theorem Tryd.ze16 : zeroOf Tryd.prog 16 = some [.pointer none] := by kernel_rfl
theorem Tryd.ze17 : zeroOf Tryd.prog 17 = some [.pointer none] := by kernel_rfl
theorem Tryd.ze18 : zeroOf Tryd.prog 18 = some [.pointer none] := by kernel_rfl
theorem Tryd.ze19 : zeroOf Tryd.prog 19 = some [.pointer none] := by kernel_rfl
theorem Tryd.ze21 : zeroOf Tryd.prog 21 = some [.int .i32 0] := by kernel_rfl
theorem Tryd.ze22 : zeroOf Tryd.prog 22 = some [.slice none 0 0] := by kernel_rfl
theorem Tryd.ze23 : zeroOf Tryd.prog 23 = some [.int .i64 0, .slice none 0 0, .int .i64 0] := by kernel_rfl
theorem Tryd.ze24 : zeroOf Tryd.prog 24 = some [.int .i64 0, .slice none 0 0, .int .i64 0] := by kernel_rfl
theorem Tryd.ze41 : zeroOf Tryd.prog 41 = some [.int .i64 0] := by kernel_rfl
theorem Tryd.ze44 : zeroOf Tryd.prog 44 = some [.pointer none] := by kernel_rfl
theorem Tryd.ze47 : zeroOf Tryd.prog 47 = some [.int .u64 0] := by kernel_rfl
theorem Tryd.ze50 : zeroOf Tryd.prog 50 = some [.int .u64 0] := by kernel_rfl
theorem Tryd.ze52 : zeroOf Tryd.prog 52 = some [.string ⟨#[]⟩, .string ⟨#[]⟩, .nilIface] := by kernel_rfl
theorem Tryd.ze53 : zeroOf Tryd.prog 53 = some [.string ⟨#[]⟩, .string ⟨#[]⟩, .nilIface] := by kernel_rfl
theorem Tryd.ze58 : zeroOf Tryd.prog 58 = some [.pointer none] := by kernel_rfl
theorem Tryd.ze59 : zeroOf Tryd.prog 59 = some [.pointer none] := by kernel_rfl
theorem Tryd.ze60 : zeroOf Tryd.prog 60 = some [.string ⟨#[]⟩] := by kernel_rfl
theorem Tryd.ze61 : zeroOf Tryd.prog 61 = some [.string ⟨#[]⟩] := by kernel_rfl
theorem Tryd.ze71 : zeroOf Tryd.prog 71 = some [.int .u32 0] := by kernel_rfl
theorem Tryd.ze78 : zeroOf Tryd.prog 78 = some [.pointer none, .pointer none, .pointer none, .string ⟨#[]⟩] := by kernel_rfl
theorem Tryd.ze79 : zeroOf Tryd.prog 79 = some [.pointer none, .pointer none, .pointer none, .string ⟨#[]⟩] := by kernel_rfl
theorem Tryd.ze84 : zeroOf Tryd.prog 84 = some [.int .u8 0] := by kernel_rfl
theorem Tryd.ze85 : zeroOf Tryd.prog 85 = some [.int .u8 0] := by kernel_rfl
theorem Tryd.ze87 : zeroOf Tryd.prog 87 = some [.int .i32 0] := by kernel_rfl
theorem Tryd.ze88 : zeroOf Tryd.prog 88 = some [.int .i32 0] := by kernel_rfl
end Go.Proofs.YtogmkikdpjkigaaDoor
