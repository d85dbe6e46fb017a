/- Facts on the types of this translation, for the conditions. -/
import Derived.Test.YthgiglmfgbediaaDoorProg
import Derived.Test.YthgiglmfgbediaaDoorWls
import Derived.KernelRfl
import Derived.Laws.BitsAllLaws
import Derived.Laws.BitsLemmas
namespace Go.Proofs.YthgiglmfgbediaaDoor
theorem Tryd.co2 : Tryd.prog.cellsOf 2 = 1 := by kernel_rfl
theorem Tryd.co3 : Tryd.prog.cellsOf 3 = 1 := by kernel_rfl
theorem Tryd.co4 : Tryd.prog.cellsOf 4 = 1 := by kernel_rfl
theorem Tryd.co5 : Tryd.prog.cellsOf 5 = 1 := by kernel_rfl
theorem Tryd.co6 : Tryd.prog.cellsOf 6 = 1 := by kernel_rfl
theorem Tryd.co7 : Tryd.prog.cellsOf 7 = 4 := by kernel_rfl
theorem Tryd.co8 : Tryd.prog.cellsOf 8 = 4 := by kernel_rfl
theorem Tryd.co9 : Tryd.prog.cellsOf 9 = 1 := by kernel_rfl
theorem Tryd.co10 : Tryd.prog.cellsOf 10 = 1 := by kernel_rfl
theorem Tryd.co11 : Tryd.prog.cellsOf 11 = 1 := by kernel_rfl
theorem Tryd.co12 : Tryd.prog.cellsOf 12 = 1 := by kernel_rfl
theorem Tryd.co13 : Tryd.prog.cellsOf 13 = 2 := by kernel_rfl
theorem Tryd.co14 : Tryd.prog.cellsOf 14 = 2 := by kernel_rfl
theorem Tryd.co15 : Tryd.prog.cellsOf 15 = 1 := by kernel_rfl
theorem Tryd.co16 : Tryd.prog.cellsOf 16 = 1 := by kernel_rfl
theorem Tryd.co17 : Tryd.prog.cellsOf 17 = 1 := by kernel_rfl
theorem Tryd.co18 : Tryd.prog.cellsOf 18 = 1 := by kernel_rfl
theorem Tryd.co19 : Tryd.prog.cellsOf 19 = 1 := by kernel_rfl
theorem Tryd.co20 : Tryd.prog.cellsOf 20 = 1 := by kernel_rfl
theorem Tryd.co21 : Tryd.prog.cellsOf 21 = 1 := by kernel_rfl
theorem Tryd.co22 : Tryd.prog.cellsOf 22 = 1 := by kernel_rfl
theorem Tryd.co23 : Tryd.prog.cellsOf 23 = 1 := by kernel_rfl
theorem Tryd.co24 : Tryd.prog.cellsOf 24 = 1 := by kernel_rfl
theorem Tryd.co25 : Tryd.prog.cellsOf 25 = 7 := by kernel_rfl
theorem Tryd.co26 : Tryd.prog.cellsOf 26 = 7 := by kernel_rfl
theorem Tryd.co27 : Tryd.prog.cellsOf 27 = 1 := by kernel_rfl
theorem Tryd.co28 : Tryd.prog.cellsOf 28 = 1 := by kernel_rfl
theorem Tryd.co29 : Tryd.prog.cellsOf 29 = 20 := by kernel_rfl
theorem Tryd.co30 : Tryd.prog.cellsOf 30 = 20 := by kernel_rfl
theorem Tryd.co47 : Tryd.prog.cellsOf 47 = 256 := by kernel_rfl
theorem Tryd.co48 : Tryd.prog.cellsOf 48 = 256 := by kernel_rfl
theorem Tryd.co52 : Tryd.prog.cellsOf 52 = 1 := by kernel_rfl
theorem Tryd.co53 : Tryd.prog.cellsOf 53 = 1 := by kernel_rfl
theorem Tryd.co54 : Tryd.prog.cellsOf 54 = 2 := by kernel_rfl
theorem Tryd.co55 : Tryd.prog.cellsOf 55 = 2 := by kernel_rfl
theorem Tryd.co60 : Tryd.prog.cellsOf 60 = 1 := by kernel_rfl
theorem Tryd.co61 : Tryd.prog.cellsOf 61 = 1 := by kernel_rfl
theorem Tryd.co73 : Tryd.prog.cellsOf 73 = 1 := by kernel_rfl
theorem Tryd.co75 : Tryd.prog.cellsOf 75 = 1 := by kernel_rfl
theorem Tryd.co77 : Tryd.prog.cellsOf 77 = 1 := by kernel_rfl
theorem Tryd.co80 : Tryd.prog.cellsOf 80 = 256 := by kernel_rfl
theorem Tryd.co81 : Tryd.prog.cellsOf 81 = 2 := by kernel_rfl
theorem Tryd.co82 : Tryd.prog.cellsOf 82 = 2 := by kernel_rfl
theorem Tryd.co83 : Tryd.prog.cellsOf 83 = 32 := by kernel_rfl
theorem Tryd.co88 : Tryd.prog.cellsOf 88 = 4 := by kernel_rfl
theorem Tryd.co89 : Tryd.prog.cellsOf 89 = 4 := by kernel_rfl
theorem Tryd.co90 : Tryd.prog.cellsOf 90 = 0 := by kernel_rfl
theorem Tryd.co91 : Tryd.prog.cellsOf 91 = 0 := by kernel_rfl
theorem Tryd.co92 : Tryd.prog.cellsOf 92 = 0 := by kernel_rfl
theorem Tryd.co93 : Tryd.prog.cellsOf 93 = 1 := by kernel_rfl
theorem Tryd.co94 : Tryd.prog.cellsOf 94 = 1 := by kernel_rfl
theorem Tryd.co96 : Tryd.prog.cellsOf 96 = 1 := by kernel_rfl
theorem Tryd.co97 : Tryd.prog.cellsOf 97 = 1 := by kernel_rfl
theorem Tryd.co98 : Tryd.prog.cellsOf 98 = 11 := by kernel_rfl
theorem Tryd.co99 : Tryd.prog.cellsOf 99 = 11 := by kernel_rfl
theorem Tryd.ri5 : rowInfo Tryd.prog 5 = some (1, 1) := by kernel_rfl
theorem Tryd.ri9 : rowInfo Tryd.prog 9 = some (1, 16) := by kernel_rfl
theorem Tryd.ze2 : zeroOf Tryd.prog 2 = some [.int .i64 0] := by kernel_rfl
theorem Tryd.ze3 : zeroOf Tryd.prog 3 = some [.int .i64 0] := by kernel_rfl
theorem Tryd.ze4 : zeroOf Tryd.prog 4 = some [.bool false] := by kernel_rfl
theorem Tryd.ze5 : zeroOf Tryd.prog 5 = some [.int .u8 0] := by kernel_rfl
theorem Tryd.ze6 : zeroOf Tryd.prog 6 = some [.int .u8 0] := by kernel_rfl
theorem Tryd.ze7 : zeroOf Tryd.prog 7 = some [.int .i64 0, .int .i64 0, .bool false, .int .u8 0] := by kernel_rfl
theorem Tryd.ze8 : zeroOf Tryd.prog 8 = some [.int .i64 0, .int .i64 0, .bool false, .int .u8 0] := by kernel_rfl
theorem Tryd.ze9 : zeroOf Tryd.prog 9 = some [.string ⟨#[]⟩] := by kernel_rfl
theorem Tryd.ze10 : zeroOf Tryd.prog 10 = some [.string ⟨#[]⟩] := by kernel_rfl
theorem Tryd.ze11 : zeroOf Tryd.prog 11 = some [.string ⟨#[]⟩] := by kernel_rfl
theorem Tryd.ze12 : zeroOf Tryd.prog 12 = some [.int .u64 0] := by kernel_rfl
theorem Tryd.ze13 : zeroOf Tryd.prog 13 = some [.string ⟨#[]⟩, .int .u64 0] := by kernel_rfl
theorem Tryd.ze14 : zeroOf Tryd.prog 14 = some [.string ⟨#[]⟩, .int .u64 0] := by kernel_rfl
theorem Tryd.ze15 : zeroOf Tryd.prog 15 = some [.pointer none] := by kernel_rfl
theorem Tryd.ze16 : zeroOf Tryd.prog 16 = some [.pointer none] := by kernel_rfl
theorem Tryd.ze17 : zeroOf Tryd.prog 17 = some [.pointer none] := by kernel_rfl
theorem Tryd.ze18 : zeroOf Tryd.prog 18 = some [.pointer none] := by kernel_rfl
theorem Tryd.ze19 : zeroOf Tryd.prog 19 = some [.pointer none] := by kernel_rfl
theorem Tryd.ze21 : zeroOf Tryd.prog 21 = some [.int .i32 0] := by kernel_rfl
theorem Tryd.ze22 : zeroOf Tryd.prog 22 = some [.slice none 0 0] := by kernel_rfl
theorem Tryd.ze23 : zeroOf Tryd.prog 23 = some [.int .i64 0] := by kernel_rfl
theorem Tryd.ze24 : zeroOf Tryd.prog 24 = some [.int .i64 0] := by kernel_rfl
theorem Tryd.ze25 : zeroOf Tryd.prog 25 = some [.int .i64 0, .int .i64 0, .slice none 0 0, .slice none 0 0, .slice none 0 0, .slice none 0 0, .slice none 0 0] := by kernel_rfl
theorem Tryd.ze26 : zeroOf Tryd.prog 26 = some [.int .i64 0, .int .i64 0, .slice none 0 0, .slice none 0 0, .slice none 0 0, .slice none 0 0, .slice none 0 0] := by kernel_rfl
theorem Tryd.ze27 : zeroOf Tryd.prog 27 = some [.slice none 0 0] := by kernel_rfl
theorem Tryd.ze28 : zeroOf Tryd.prog 28 = some [.int .i64 0] := by kernel_rfl
theorem Tryd.ze29 : zeroOf Tryd.prog 29 = some [.slice none 0 0, .slice none 0 0, .slice none 0 0, .slice none 0 0, .int .i64 0, .int .i64 0, .int .i64 0, .int .i64 0, .slice none 0 0, .slice none 0 0, .slice none 0 0, .slice none 0 0, .slice none 0 0, .bool false, .int .i64 0, .int .i64 0, .bool false, .slice none 0 0, .int .i64 0, .slice none 0 0] := by kernel_rfl
theorem Tryd.ze30 : zeroOf Tryd.prog 30 = some [.slice none 0 0, .slice none 0 0, .slice none 0 0, .slice none 0 0, .int .i64 0, .int .i64 0, .int .i64 0, .int .i64 0, .slice none 0 0, .slice none 0 0, .slice none 0 0, .slice none 0 0, .slice none 0 0, .bool false, .int .i64 0, .int .i64 0, .bool false, .slice none 0 0, .int .i64 0, .slice none 0 0] := by kernel_rfl
theorem Tryd.ze52 : zeroOf Tryd.prog 52 = some [.pointer none] := by kernel_rfl
theorem Tryd.ze53 : zeroOf Tryd.prog 53 = some [.pointer none] := by kernel_rfl
theorem Tryd.ze54 : zeroOf Tryd.prog 54 = some [.pointer none, .slice none 0 0] := by kernel_rfl
theorem Tryd.ze55 : zeroOf Tryd.prog 55 = some [.pointer none, .slice none 0 0] := by kernel_rfl
theorem Tryd.ze73 : zeroOf Tryd.prog 73 = some [.int .u64 0] := by kernel_rfl
theorem Tryd.ze75 : zeroOf Tryd.prog 75 = some [.pointer none] := by kernel_rfl
theorem Tryd.ze77 : zeroOf Tryd.prog 77 = some [.int .u32 0] := by kernel_rfl
theorem Tryd.ze81 : zeroOf Tryd.prog 81 = some [.int .u8 0, .int .u8 0] := by kernel_rfl
theorem Tryd.ze82 : zeroOf Tryd.prog 82 = some [.int .u8 0, .int .u8 0] := by kernel_rfl
theorem Tryd.ze88 : zeroOf Tryd.prog 88 = some [.pointer none, .pointer none, .pointer none, .string ⟨#[]⟩] := by kernel_rfl
theorem Tryd.ze89 : zeroOf Tryd.prog 89 = some [.pointer none, .pointer none, .pointer none, .string ⟨#[]⟩] := by kernel_rfl
theorem Tryd.ze93 : zeroOf Tryd.prog 93 = some [.int .u8 0] := by kernel_rfl
theorem Tryd.ze94 : zeroOf Tryd.prog 94 = some [.int .u8 0] := by kernel_rfl
theorem Tryd.ze96 : zeroOf Tryd.prog 96 = some [.int .i32 0] := by kernel_rfl
theorem Tryd.ze97 : zeroOf Tryd.prog 97 = some [.int .i32 0] := by kernel_rfl
end Go.Proofs.YthgiglmfgbediaaDoor
