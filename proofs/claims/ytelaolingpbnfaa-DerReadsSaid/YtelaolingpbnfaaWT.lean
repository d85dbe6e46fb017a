/- Facts on the types of this translation, for the conditions. -/
import Derived.Test.YtelaolingpbnfaaProg
import Derived.Test.YtelaolingpbnfaaWls
import Derived.KernelRfl
import Derived.Laws.BitsAllLaws
import Derived.Laws.BitsLemmas
namespace Go.Proofs.Ytelaolingpbnfaa
theorem Try.co2 : Try.prog.cellsOf 2 = 1 := by kernel_rfl
theorem Try.co3 : Try.prog.cellsOf 3 = 1 := by kernel_rfl
theorem Try.co4 : Try.prog.cellsOf 4 = 1 := by kernel_rfl
theorem Try.co5 : Try.prog.cellsOf 5 = 1 := by kernel_rfl
theorem Try.co6 : Try.prog.cellsOf 6 = 1 := by kernel_rfl
theorem Try.co7 : Try.prog.cellsOf 7 = 4 := by kernel_rfl
theorem Try.co8 : Try.prog.cellsOf 8 = 4 := by kernel_rfl
theorem Try.co9 : Try.prog.cellsOf 9 = 1 := by kernel_rfl
theorem Try.co10 : Try.prog.cellsOf 10 = 1 := by kernel_rfl
theorem Try.co11 : Try.prog.cellsOf 11 = 1 := by kernel_rfl
theorem Try.co12 : Try.prog.cellsOf 12 = 1 := by kernel_rfl
theorem Try.co13 : Try.prog.cellsOf 13 = 2 := by kernel_rfl
theorem Try.co14 : Try.prog.cellsOf 14 = 2 := by kernel_rfl
theorem Try.co15 : Try.prog.cellsOf 15 = 1 := by kernel_rfl
theorem Try.co16 : Try.prog.cellsOf 16 = 1 := by kernel_rfl
theorem Try.co17 : Try.prog.cellsOf 17 = 1 := by kernel_rfl
theorem Try.co18 : Try.prog.cellsOf 18 = 1 := by kernel_rfl
theorem Try.co19 : Try.prog.cellsOf 19 = 1 := by kernel_rfl
theorem Try.co20 : Try.prog.cellsOf 20 = 1 := by kernel_rfl
theorem Try.co21 : Try.prog.cellsOf 21 = 1 := by kernel_rfl
theorem Try.co22 : Try.prog.cellsOf 22 = 1 := by kernel_rfl
theorem Try.co24 : Try.prog.cellsOf 24 = 1 := by kernel_rfl
theorem Try.co25 : Try.prog.cellsOf 25 = 1 := by kernel_rfl
theorem Try.co35 : Try.prog.cellsOf 35 = 3 := by kernel_rfl
theorem Try.co36 : Try.prog.cellsOf 36 = 3 := by kernel_rfl
theorem Try.co37 : Try.prog.cellsOf 37 = 1 := by kernel_rfl
theorem Try.co38 : Try.prog.cellsOf 38 = 4 := by kernel_rfl
theorem Try.co39 : Try.prog.cellsOf 39 = 4 := by kernel_rfl
theorem Try.co41 : Try.prog.cellsOf 41 = 1 := by kernel_rfl
theorem Try.co42 : Try.prog.cellsOf 42 = 4 := by kernel_rfl
theorem Try.co43 : Try.prog.cellsOf 43 = 4 := by kernel_rfl
theorem Try.co46 : Try.prog.cellsOf 46 = 1 := by kernel_rfl
theorem Try.co60 : Try.prog.cellsOf 60 = 1 := by kernel_rfl
theorem Try.co61 : Try.prog.cellsOf 61 = 1 := by kernel_rfl
theorem Try.co64 : Try.prog.cellsOf 64 = 4 := by kernel_rfl
theorem Try.co65 : Try.prog.cellsOf 65 = 4 := by kernel_rfl
theorem Try.co66 : Try.prog.cellsOf 66 = 0 := by kernel_rfl
theorem Try.co67 : Try.prog.cellsOf 67 = 0 := by kernel_rfl
theorem Try.co68 : Try.prog.cellsOf 68 = 0 := by kernel_rfl
theorem Try.co70 : Try.prog.cellsOf 70 = 1 := by kernel_rfl
theorem Try.co71 : Try.prog.cellsOf 71 = 1 := by kernel_rfl
theorem Try.co72 : Try.prog.cellsOf 72 = 1 := by kernel_rfl
theorem Try.co74 : Try.prog.cellsOf 74 = 1 := by kernel_rfl
theorem Try.co75 : Try.prog.cellsOf 75 = 1 := by kernel_rfl
theorem Try.co76 : Try.prog.cellsOf 76 = 1 := by kernel_rfl
theorem Try.co77 : Try.prog.cellsOf 77 = 11 := by kernel_rfl
theorem Try.co78 : Try.prog.cellsOf 78 = 11 := by kernel_rfl
theorem Try.ri3 : rowInfo Try.prog 3 = some (1, 8) := by kernel_rfl
theorem Try.ri5 : rowInfo Try.prog 5 = some (1, 1) := by kernel_rfl
theorem Try.ri22 : rowInfo Try.prog 22 = some (1, 24) := by kernel_rfl
theorem Try.ri36 : rowInfo Try.prog 36 = some (3, 40) := by kernel_rfl
theorem Try.ze2 : zeroOf Try.prog 2 = some [.int .i64 0] := by kernel_rfl
theorem Try.ze3 : zeroOf Try.prog 3 = some [.int .i64 0] := by kernel_rfl
theorem Try.ze4 : zeroOf Try.prog 4 = some [.bool false] := by kernel_rfl
theorem Try.ze5 : zeroOf Try.prog 5 = some [.int .u8 0] := by kernel_rfl
theorem Try.ze6 : zeroOf Try.prog 6 = some [.int .u8 0] := by kernel_rfl
theorem Try.ze7 : zeroOf Try.prog 7 = some [.int .i64 0, .int .i64 0, .bool false, .int .u8 0] := by kernel_rfl
theorem Try.ze8 : zeroOf Try.prog 8 = some [.int .i64 0, .int .i64 0, .bool false, .int .u8 0] := by kernel_rfl
theorem Try.ze9 : zeroOf Try.prog 9 = some [.string ⟨#[]⟩] := by kernel_rfl
theorem Try.ze10 : zeroOf Try.prog 10 = some [.string ⟨#[]⟩] := by kernel_rfl
theorem Try.ze11 : zeroOf Try.prog 11 = some [.string ⟨#[]⟩] := by kernel_rfl
theorem Try.ze12 : zeroOf Try.prog 12 = some [.int .u64 0] := by kernel_rfl
theorem Try.ze13 : zeroOf Try.prog 13 = some [.string ⟨#[]⟩, .int .u64 0] := by kernel_rfl
theorem Try.ze14 : zeroOf Try.prog 14 = some [.string ⟨#[]⟩, .int .u64 0] := by kernel_rfl
theorem Try.ze15 : zeroOf Try.prog 15 = some [.pointer none] := by kernel_rfl
theorem Try.ze16 : zeroOf Try.prog 16 = some [.pointer none] := by kernel_rfl
theorem Try.ze17 : zeroOf Try.prog 17 = some [.pointer none] := by kernel_rfl
theorem Try.ze18 : zeroOf Try.prog 18 = some [.pointer none] := by kernel_rfl
theorem Try.ze19 : zeroOf Try.prog 19 = some [.pointer none] := by kernel_rfl
theorem Try.ze21 : zeroOf Try.prog 21 = some [.int .i32 0] := by kernel_rfl
theorem Try.ze22 : zeroOf Try.prog 22 = some [.slice none 0 0] := by kernel_rfl
theorem Try.ze24 : zeroOf Try.prog 24 = some [.slice none 0 0] := by kernel_rfl
theorem Try.ze25 : zeroOf Try.prog 25 = some [.int .i64 0] := by kernel_rfl
theorem Try.ze35 : zeroOf Try.prog 35 = some [.int .i64 0, .slice none 0 0, .int .i64 0] := by kernel_rfl
theorem Try.ze36 : zeroOf Try.prog 36 = some [.int .i64 0, .slice none 0 0, .int .i64 0] := by kernel_rfl
theorem Try.ze37 : zeroOf Try.prog 37 = some [.pointer none] := by kernel_rfl
theorem Try.ze38 : zeroOf Try.prog 38 = some [.slice none 0 0, .slice none 0 0, .int .i64 0, .int .i64 0] := by kernel_rfl
theorem Try.ze39 : zeroOf Try.prog 39 = some [.slice none 0 0, .slice none 0 0, .int .i64 0, .int .i64 0] := by kernel_rfl
theorem Try.ze41 : zeroOf Try.prog 41 = some [.pointer none] := by kernel_rfl
theorem Try.ze42 : zeroOf Try.prog 42 = some [.slice none 0 0, .slice none 0 0, .int .i64 0, .int .i64 0] := by kernel_rfl
theorem Try.ze43 : zeroOf Try.prog 43 = some [.slice none 0 0, .slice none 0 0, .int .i64 0, .int .i64 0] := by kernel_rfl
theorem Try.ze46 : zeroOf Try.prog 46 = some [.slice none 0 0] := by kernel_rfl
theorem Try.ze60 : zeroOf Try.prog 60 = some [.slice none 0 0] := by kernel_rfl
theorem Try.ze61 : zeroOf Try.prog 61 = some [.int .u64 0] := by kernel_rfl
theorem Try.ze64 : zeroOf Try.prog 64 = some [.pointer none, .pointer none, .pointer none, .string ⟨#[]⟩] := by kernel_rfl
theorem Try.ze65 : zeroOf Try.prog 65 = some [.pointer none, .pointer none, .pointer none, .string ⟨#[]⟩] := by kernel_rfl
theorem Try.ze70 : zeroOf Try.prog 70 = some [.int .u32 0] := by kernel_rfl
theorem Try.ze71 : zeroOf Try.prog 71 = some [.int .u8 0] := by kernel_rfl
theorem Try.ze72 : zeroOf Try.prog 72 = some [.int .u8 0] := by kernel_rfl
theorem Try.ze74 : zeroOf Try.prog 74 = some [.pointer none] := by kernel_rfl
theorem Try.ze75 : zeroOf Try.prog 75 = some [.int .i32 0] := by kernel_rfl
theorem Try.ze76 : zeroOf Try.prog 76 = some [.int .i32 0] := by kernel_rfl
end Go.Proofs.Ytelaolingpbnfaa
