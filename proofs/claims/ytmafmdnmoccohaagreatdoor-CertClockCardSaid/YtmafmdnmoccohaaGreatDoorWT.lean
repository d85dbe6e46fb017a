/- Facts on the types of this translation, for the conditions. -/
import Derived.Test.YtmafmdnmoccohaaGreatDoorProg
import Derived.Test.YtmafmdnmoccohaaGreatDoorWls
import Derived.KernelRfl
import Derived.Laws.BitsAllLaws
import Derived.Laws.BitsLemmas
namespace Go.Proofs.YtmafmdnmoccohaaGreatDoor
theorem Tryz.co2 : Tryz.prog.cellsOf 2 = 1 := by kernel_rfl
theorem Tryz.co3 : Tryz.prog.cellsOf 3 = 1 := by kernel_rfl
theorem Tryz.co4 : Tryz.prog.cellsOf 4 = 1 := by kernel_rfl
theorem Tryz.co5 : Tryz.prog.cellsOf 5 = 1 := by kernel_rfl
theorem Tryz.co6 : Tryz.prog.cellsOf 6 = 1 := by kernel_rfl
theorem Tryz.co7 : Tryz.prog.cellsOf 7 = 4 := by kernel_rfl
theorem Tryz.co8 : Tryz.prog.cellsOf 8 = 4 := by kernel_rfl
theorem Tryz.co9 : Tryz.prog.cellsOf 9 = 1 := by kernel_rfl
theorem Tryz.co10 : Tryz.prog.cellsOf 10 = 1 := by kernel_rfl
theorem Tryz.co11 : Tryz.prog.cellsOf 11 = 1 := by kernel_rfl
theorem Tryz.co12 : Tryz.prog.cellsOf 12 = 1 := by kernel_rfl
theorem Tryz.co13 : Tryz.prog.cellsOf 13 = 2 := by kernel_rfl
theorem Tryz.co14 : Tryz.prog.cellsOf 14 = 2 := by kernel_rfl
theorem Tryz.co15 : Tryz.prog.cellsOf 15 = 1 := by kernel_rfl
theorem Tryz.co16 : Tryz.prog.cellsOf 16 = 1 := by kernel_rfl
theorem Tryz.co17 : Tryz.prog.cellsOf 17 = 1 := by kernel_rfl
theorem Tryz.co18 : Tryz.prog.cellsOf 18 = 1 := by kernel_rfl
theorem Tryz.co19 : Tryz.prog.cellsOf 19 = 1 := by kernel_rfl
theorem Tryz.co20 : Tryz.prog.cellsOf 20 = 1 := by kernel_rfl
theorem Tryz.co21 : Tryz.prog.cellsOf 21 = 1 := by kernel_rfl
theorem Tryz.co22 : Tryz.prog.cellsOf 22 = 6 := by kernel_rfl
theorem Tryz.co23 : Tryz.prog.cellsOf 23 = 6 := by kernel_rfl
theorem Tryz.co27 : Tryz.prog.cellsOf 27 = 1 := by kernel_rfl
theorem Tryz.co28 : Tryz.prog.cellsOf 28 = 3 := by kernel_rfl
theorem Tryz.co29 : Tryz.prog.cellsOf 29 = 3 := by kernel_rfl
theorem Tryz.co34 : Tryz.prog.cellsOf 34 = 1 := by kernel_rfl
theorem Tryz.co35 : Tryz.prog.cellsOf 35 = 1 := by kernel_rfl
theorem Tryz.co36 : Tryz.prog.cellsOf 36 = 7 := by kernel_rfl
theorem Tryz.co37 : Tryz.prog.cellsOf 37 = 7 := by kernel_rfl
theorem Tryz.co38 : Tryz.prog.cellsOf 38 = 1 := by kernel_rfl
theorem Tryz.co39 : Tryz.prog.cellsOf 39 = 1 := by kernel_rfl
theorem Tryz.co40 : Tryz.prog.cellsOf 40 = 20 := by kernel_rfl
theorem Tryz.co41 : Tryz.prog.cellsOf 41 = 20 := by kernel_rfl
theorem Tryz.co42 : Tryz.prog.cellsOf 42 = 1 := by kernel_rfl
theorem Tryz.co50 : Tryz.prog.cellsOf 50 = 6 := by kernel_rfl
theorem Tryz.co51 : Tryz.prog.cellsOf 51 = 1 := by kernel_rfl
theorem Tryz.co54 : Tryz.prog.cellsOf 54 = 1 := by kernel_rfl
theorem Tryz.co55 : Tryz.prog.cellsOf 55 = 25 := by kernel_rfl
theorem Tryz.co56 : Tryz.prog.cellsOf 56 = 25 := by kernel_rfl
theorem Tryz.co61 : Tryz.prog.cellsOf 61 = 12 := by kernel_rfl
theorem Tryz.co63 : Tryz.prog.cellsOf 63 = 1 := by kernel_rfl
theorem Tryz.co64 : Tryz.prog.cellsOf 64 = 1 := by kernel_rfl
theorem Tryz.co67 : Tryz.prog.cellsOf 67 = 1 := by kernel_rfl
theorem Tryz.co68 : Tryz.prog.cellsOf 68 = 4 := by kernel_rfl
theorem Tryz.co69 : Tryz.prog.cellsOf 69 = 4 := by kernel_rfl
theorem Tryz.co78 : Tryz.prog.cellsOf 78 = 1 := by kernel_rfl
theorem Tryz.co79 : Tryz.prog.cellsOf 79 = 3 := by kernel_rfl
theorem Tryz.co84 : Tryz.prog.cellsOf 84 = 1 := by kernel_rfl
theorem Tryz.co85 : Tryz.prog.cellsOf 85 = 2 := by kernel_rfl
theorem Tryz.co86 : Tryz.prog.cellsOf 86 = 2 := by kernel_rfl
theorem Tryz.co95 : Tryz.prog.cellsOf 95 = 2 := by kernel_rfl
theorem Tryz.co96 : Tryz.prog.cellsOf 96 = 2 := by kernel_rfl
theorem Tryz.co97 : Tryz.prog.cellsOf 97 = 1 := by kernel_rfl
theorem Tryz.co98 : Tryz.prog.cellsOf 98 = 1 := by kernel_rfl
theorem Tryz.co100 : Tryz.prog.cellsOf 100 = 1 := by kernel_rfl
theorem Tryz.co101 : Tryz.prog.cellsOf 101 = 1 := by kernel_rfl
theorem Tryz.co110 : Tryz.prog.cellsOf 110 = 1 := by kernel_rfl
theorem Tryz.co111 : Tryz.prog.cellsOf 111 = 1 := by kernel_rfl
theorem Tryz.co112 : Tryz.prog.cellsOf 112 = 3 := by kernel_rfl
theorem Tryz.co113 : Tryz.prog.cellsOf 113 = 3 := by kernel_rfl
theorem Tryz.co117 : Tryz.prog.cellsOf 117 = 1 := by kernel_rfl
theorem Tryz.co118 : Tryz.prog.cellsOf 118 = 1 := by kernel_rfl
theorem Tryz.co121 : Tryz.prog.cellsOf 121 = 1 := by kernel_rfl
theorem Tryz.co124 : Tryz.prog.cellsOf 124 = 1 := by kernel_rfl
theorem Tryz.co133 : Tryz.prog.cellsOf 133 = 1 := by kernel_rfl
theorem Tryz.co134 : Tryz.prog.cellsOf 134 = 2 := by kernel_rfl
theorem Tryz.co135 : Tryz.prog.cellsOf 135 = 2 := by kernel_rfl
theorem Tryz.co139 : Tryz.prog.cellsOf 139 = 1 := by kernel_rfl
theorem Tryz.co142 : Tryz.prog.cellsOf 142 = 1 := by kernel_rfl
theorem Tryz.co145 : Tryz.prog.cellsOf 145 = 1 := by kernel_rfl
theorem Tryz.co147 : Tryz.prog.cellsOf 147 = 1 := by kernel_rfl
theorem Tryz.co149 : Tryz.prog.cellsOf 149 = 7 := by kernel_rfl
theorem Tryz.co150 : Tryz.prog.cellsOf 150 = 7 := by kernel_rfl
theorem Tryz.co152 : Tryz.prog.cellsOf 152 = 2 := by kernel_rfl
theorem Tryz.co153 : Tryz.prog.cellsOf 153 = 2 := by kernel_rfl
theorem Tryz.co159 : Tryz.prog.cellsOf 159 = 1 := by kernel_rfl
theorem Tryz.co160 : Tryz.prog.cellsOf 160 = 1 := by kernel_rfl
theorem Tryz.co161 : Tryz.prog.cellsOf 161 = 1 := by kernel_rfl
theorem Tryz.co162 : Tryz.prog.cellsOf 162 = 1 := by kernel_rfl
theorem Tryz.co165 : Tryz.prog.cellsOf 165 = 1 := by kernel_rfl
theorem Tryz.co167 : Tryz.prog.cellsOf 167 = 1 := by kernel_rfl
theorem Tryz.co168 : Tryz.prog.cellsOf 168 = 1 := by kernel_rfl
theorem Tryz.co173 : Tryz.prog.cellsOf 173 = 3 := by kernel_rfl
theorem Tryz.co174 : Tryz.prog.cellsOf 174 = 3 := by kernel_rfl
theorem Tryz.co177 : Tryz.prog.cellsOf 177 = 1 := by kernel_rfl
theorem Tryz.co180 : Tryz.prog.cellsOf 180 = 1 := by kernel_rfl
theorem Tryz.co193 : Tryz.prog.cellsOf 193 = 8 := by kernel_rfl
theorem Tryz.co200 : Tryz.prog.cellsOf 200 = 1 := by kernel_rfl
theorem Tryz.co201 : Tryz.prog.cellsOf 201 = 1 := by kernel_rfl
theorem Tryz.co202 : Tryz.prog.cellsOf 202 = 1 := by kernel_rfl
theorem Tryz.co203 : Tryz.prog.cellsOf 203 = 24 := by kernel_rfl
theorem Tryz.co222 : Tryz.prog.cellsOf 222 = 20 := by kernel_rfl
theorem Tryz.co223 : Tryz.prog.cellsOf 223 = 65 := by kernel_rfl
theorem Tryz.co227 : Tryz.prog.cellsOf 227 = 3 := by kernel_rfl
theorem Tryz.co228 : Tryz.prog.cellsOf 228 = 3 := by kernel_rfl
theorem Tryz.co238 : Tryz.prog.cellsOf 238 = 1 := by kernel_rfl
theorem Tryz.co242 : Tryz.prog.cellsOf 242 = 32 := by kernel_rfl
theorem Tryz.co243 : Tryz.prog.cellsOf 243 = 64 := by kernel_rfl
theorem Tryz.co257 : Tryz.prog.cellsOf 257 = 4 := by kernel_rfl
theorem Tryz.co258 : Tryz.prog.cellsOf 258 = 4 := by kernel_rfl
theorem Tryz.co259 : Tryz.prog.cellsOf 259 = 0 := by kernel_rfl
theorem Tryz.co260 : Tryz.prog.cellsOf 260 = 0 := by kernel_rfl
theorem Tryz.co261 : Tryz.prog.cellsOf 261 = 0 := by kernel_rfl
theorem Tryz.co262 : Tryz.prog.cellsOf 262 = 1 := by kernel_rfl
theorem Tryz.co263 : Tryz.prog.cellsOf 263 = 1 := by kernel_rfl
theorem Tryz.co265 : Tryz.prog.cellsOf 265 = 1 := by kernel_rfl
theorem Tryz.co266 : Tryz.prog.cellsOf 266 = 1 := by kernel_rfl
theorem Tryz.co267 : Tryz.prog.cellsOf 267 = 11 := by kernel_rfl
theorem Tryz.co268 : Tryz.prog.cellsOf 268 = 11 := by kernel_rfl
theorem Tryz.co275 : Tryz.prog.cellsOf 275 = 2 := by kernel_rfl
theorem Tryz.co276 : Tryz.prog.cellsOf 276 = 2 := by kernel_rfl
theorem Tryz.co277 : Tryz.prog.cellsOf 277 = 1 := by kernel_rfl
theorem Tryz.co279 : Tryz.prog.cellsOf 279 = 1 := by kernel_rfl
theorem Tryz.co280 : Tryz.prog.cellsOf 280 = 5 := by kernel_rfl
theorem Tryz.co281 : Tryz.prog.cellsOf 281 = 5 := by kernel_rfl
theorem Tryz.co282 : Tryz.prog.cellsOf 282 = 1 := by kernel_rfl
theorem Tryz.co283 : Tryz.prog.cellsOf 283 = 1 := by kernel_rfl
theorem Tryz.co284 : Tryz.prog.cellsOf 284 = 4 := by kernel_rfl
theorem Tryz.co285 : Tryz.prog.cellsOf 285 = 4 := by kernel_rfl
theorem Tryz.ri3 : rowInfo Tryz.prog 3 = some (1, 8) := by kernel_rfl
theorem Tryz.ri5 : rowInfo Tryz.prog 5 = some (1, 1) := by kernel_rfl
theorem Tryz.ri9 : rowInfo Tryz.prog 9 = some (1, 16) := by kernel_rfl
theorem Tryz.ri27 : rowInfo Tryz.prog 27 = some (1, 24) := by kernel_rfl
theorem Tryz.ri29 : rowInfo Tryz.prog 29 = some (3, 40) := by kernel_rfl
theorem Tryz.ri64 : rowInfo Tryz.prog 64 = some (1, 16) := by kernel_rfl
theorem Tryz.ri79 : rowInfo Tryz.prog 79 = some (3, 32) := by kernel_rfl
theorem Tryz.ri96 : rowInfo Tryz.prog 96 = some (2, 24) := by kernel_rfl
theorem Tryz.ri111 : rowInfo Tryz.prog 111 = some (1, 24) := by kernel_rfl
theorem Tryz.ri180 : rowInfo Tryz.prog 180 = some (1, 4) := by kernel_rfl
theorem Tryz.ri285 : rowInfo Tryz.prog 285 = some (4, 16) := by kernel_rfl
theorem Tryz.ze2 : zeroOf Tryz.prog 2 = some [.int .i64 0] := by kernel_rfl
theorem Tryz.ze3 : zeroOf Tryz.prog 3 = some [.int .i64 0] := by kernel_rfl
theorem Tryz.ze4 : zeroOf Tryz.prog 4 = some [.bool false] := by kernel_rfl
theorem Tryz.ze5 : zeroOf Tryz.prog 5 = some [.int .u8 0] := by kernel_rfl
theorem Tryz.ze6 : zeroOf Tryz.prog 6 = some [.int .u8 0] := by kernel_rfl
theorem Tryz.ze7 : zeroOf Tryz.prog 7 = some [.int .i64 0, .int .i64 0, .bool false, .int .u8 0] := by kernel_rfl
theorem Tryz.ze8 : zeroOf Tryz.prog 8 = some [.int .i64 0, .int .i64 0, .bool false, .int .u8 0] := by kernel_rfl
theorem Tryz.ze9 : zeroOf Tryz.prog 9 = some [.string ⟨#[]⟩] := by kernel_rfl
theorem Tryz.ze10 : zeroOf Tryz.prog 10 = some [.string ⟨#[]⟩] := by kernel_rfl
theorem Tryz.ze11 : zeroOf Tryz.prog 11 = some [.string ⟨#[]⟩] := by kernel_rfl
theorem Tryz.ze12 : zeroOf Tryz.prog 12 = some [.int .u64 0] := by kernel_rfl
theorem Tryz.ze13 : zeroOf Tryz.prog 13 = some [.string ⟨#[]⟩, .int .u64 0] := by kernel_rfl
theorem Tryz.ze14 : zeroOf Tryz.prog 14 = some [.string ⟨#[]⟩, .int .u64 0] := by kernel_rfl
theorem Tryz.ze15 : zeroOf Tryz.prog 15 = some [.pointer none] := by kernel_rfl
theorem Tryz.ze16 : zeroOf Tryz.prog 16 = some [.pointer none] := by kernel_rfl
theorem Tryz.ze17 : zeroOf Tryz.prog 17 = some [.pointer none] := by kernel_rfl
theorem Tryz.ze18 : zeroOf Tryz.prog 18 = some [.pointer none] := by kernel_rfl
theorem Tryz.ze19 : zeroOf Tryz.prog 19 = some [.pointer none] := by kernel_rfl
theorem Tryz.ze21 : zeroOf Tryz.prog 21 = some [.int .i32 0] := by kernel_rfl
theorem Tryz.ze22 : zeroOf Tryz.prog 22 = some [.int .i64 0, .int .i64 0, .int .i64 0, .int .i64 0, .int .i64 0, .int .i64 0] := by kernel_rfl
theorem Tryz.ze23 : zeroOf Tryz.prog 23 = some [.int .i64 0, .int .i64 0, .int .i64 0, .int .i64 0, .int .i64 0, .int .i64 0] := by kernel_rfl
theorem Tryz.ze27 : zeroOf Tryz.prog 27 = some [.slice none 0 0] := by kernel_rfl
theorem Tryz.ze28 : zeroOf Tryz.prog 28 = some [.int .i64 0, .slice none 0 0, .int .i64 0] := by kernel_rfl
theorem Tryz.ze29 : zeroOf Tryz.prog 29 = some [.int .i64 0, .slice none 0 0, .int .i64 0] := by kernel_rfl
theorem Tryz.ze34 : zeroOf Tryz.prog 34 = some [.int .i64 0] := by kernel_rfl
theorem Tryz.ze35 : zeroOf Tryz.prog 35 = some [.int .i64 0] := by kernel_rfl
theorem Tryz.ze36 : zeroOf Tryz.prog 36 = some [.int .i64 0, .int .i64 0, .slice none 0 0, .slice none 0 0, .slice none 0 0, .slice none 0 0, .slice none 0 0] := by kernel_rfl
theorem Tryz.ze37 : zeroOf Tryz.prog 37 = some [.int .i64 0, .int .i64 0, .slice none 0 0, .slice none 0 0, .slice none 0 0, .slice none 0 0, .slice none 0 0] := by kernel_rfl
theorem Tryz.ze38 : zeroOf Tryz.prog 38 = some [.slice none 0 0] := by kernel_rfl
theorem Tryz.ze39 : zeroOf Tryz.prog 39 = some [.int .i64 0] := by kernel_rfl
theorem Tryz.ze40 : zeroOf Tryz.prog 40 = some [.slice none 0 0, .slice none 0 0, .slice none 0 0, .slice none 0 0, .int .i64 0, .int .i64 0, .int .i64 0, .int .i64 0, .slice none 0 0, .slice none 0 0, .slice none 0 0, .slice none 0 0, .slice none 0 0, .bool false, .int .i64 0, .int .i64 0, .bool false, .slice none 0 0, .int .i64 0, .slice none 0 0] := by kernel_rfl
theorem Tryz.ze41 : zeroOf Tryz.prog 41 = some [.slice none 0 0, .slice none 0 0, .slice none 0 0, .slice none 0 0, .int .i64 0, .int .i64 0, .int .i64 0, .int .i64 0, .slice none 0 0, .slice none 0 0, .slice none 0 0, .slice none 0 0, .slice none 0 0, .bool false, .int .i64 0, .int .i64 0, .bool false, .slice none 0 0, .int .i64 0, .slice none 0 0] := by kernel_rfl
theorem Tryz.ze42 : zeroOf Tryz.prog 42 = some [.int .i64 0] := by kernel_rfl
theorem Tryz.ze50 : zeroOf Tryz.prog 50 = some [.int .i64 0, .int .i64 0, .int .i64 0, .int .i64 0, .int .i64 0, .int .i64 0] := by kernel_rfl
theorem Tryz.ze51 : zeroOf Tryz.prog 51 = some [.slice none 0 0] := by kernel_rfl
theorem Tryz.ze54 : zeroOf Tryz.prog 54 = some [.pointer none] := by kernel_rfl
theorem Tryz.ze55 : zeroOf Tryz.prog 55 = some [.slice none 0 0, .int .i64 0, .bool false, .slice none 0 0, .slice none 0 0, .slice none 0 0, .slice none 0 0, .slice none 0 0, .int .i64 0, .int .i64 0, .int .i64 0, .int .i64 0, .slice none 0 0, .slice none 0 0, .slice none 0 0, .slice none 0 0, .slice none 0 0, .bool false, .int .i64 0, .int .i64 0, .bool false, .slice none 0 0, .int .i64 0, .slice none 0 0, .slice none 0 0] := by kernel_rfl
theorem Tryz.ze56 : zeroOf Tryz.prog 56 = some [.slice none 0 0, .int .i64 0, .bool false, .slice none 0 0, .slice none 0 0, .slice none 0 0, .slice none 0 0, .slice none 0 0, .int .i64 0, .int .i64 0, .int .i64 0, .int .i64 0, .slice none 0 0, .slice none 0 0, .slice none 0 0, .slice none 0 0, .slice none 0 0, .bool false, .int .i64 0, .int .i64 0, .bool false, .slice none 0 0, .int .i64 0, .slice none 0 0, .slice none 0 0] := by kernel_rfl
theorem Tryz.ze61 : zeroOf Tryz.prog 61 = some [.int .i64 0, .int .i64 0, .int .i64 0, .int .i64 0, .int .i64 0, .int .i64 0, .int .i64 0, .int .i64 0, .int .i64 0, .int .i64 0, .int .i64 0, .int .i64 0] := by kernel_rfl
theorem Tryz.ze67 : zeroOf Tryz.prog 67 = some [.pointer none] := by kernel_rfl
theorem Tryz.ze68 : zeroOf Tryz.prog 68 = some [.slice none 0 0, .slice none 0 0, .int .i64 0, .int .i64 0] := by kernel_rfl
theorem Tryz.ze69 : zeroOf Tryz.prog 69 = some [.slice none 0 0, .slice none 0 0, .int .i64 0, .int .i64 0] := by kernel_rfl
theorem Tryz.ze78 : zeroOf Tryz.prog 78 = some [.slice none 0 0] := by kernel_rfl
theorem Tryz.ze79 : zeroOf Tryz.prog 79 = some [.string ⟨#[]⟩, .int .i64 0, .bool false] := by kernel_rfl
theorem Tryz.ze84 : zeroOf Tryz.prog 84 = some [.pointer none] := by kernel_rfl
theorem Tryz.ze85 : zeroOf Tryz.prog 85 = some [.string ⟨#[]⟩, .nilIface] := by kernel_rfl
theorem Tryz.ze86 : zeroOf Tryz.prog 86 = some [.string ⟨#[]⟩, .nilIface] := by kernel_rfl
theorem Tryz.ze97 : zeroOf Tryz.prog 97 = some [.slice none 0 0] := by kernel_rfl
theorem Tryz.ze98 : zeroOf Tryz.prog 98 = some [.pointer none] := by kernel_rfl
theorem Tryz.ze100 : zeroOf Tryz.prog 100 = some [.slice none 0 0] := by kernel_rfl
theorem Tryz.ze101 : zeroOf Tryz.prog 101 = some [.int .u64 0] := by kernel_rfl
theorem Tryz.ze110 : zeroOf Tryz.prog 110 = some [.slice none 0 0] := by kernel_rfl
theorem Tryz.ze111 : zeroOf Tryz.prog 111 = some [.slice none 0 0] := by kernel_rfl
theorem Tryz.ze112 : zeroOf Tryz.prog 112 = some [.slice none 0 0, .slice none 0 0, .bool false] := by kernel_rfl
theorem Tryz.ze113 : zeroOf Tryz.prog 113 = some [.slice none 0 0, .slice none 0 0, .bool false] := by kernel_rfl
theorem Tryz.ze121 : zeroOf Tryz.prog 121 = some [.int .i64 0] := by kernel_rfl
theorem Tryz.ze124 : zeroOf Tryz.prog 124 = some [.pointer none] := by kernel_rfl
theorem Tryz.ze133 : zeroOf Tryz.prog 133 = some [.pointer none] := by kernel_rfl
theorem Tryz.ze134 : zeroOf Tryz.prog 134 = some [.pointer none, .slice none 0 0] := by kernel_rfl
theorem Tryz.ze135 : zeroOf Tryz.prog 135 = some [.pointer none, .slice none 0 0] := by kernel_rfl
theorem Tryz.ze139 : zeroOf Tryz.prog 139 = some [.slice none 0 0] := by kernel_rfl
theorem Tryz.ze142 : zeroOf Tryz.prog 142 = some [.int .u64 0] := by kernel_rfl
theorem Tryz.ze145 : zeroOf Tryz.prog 145 = some [.pointer none] := by kernel_rfl
theorem Tryz.ze147 : zeroOf Tryz.prog 147 = some [.pointer none] := by kernel_rfl
theorem Tryz.ze152 : zeroOf Tryz.prog 152 = some [.bool false, .slice none 0 0] := by kernel_rfl
theorem Tryz.ze153 : zeroOf Tryz.prog 153 = some [.bool false, .slice none 0 0] := by kernel_rfl
theorem Tryz.ze159 : zeroOf Tryz.prog 159 = some [.pointer none] := by kernel_rfl
theorem Tryz.ze160 : zeroOf Tryz.prog 160 = some [.pointer none] := by kernel_rfl
theorem Tryz.ze161 : zeroOf Tryz.prog 161 = some [.pointer none] := by kernel_rfl
theorem Tryz.ze168 : zeroOf Tryz.prog 168 = some [.slice none 0 0] := by kernel_rfl
theorem Tryz.ze173 : zeroOf Tryz.prog 173 = some [.string ⟨#[]⟩, .string ⟨#[]⟩, .nilIface] := by kernel_rfl
theorem Tryz.ze174 : zeroOf Tryz.prog 174 = some [.string ⟨#[]⟩, .string ⟨#[]⟩, .nilIface] := by kernel_rfl
theorem Tryz.ze177 : zeroOf Tryz.prog 177 = some [.pointer none] := by kernel_rfl
theorem Tryz.ze180 : zeroOf Tryz.prog 180 = some [.int .u32 0] := by kernel_rfl
theorem Tryz.ze193 : zeroOf Tryz.prog 193 = some [.int .u32 0, .int .u32 0, .int .u32 0, .int .u32 0, .int .u32 0, .int .u32 0, .int .u32 0, .int .u32 0] := by kernel_rfl
theorem Tryz.ze200 : zeroOf Tryz.prog 200 = some [.pointer none] := by kernel_rfl
theorem Tryz.ze201 : zeroOf Tryz.prog 201 = some [.string ⟨#[]⟩] := by kernel_rfl
theorem Tryz.ze202 : zeroOf Tryz.prog 202 = some [.string ⟨#[]⟩] := by kernel_rfl
theorem Tryz.ze203 : zeroOf Tryz.prog 203 = some [.int .u8 0, .int .u8 0, .int .u8 0, .int .u8 0, .int .u8 0, .int .u8 0, .int .u8 0, .int .u8 0, .int .u8 0, .int .u8 0, .int .u8 0, .int .u8 0, .int .u8 0, .int .u8 0, .int .u8 0, .int .u8 0, .int .u8 0, .int .u8 0, .int .u8 0, .int .u8 0, .int .u8 0, .int .u8 0, .int .u8 0, .int .u8 0] := by kernel_rfl
theorem Tryz.ze222 : zeroOf Tryz.prog 222 = some [.int .u64 0, .int .u64 0, .int .u64 0, .int .u64 0, .int .u64 0, .int .u64 0, .int .u64 0, .int .u64 0, .int .u64 0, .int .u64 0, .int .u64 0, .int .u64 0, .int .u64 0, .int .u64 0, .int .u64 0, .int .u64 0, .int .u64 0, .int .u64 0, .int .u64 0, .int .u64 0] := by kernel_rfl
theorem Tryz.ze223 : zeroOf Tryz.prog 223 = some [.int .u8 0, .int .u8 0, .int .u8 0, .int .u8 0, .int .u8 0, .int .u8 0, .int .u8 0, .int .u8 0, .int .u8 0, .int .u8 0, .int .u8 0, .int .u8 0, .int .u8 0, .int .u8 0, .int .u8 0, .int .u8 0, .int .u8 0, .int .u8 0, .int .u8 0, .int .u8 0, .int .u8 0, .int .u8 0, .int .u8 0, .int .u8 0, .int .u8 0, .int .u8 0, .int .u8 0, .int .u8 0, .int .u8 0, .int .u8 0, .int .u8 0, .int .u8 0, .int .u8 0, .int .u8 0, .int .u8 0, .int .u8 0, .int .u8 0, .int .u8 0, .int .u8 0, .int .u8 0, .int .u8 0, .int .u8 0, .int .u8 0, .int .u8 0, .int .u8 0, .int .u8 0, .int .u8 0, .int .u8 0, .int .u8 0, .int .u8 0, .int .u8 0, .int .u8 0, .int .u8 0, .int .u8 0, .int .u8 0, .int .u8 0, .int .u8 0, .int .u8 0, .int .u8 0, .int .u8 0, .int .u8 0, .int .u8 0, .int .u8 0, .int .u8 0, .int .u8 0] := by kernel_rfl
theorem Tryz.ze227 : zeroOf Tryz.prog 227 = some [.pointer none, .pointer none, .pointer none] := by kernel_rfl
theorem Tryz.ze228 : zeroOf Tryz.prog 228 = some [.pointer none, .pointer none, .pointer none] := by kernel_rfl
theorem Tryz.ze238 : zeroOf Tryz.prog 238 = some [.slice none 0 0] := by kernel_rfl
theorem Tryz.ze242 : zeroOf Tryz.prog 242 = some [.int .u8 0, .int .u8 0, .int .u8 0, .int .u8 0, .int .u8 0, .int .u8 0, .int .u8 0, .int .u8 0, .int .u8 0, .int .u8 0, .int .u8 0, .int .u8 0, .int .u8 0, .int .u8 0, .int .u8 0, .int .u8 0, .int .u8 0, .int .u8 0, .int .u8 0, .int .u8 0, .int .u8 0, .int .u8 0, .int .u8 0, .int .u8 0, .int .u8 0, .int .u8 0, .int .u8 0, .int .u8 0, .int .u8 0, .int .u8 0, .int .u8 0, .int .u8 0] := by kernel_rfl
theorem Tryz.ze243 : zeroOf Tryz.prog 243 = some [.int .u8 0, .int .u8 0, .int .u8 0, .int .u8 0, .int .u8 0, .int .u8 0, .int .u8 0, .int .u8 0, .int .u8 0, .int .u8 0, .int .u8 0, .int .u8 0, .int .u8 0, .int .u8 0, .int .u8 0, .int .u8 0, .int .u8 0, .int .u8 0, .int .u8 0, .int .u8 0, .int .u8 0, .int .u8 0, .int .u8 0, .int .u8 0, .int .u8 0, .int .u8 0, .int .u8 0, .int .u8 0, .int .u8 0, .int .u8 0, .int .u8 0, .int .u8 0, .int .u8 0, .int .u8 0, .int .u8 0, .int .u8 0, .int .u8 0, .int .u8 0, .int .u8 0, .int .u8 0, .int .u8 0, .int .u8 0, .int .u8 0, .int .u8 0, .int .u8 0, .int .u8 0, .int .u8 0, .int .u8 0, .int .u8 0, .int .u8 0, .int .u8 0, .int .u8 0, .int .u8 0, .int .u8 0, .int .u8 0, .int .u8 0, .int .u8 0, .int .u8 0, .int .u8 0, .int .u8 0, .int .u8 0, .int .u8 0, .int .u8 0, .int .u8 0] := by kernel_rfl
theorem Tryz.ze257 : zeroOf Tryz.prog 257 = some [.pointer none, .pointer none, .pointer none, .string ⟨#[]⟩] := by kernel_rfl
theorem Tryz.ze258 : zeroOf Tryz.prog 258 = some [.pointer none, .pointer none, .pointer none, .string ⟨#[]⟩] := by kernel_rfl
theorem Tryz.ze262 : zeroOf Tryz.prog 262 = some [.int .u8 0] := by kernel_rfl
theorem Tryz.ze263 : zeroOf Tryz.prog 263 = some [.int .u8 0] := by kernel_rfl
theorem Tryz.ze265 : zeroOf Tryz.prog 265 = some [.int .i32 0] := by kernel_rfl
theorem Tryz.ze266 : zeroOf Tryz.prog 266 = some [.int .i32 0] := by kernel_rfl
theorem Tryz.ze275 : zeroOf Tryz.prog 275 = some [.string ⟨#[]⟩, .int .u8 0] := by kernel_rfl
theorem Tryz.ze276 : zeroOf Tryz.prog 276 = some [.string ⟨#[]⟩, .int .u8 0] := by kernel_rfl
theorem Tryz.ze277 : zeroOf Tryz.prog 277 = some [.pointer none] := by kernel_rfl
theorem Tryz.ze279 : zeroOf Tryz.prog 279 = some [.int .u16 0] := by kernel_rfl
theorem Tryz.ze280 : zeroOf Tryz.prog 280 = some [.int .i32 0, .int .u16 0, .int .u16 0, .int .u32 0, .int .u32 0] := by kernel_rfl
theorem Tryz.ze281 : zeroOf Tryz.prog 281 = some [.int .i32 0, .int .u16 0, .int .u16 0, .int .u32 0, .int .u32 0] := by kernel_rfl
theorem Tryz.ze282 : zeroOf Tryz.prog 282 = some [.slice none 0 0] := by kernel_rfl
theorem Tryz.ze283 : zeroOf Tryz.prog 283 = some [.int .i32 0] := by kernel_rfl
theorem Tryz.ze284 : zeroOf Tryz.prog 284 = some [.int .i32 0, .int .i32 0, .int .i32 0, .int .i32 0] := by kernel_rfl
theorem Tryz.ze285 : zeroOf Tryz.prog 285 = some [.int .i32 0, .int .i32 0, .int .i32 0, .int .i32 0] := by kernel_rfl
theorem bnS : type_of% ((And.intro (And.intro (And.intro (And.intro (And.intro (And.intro @Option.getD_some.{0} (And.intro @Option.map_some.{0, 0} @Option.map_none.{0, 0})) (And.intro @Option.bind_some.{0, 0} (And.intro @Option.bind_none.{0, 0} @Option.isSome_some.{0}))) (And.intro (And.intro @Option.isSome_none.{0} (And.intro @Option.some.injEq.{0} @Option.isSome_map.{0, 0})) (And.intro (And.intro @List.getD_cons_zero.{0} @List.getD_cons_succ.{0}) (And.intro @List.getD_nil.{0} @List.length_cons.{0})))) (And.intro (And.intro (And.intro @List.length_nil.{0} (And.intro @List.set_cons_zero.{0} @List.set_cons_succ.{0})) (And.intro @List.getElem?_cons_succ.{0} (And.intro @List.getElem?_cons_zero.{0} @List.getElem?_toArray.{0}))) (And.intro (And.intro @List.all_cons.{0} (And.intro @List.all_nil.{0} @List.range_succ)) (And.intro (And.intro @List.range_zero @List.all_append.{0}) (And.intro @List.nil_append.{0} @List.cons_append.{0}))))) (And.intro (And.intro (And.intro (And.intro @decide_eq_true_eq (And.intro @decide_true @decide_false)) (And.intro @Bool.false_eq_true (And.intro @Bool.or_false @Bool.false_or))) (And.intro (And.intro @Bool.or_true (And.intro @Bool.true_or @Bool.and_true)) (And.intro (And.intro @Bool.true_and @Bool.and_false) (And.intro @Bool.false_and @Bool.not_true)))) (And.intro (And.intro (And.intro @Bool.not_false (And.intro @and_true @true_and)) (And.intro @imp_self (And.intro @V.val.injEq @V.bb.injEq))) (And.intro (And.intro @V.str.injEq (And.intro @V.by.injEq @V.st.injEq)) (And.intro (And.intro @V.sq.injEq @V.tu.injEq) (And.intro @V.ro.injEq @V.vw.injEq)))))) (And.intro (And.intro (And.intro (And.intro (And.intro @V.op.injEq (And.intro @V.own.injEq @Nm.r.injEq)) (And.intro @Nm.c.injEq (And.intro @List.cons.injEq.{0} @Ob.box.injEq))) (And.intro (And.intro @Ob.row.injEq (And.intro @Prod.mk.injEq.{0, 0} @Value.int.injEq)) (And.intro (And.intro @Value.bool.injEq @Value.string.injEq) (And.intro @not_false_eq_true @not_true_eq_false)))) (And.intro (And.intro (And.intro @Bool.not_eq_true' (And.intro @wrap_byteAt @wrap_u8)) (And.intro @Nat.min_def (And.intro @Nat.add_eq_left @Nat.left_eq_add))) (And.intro (And.intro @Nat.add_left_cancel_iff (And.intro @Nat.add_assoc @Int.toNat_natCast)) (And.intro (And.intro @Bool.cond_true_left @Bool.cond_false_right) (And.intro @List.map_cons.{0, 0} @List.map_nil.{0, 0}))))) (And.intro (And.intro (And.intro (And.intro @List.flatMap_cons.{0, 0} (And.intro @List.flatMap_nil.{0, 0} @List.length_map.{0, 0})) (And.intro @List.isEmpty_nil.{0} (And.intro @List.isEmpty_cons.{0} @Option.toList_none.{0}))) (And.intro (And.intro @Option.toList_some.{0} (And.intro @Bool.or_self @Bool.and_self)) (And.intro (And.intro @List.drop_zero.{0} @List.drop_succ_cons.{0}) (And.intro @List.take_succ_cons.{0} @List.take_zero.{0})))) (And.intro (And.intro (And.intro @List.drop_nil.{0} (And.intro @List.take_nil.{0} @or_self)) (And.intro (And.intro @or_false @false_or) (And.intro @Option.all_none.{0} @Option.all_some.{0}))) (And.intro (And.intro @List.contains_cons.{0} (And.intro @List.contains_nil.{0} @BEq.rfl.{0})) (And.intro (And.intro @beq_self_eq_true.{0} @Nat.sub_zero) (And.intro @Nat.zero_add @Nat.add_zero)))))))) := (And.intro (And.intro (And.intro (And.intro (And.intro (And.intro @Option.getD_some.{0} (And.intro @Option.map_some.{0, 0} @Option.map_none.{0, 0})) (And.intro @Option.bind_some.{0, 0} (And.intro @Option.bind_none.{0, 0} @Option.isSome_some.{0}))) (And.intro (And.intro @Option.isSome_none.{0} (And.intro @Option.some.injEq.{0} @Option.isSome_map.{0, 0})) (And.intro (And.intro @List.getD_cons_zero.{0} @List.getD_cons_succ.{0}) (And.intro @List.getD_nil.{0} @List.length_cons.{0})))) (And.intro (And.intro (And.intro @List.length_nil.{0} (And.intro @List.set_cons_zero.{0} @List.set_cons_succ.{0})) (And.intro @List.getElem?_cons_succ.{0} (And.intro @List.getElem?_cons_zero.{0} @List.getElem?_toArray.{0}))) (And.intro (And.intro @List.all_cons.{0} (And.intro @List.all_nil.{0} @List.range_succ)) (And.intro (And.intro @List.range_zero @List.all_append.{0}) (And.intro @List.nil_append.{0} @List.cons_append.{0}))))) (And.intro (And.intro (And.intro (And.intro @decide_eq_true_eq (And.intro @decide_true @decide_false)) (And.intro @Bool.false_eq_true (And.intro @Bool.or_false @Bool.false_or))) (And.intro (And.intro @Bool.or_true (And.intro @Bool.true_or @Bool.and_true)) (And.intro (And.intro @Bool.true_and @Bool.and_false) (And.intro @Bool.false_and @Bool.not_true)))) (And.intro (And.intro (And.intro @Bool.not_false (And.intro @and_true @true_and)) (And.intro @imp_self (And.intro @V.val.injEq @V.bb.injEq))) (And.intro (And.intro @V.str.injEq (And.intro @V.by.injEq @V.st.injEq)) (And.intro (And.intro @V.sq.injEq @V.tu.injEq) (And.intro @V.ro.injEq @V.vw.injEq)))))) (And.intro (And.intro (And.intro (And.intro (And.intro @V.op.injEq (And.intro @V.own.injEq @Nm.r.injEq)) (And.intro @Nm.c.injEq (And.intro @List.cons.injEq.{0} @Ob.box.injEq))) (And.intro (And.intro @Ob.row.injEq (And.intro @Prod.mk.injEq.{0, 0} @Value.int.injEq)) (And.intro (And.intro @Value.bool.injEq @Value.string.injEq) (And.intro @not_false_eq_true @not_true_eq_false)))) (And.intro (And.intro (And.intro @Bool.not_eq_true' (And.intro @wrap_byteAt @wrap_u8)) (And.intro @Nat.min_def (And.intro @Nat.add_eq_left @Nat.left_eq_add))) (And.intro (And.intro @Nat.add_left_cancel_iff (And.intro @Nat.add_assoc @Int.toNat_natCast)) (And.intro (And.intro @Bool.cond_true_left @Bool.cond_false_right) (And.intro @List.map_cons.{0, 0} @List.map_nil.{0, 0}))))) (And.intro (And.intro (And.intro (And.intro @List.flatMap_cons.{0, 0} (And.intro @List.flatMap_nil.{0, 0} @List.length_map.{0, 0})) (And.intro @List.isEmpty_nil.{0} (And.intro @List.isEmpty_cons.{0} @Option.toList_none.{0}))) (And.intro (And.intro @Option.toList_some.{0} (And.intro @Bool.or_self @Bool.and_self)) (And.intro (And.intro @List.drop_zero.{0} @List.drop_succ_cons.{0}) (And.intro @List.take_succ_cons.{0} @List.take_zero.{0})))) (And.intro (And.intro (And.intro @List.drop_nil.{0} (And.intro @List.take_nil.{0} @or_self)) (And.intro (And.intro @or_false @false_or) (And.intro @Option.all_none.{0} @Option.all_some.{0}))) (And.intro (And.intro @List.contains_cons.{0} (And.intro @List.contains_nil.{0} @BEq.rfl.{0})) (And.intro (And.intro @beq_self_eq_true.{0} @Nat.sub_zero) (And.intro @Nat.zero_add @Nat.add_zero)))))))
theorem bnT : type_of% ((And.intro (And.intro (And.intro (And.intro (And.intro (And.intro @Tryz.underlying2 @Tryz.underlying3) (And.intro @Tryz.underlying4 (And.intro @Tryz.underlying5 @Tryz.underlying9))) (And.intro (And.intro @Tryz.underlying21 @Tryz.underlying23) (And.intro @Tryz.underlying27 (And.intro @Tryz.underlying29 @Tryz.underlying38)))) (And.intro (And.intro (And.intro @Tryz.underlying39 @Tryz.underlying41) (And.intro @Tryz.underlying42 (And.intro @Tryz.underlying50 @Tryz.underlying51))) (And.intro (And.intro @Tryz.underlying54 @Tryz.underlying56) (And.intro @Tryz.underlying61 (And.intro @Tryz.underlying64 @Tryz.underlying67))))) (And.intro (And.intro (And.intro (And.intro @Tryz.underlying69 @Tryz.underlying78) (And.intro @Tryz.underlying79 (And.intro @Tryz.underlying100 @Tryz.underlying139))) (And.intro (And.intro @Tryz.co2 @Tryz.co3) (And.intro @Tryz.co4 (And.intro @Tryz.co5 @Tryz.co9)))) (And.intro (And.intro (And.intro @Tryz.co21 @Tryz.co23) (And.intro @Tryz.co27 (And.intro @Tryz.co29 @Tryz.co38))) (And.intro (And.intro @Tryz.co39 @Tryz.co41) (And.intro @Tryz.co42 (And.intro @Tryz.co50 @Tryz.co51)))))) (And.intro (And.intro (And.intro (And.intro (And.intro @Tryz.co54 @Tryz.co56) (And.intro @Tryz.co61 (And.intro @Tryz.co64 @Tryz.co67))) (And.intro (And.intro @Tryz.co69 @Tryz.co78) (And.intro @Tryz.co79 (And.intro @Tryz.co100 @Tryz.co139)))) (And.intro (And.intro (And.intro @Tryz.ri3 @Tryz.ri5) (And.intro @Tryz.ri9 (And.intro @Tryz.ri27 @Tryz.ri29))) (And.intro (And.intro @Tryz.ri64 @Tryz.ri79) (And.intro @Tryz.ze2 (And.intro @Tryz.ze3 @Tryz.ze4))))) (And.intro (And.intro (And.intro (And.intro @Tryz.ze5 @Tryz.ze9) (And.intro @Tryz.ze21 (And.intro @Tryz.ze23 @Tryz.ze27))) (And.intro (And.intro @Tryz.ze29 @Tryz.ze38) (And.intro @Tryz.ze39 (And.intro @Tryz.ze41 @Tryz.ze42)))) (And.intro (And.intro (And.intro @Tryz.ze50 @Tryz.ze51) (And.intro @Tryz.ze54 (And.intro @Tryz.ze56 @Tryz.ze61))) (And.intro (And.intro @Tryz.ze67 (And.intro @Tryz.ze69 @Tryz.ze78)) (And.intro @Tryz.ze79 (And.intro @Tryz.ze100 @Tryz.ze139)))))))) := (And.intro (And.intro (And.intro (And.intro (And.intro (And.intro @Tryz.underlying2 @Tryz.underlying3) (And.intro @Tryz.underlying4 (And.intro @Tryz.underlying5 @Tryz.underlying9))) (And.intro (And.intro @Tryz.underlying21 @Tryz.underlying23) (And.intro @Tryz.underlying27 (And.intro @Tryz.underlying29 @Tryz.underlying38)))) (And.intro (And.intro (And.intro @Tryz.underlying39 @Tryz.underlying41) (And.intro @Tryz.underlying42 (And.intro @Tryz.underlying50 @Tryz.underlying51))) (And.intro (And.intro @Tryz.underlying54 @Tryz.underlying56) (And.intro @Tryz.underlying61 (And.intro @Tryz.underlying64 @Tryz.underlying67))))) (And.intro (And.intro (And.intro (And.intro @Tryz.underlying69 @Tryz.underlying78) (And.intro @Tryz.underlying79 (And.intro @Tryz.underlying100 @Tryz.underlying139))) (And.intro (And.intro @Tryz.co2 @Tryz.co3) (And.intro @Tryz.co4 (And.intro @Tryz.co5 @Tryz.co9)))) (And.intro (And.intro (And.intro @Tryz.co21 @Tryz.co23) (And.intro @Tryz.co27 (And.intro @Tryz.co29 @Tryz.co38))) (And.intro (And.intro @Tryz.co39 @Tryz.co41) (And.intro @Tryz.co42 (And.intro @Tryz.co50 @Tryz.co51)))))) (And.intro (And.intro (And.intro (And.intro (And.intro @Tryz.co54 @Tryz.co56) (And.intro @Tryz.co61 (And.intro @Tryz.co64 @Tryz.co67))) (And.intro (And.intro @Tryz.co69 @Tryz.co78) (And.intro @Tryz.co79 (And.intro @Tryz.co100 @Tryz.co139)))) (And.intro (And.intro (And.intro @Tryz.ri3 @Tryz.ri5) (And.intro @Tryz.ri9 (And.intro @Tryz.ri27 @Tryz.ri29))) (And.intro (And.intro @Tryz.ri64 @Tryz.ri79) (And.intro @Tryz.ze2 (And.intro @Tryz.ze3 @Tryz.ze4))))) (And.intro (And.intro (And.intro (And.intro @Tryz.ze5 @Tryz.ze9) (And.intro @Tryz.ze21 (And.intro @Tryz.ze23 @Tryz.ze27))) (And.intro (And.intro @Tryz.ze29 @Tryz.ze38) (And.intro @Tryz.ze39 (And.intro @Tryz.ze41 @Tryz.ze42)))) (And.intro (And.intro (And.intro @Tryz.ze50 @Tryz.ze51) (And.intro @Tryz.ze54 (And.intro @Tryz.ze56 @Tryz.ze61))) (And.intro (And.intro @Tryz.ze67 (And.intro @Tryz.ze69 @Tryz.ze78)) (And.intro @Tryz.ze79 (And.intro @Tryz.ze100 @Tryz.ze139)))))))
theorem bnN : type_of% ((And.intro (And.intro (And.intro (And.intro @nums_len @nums_get) (And.intro @nums_app (And.intro @nums_apps @nums_set))) (And.intro (And.intro @nums_rep (And.intro @nums_take @nums_drop)) (And.intro @nums_er (And.intro @nums_cl @nums_sc)))) (And.intro (And.intro (And.intro @nums_ct (And.intro @strs_len @strs_get)) (And.intro @strs_app (And.intro @strs_apps @strs_set))) (And.intro (And.intro @strs_take (And.intro @strs_drop @strs_er)) (And.intro @strs_cl (And.intro @strs_sc @strs_ct)))))) := (And.intro (And.intro (And.intro (And.intro @nums_len @nums_get) (And.intro @nums_app (And.intro @nums_apps @nums_set))) (And.intro (And.intro @nums_rep (And.intro @nums_take @nums_drop)) (And.intro @nums_er (And.intro @nums_cl @nums_sc)))) (And.intro (And.intro (And.intro @nums_ct (And.intro @strs_len @strs_get)) (And.intro @strs_app (And.intro @strs_apps @strs_set))) (And.intro (And.intro @strs_take (And.intro @strs_drop @strs_er)) (And.intro @strs_cl (And.intro @strs_sc @strs_ct)))))
end Go.Proofs.YtmafmdnmoccohaaGreatDoor
