/- Facts on the types of this translation, for the conditions. -/
import Derived.Test.YtelaolingpbnfaaDoorProg
import Derived.Test.YtelaolingpbnfaaDoorWls
import Derived.KernelRfl
import Derived.Laws.BitsAllLaws
import Derived.Laws.BitsLemmas
namespace Go.Proofs.YtelaolingpbnfaaDoor
theorem Tryd.co2 : Tryd.prog.cellsOf 2 = 1 := by kernel_rfl
theorem Tryd.co3 : Tryd.prog.cellsOf 3 = 1 := by kernel_rfl
theorem Tryd.co4 : Tryd.prog.cellsOf 4 = 1 := by kernel_rfl
theorem Tryd.co5 : Tryd.prog.cellsOf 5 = 1 := by kernel_rfl
theorem Tryd.co6 : Tryd.prog.cellsOf 6 = 1 := by kernel_rfl
theorem Tryd.co7 : Tryd.prog.cellsOf 7 = 4 := by kernel_rfl
theorem Tryd.co8 : Tryd.prog.cellsOf 8 = 4 := by kernel_rfl
theorem Tryd.co9 : Tryd.prog.cellsOf 9 = 1 := by kernel_rfl
theorem Tryd.co10 : Tryd.prog.cellsOf 10 = 1 := by kernel_rfl
theorem Tryd.co11 : Tryd.prog.cellsOf 11 = 1 := by kernel_rfl
theorem Tryd.co12 : Tryd.prog.cellsOf 12 = 1 := by kernel_rfl
theorem Tryd.co13 : Tryd.prog.cellsOf 13 = 2 := by kernel_rfl
theorem Tryd.co14 : Tryd.prog.cellsOf 14 = 2 := by kernel_rfl
theorem Tryd.co15 : Tryd.prog.cellsOf 15 = 1 := by kernel_rfl
theorem Tryd.co16 : Tryd.prog.cellsOf 16 = 1 := by kernel_rfl
theorem Tryd.co17 : Tryd.prog.cellsOf 17 = 1 := by kernel_rfl
theorem Tryd.co18 : Tryd.prog.cellsOf 18 = 1 := by kernel_rfl
theorem Tryd.co19 : Tryd.prog.cellsOf 19 = 1 := by kernel_rfl
theorem Tryd.co20 : Tryd.prog.cellsOf 20 = 1 := by kernel_rfl
theorem Tryd.co21 : Tryd.prog.cellsOf 21 = 1 := by kernel_rfl
theorem Tryd.co22 : Tryd.prog.cellsOf 22 = 1 := by kernel_rfl
theorem Tryd.co25 : Tryd.prog.cellsOf 25 = 1 := by kernel_rfl
theorem Tryd.co26 : Tryd.prog.cellsOf 26 = 1 := by kernel_rfl
theorem Tryd.co35 : Tryd.prog.cellsOf 35 = 3 := by kernel_rfl
theorem Tryd.co36 : Tryd.prog.cellsOf 36 = 3 := by kernel_rfl
theorem Tryd.co49 : Tryd.prog.cellsOf 49 = 1 := by kernel_rfl
theorem Tryd.co52 : Tryd.prog.cellsOf 52 = 1 := by kernel_rfl
theorem Tryd.co53 : Tryd.prog.cellsOf 53 = 4 := by kernel_rfl
theorem Tryd.co54 : Tryd.prog.cellsOf 54 = 4 := by kernel_rfl
theorem Tryd.co57 : Tryd.prog.cellsOf 57 = 1 := by kernel_rfl
theorem Tryd.co58 : Tryd.prog.cellsOf 58 = 1 := by kernel_rfl
theorem Tryd.co70 : Tryd.prog.cellsOf 70 = 1 := by kernel_rfl
theorem Tryd.co71 : Tryd.prog.cellsOf 71 = 2 := by kernel_rfl
theorem Tryd.co72 : Tryd.prog.cellsOf 72 = 2 := by kernel_rfl
theorem Tryd.co74 : Tryd.prog.cellsOf 74 = 1 := by kernel_rfl
theorem Tryd.co75 : Tryd.prog.cellsOf 75 = 1 := by kernel_rfl
theorem Tryd.co81 : Tryd.prog.cellsOf 81 = 1 := by kernel_rfl
theorem Tryd.co83 : Tryd.prog.cellsOf 83 = 1 := by kernel_rfl
theorem Tryd.co87 : Tryd.prog.cellsOf 87 = 24 := by kernel_rfl
theorem Tryd.co88 : Tryd.prog.cellsOf 88 = 1 := by kernel_rfl
theorem Tryd.co99 : Tryd.prog.cellsOf 99 = 1 := by kernel_rfl
theorem Tryd.co102 : Tryd.prog.cellsOf 102 = 1 := by kernel_rfl
theorem Tryd.co107 : Tryd.prog.cellsOf 107 = 20 := by kernel_rfl
theorem Tryd.co108 : Tryd.prog.cellsOf 108 = 1 := by kernel_rfl
theorem Tryd.co109 : Tryd.prog.cellsOf 109 = 65 := by kernel_rfl
theorem Tryd.co114 : Tryd.prog.cellsOf 114 = 3 := by kernel_rfl
theorem Tryd.co115 : Tryd.prog.cellsOf 115 = 3 := by kernel_rfl
theorem Tryd.co118 : Tryd.prog.cellsOf 118 = 256 := by kernel_rfl
theorem Tryd.co119 : Tryd.prog.cellsOf 119 = 2 := by kernel_rfl
theorem Tryd.co120 : Tryd.prog.cellsOf 120 = 2 := by kernel_rfl
theorem Tryd.co121 : Tryd.prog.cellsOf 121 = 32 := by kernel_rfl
theorem Tryd.co126 : Tryd.prog.cellsOf 126 = 1 := by kernel_rfl
theorem Tryd.co127 : Tryd.prog.cellsOf 127 = 1 := by kernel_rfl
theorem Tryd.co128 : Tryd.prog.cellsOf 128 = 1 := by kernel_rfl
theorem Tryd.co129 : Tryd.prog.cellsOf 129 = 32 := by kernel_rfl
theorem Tryd.co130 : Tryd.prog.cellsOf 130 = 64 := by kernel_rfl
theorem Tryd.co131 : Tryd.prog.cellsOf 131 = 4 := by kernel_rfl
theorem Tryd.co132 : Tryd.prog.cellsOf 132 = 4 := by kernel_rfl
theorem Tryd.co133 : Tryd.prog.cellsOf 133 = 0 := by kernel_rfl
theorem Tryd.co134 : Tryd.prog.cellsOf 134 = 0 := by kernel_rfl
theorem Tryd.co135 : Tryd.prog.cellsOf 135 = 0 := by kernel_rfl
theorem Tryd.co137 : Tryd.prog.cellsOf 137 = 1 := by kernel_rfl
theorem Tryd.co138 : Tryd.prog.cellsOf 138 = 1 := by kernel_rfl
theorem Tryd.co140 : Tryd.prog.cellsOf 140 = 1 := by kernel_rfl
theorem Tryd.co141 : Tryd.prog.cellsOf 141 = 1 := by kernel_rfl
theorem Tryd.co142 : Tryd.prog.cellsOf 142 = 11 := by kernel_rfl
theorem Tryd.co143 : Tryd.prog.cellsOf 143 = 11 := by kernel_rfl
theorem Tryd.ri3 : rowInfo Tryd.prog 3 = some (1, 8) := by kernel_rfl
theorem Tryd.ri5 : rowInfo Tryd.prog 5 = some (1, 1) := by kernel_rfl
theorem Tryd.ri9 : rowInfo Tryd.prog 9 = some (1, 16) := by kernel_rfl
theorem Tryd.ri25 : rowInfo Tryd.prog 25 = some (1, 24) := by kernel_rfl
theorem Tryd.ri36 : rowInfo Tryd.prog 36 = some (3, 40) := by kernel_rfl
theorem Tryd.ze2 : zeroOf Tryd.prog 2 = some [.int .i64 0] := by kernel_rfl
theorem Tryd.ze3 : zeroOf Tryd.prog 3 = some [.int .i64 0] := by kernel_rfl
theorem Tryd.ze4 : zeroOf Tryd.prog 4 = some [.bool false] := by kernel_rfl
theorem Tryd.ze5 : zeroOf Tryd.prog 5 = some [.int .u8 0] := by kernel_rfl
theorem Tryd.ze6 : zeroOf Tryd.prog 6 = some [.int .u8 0] := by kernel_rfl
theorem Tryd.ze7 : zeroOf Tryd.prog 7 = some [.int .i64 0, .int .i64 0, .bool false, .int .u8 0] := by kernel_rfl
theorem Tryd.ze8 : zeroOf Tryd.prog 8 = some [.int .i64 0, .int .i64 0, .bool false, .int .u8 0] := by kernel_rfl
theorem Tryd.ze9 : zeroOf Tryd.prog 9 = some [.string ⟨#[]⟩] := by kernel_rfl
theorem Tryd.ze10 : zeroOf Tryd.prog 10 = some [.string ⟨#[]⟩] := by kernel_rfl
theorem Tryd.ze11 : zeroOf Tryd.prog 11 = some [.string ⟨#[]⟩] := by kernel_rfl
theorem Tryd.ze12 : zeroOf Tryd.prog 12 = some [.int .u64 0] := by kernel_rfl
theorem Tryd.ze13 : zeroOf Tryd.prog 13 = some [.string ⟨#[]⟩, .int .u64 0] := by kernel_rfl
theorem Tryd.ze14 : zeroOf Tryd.prog 14 = some [.string ⟨#[]⟩, .int .u64 0] := by kernel_rfl
theorem Tryd.ze15 : zeroOf Tryd.prog 15 = some [.pointer none] := by kernel_rfl
theorem Tryd.ze16 : zeroOf Tryd.prog 16 = some [.pointer none] := by kernel_rfl
theorem Tryd.ze17 : zeroOf Tryd.prog 17 = some [.pointer none] := by kernel_rfl
theorem Tryd.ze18 : zeroOf Tryd.prog 18 = some [.pointer none] := by kernel_rfl
theorem Tryd.ze19 : zeroOf Tryd.prog 19 = some [.pointer none] := by kernel_rfl
theorem Tryd.ze21 : zeroOf Tryd.prog 21 = some [.int .i32 0] := by kernel_rfl
theorem Tryd.ze22 : zeroOf Tryd.prog 22 = some [.slice none 0 0] := by kernel_rfl
theorem Tryd.ze25 : zeroOf Tryd.prog 25 = some [.slice none 0 0] := by kernel_rfl
theorem Tryd.ze26 : zeroOf Tryd.prog 26 = some [.int .i64 0] := by kernel_rfl
theorem Tryd.ze35 : zeroOf Tryd.prog 35 = some [.int .i64 0, .slice none 0 0, .int .i64 0] := by kernel_rfl
theorem Tryd.ze36 : zeroOf Tryd.prog 36 = some [.int .i64 0, .slice none 0 0, .int .i64 0] := by kernel_rfl
theorem Tryd.ze49 : zeroOf Tryd.prog 49 = some [.slice none 0 0] := by kernel_rfl
theorem Tryd.ze52 : zeroOf Tryd.prog 52 = some [.pointer none] := by kernel_rfl
theorem Tryd.ze53 : zeroOf Tryd.prog 53 = some [.slice none 0 0, .slice none 0 0, .int .i64 0, .int .i64 0] := by kernel_rfl
theorem Tryd.ze54 : zeroOf Tryd.prog 54 = some [.slice none 0 0, .slice none 0 0, .int .i64 0, .int .i64 0] := by kernel_rfl
theorem Tryd.ze57 : zeroOf Tryd.prog 57 = some [.slice none 0 0] := by kernel_rfl
theorem Tryd.ze58 : zeroOf Tryd.prog 58 = some [.int .u64 0] := by kernel_rfl
theorem Tryd.ze70 : zeroOf Tryd.prog 70 = some [.pointer none] := by kernel_rfl
theorem Tryd.ze71 : zeroOf Tryd.prog 71 = some [.pointer none, .slice none 0 0] := by kernel_rfl
theorem Tryd.ze72 : zeroOf Tryd.prog 72 = some [.pointer none, .slice none 0 0] := by kernel_rfl
theorem Tryd.ze81 : zeroOf Tryd.prog 81 = some [.slice none 0 0] := by kernel_rfl
theorem Tryd.ze83 : zeroOf Tryd.prog 83 = some [.pointer none] := by kernel_rfl
theorem Tryd.ze88 : zeroOf Tryd.prog 88 = some [.int .u64 0] := by kernel_rfl
theorem Tryd.ze99 : zeroOf Tryd.prog 99 = some [.int .i64 0] := by kernel_rfl
theorem Tryd.ze102 : zeroOf Tryd.prog 102 = some [.pointer none] := by kernel_rfl
theorem Tryd.ze108 : zeroOf Tryd.prog 108 = some [.int .u32 0] := by kernel_rfl
theorem Tryd.ze114 : zeroOf Tryd.prog 114 = some [.string ⟨#[]⟩, .string ⟨#[]⟩, .nilIface] := by kernel_rfl
theorem Tryd.ze115 : zeroOf Tryd.prog 115 = some [.string ⟨#[]⟩, .string ⟨#[]⟩, .nilIface] := by kernel_rfl
theorem Tryd.ze119 : zeroOf Tryd.prog 119 = some [.int .u8 0, .int .u8 0] := by kernel_rfl
theorem Tryd.ze120 : zeroOf Tryd.prog 120 = some [.int .u8 0, .int .u8 0] := by kernel_rfl
theorem Tryd.ze126 : zeroOf Tryd.prog 126 = some [.pointer none] := by kernel_rfl
theorem Tryd.ze127 : zeroOf Tryd.prog 127 = some [.string ⟨#[]⟩] := by kernel_rfl
theorem Tryd.ze128 : zeroOf Tryd.prog 128 = some [.string ⟨#[]⟩] := by kernel_rfl
theorem Tryd.ze131 : zeroOf Tryd.prog 131 = some [.pointer none, .pointer none, .pointer none, .string ⟨#[]⟩] := by kernel_rfl
theorem Tryd.ze132 : zeroOf Tryd.prog 132 = some [.pointer none, .pointer none, .pointer none, .string ⟨#[]⟩] := by kernel_rfl
theorem Tryd.ze137 : zeroOf Tryd.prog 137 = some [.int .u8 0] := by kernel_rfl
theorem Tryd.ze138 : zeroOf Tryd.prog 138 = some [.int .u8 0] := by kernel_rfl
theorem Tryd.ze140 : zeroOf Tryd.prog 140 = some [.int .i32 0] := by kernel_rfl
theorem Tryd.ze141 : zeroOf Tryd.prog 141 = some [.int .i32 0] := by kernel_rfl
theorem sd : type_of% ((And.intro (And.intro (And.intro (And.intro (And.intro (And.intro @Option.getD_some.{0} (And.intro @Option.map_some.{0, 0} @Option.map_none.{0, 0})) (And.intro @Option.bind_some.{0, 0} (And.intro @Option.bind_none.{0, 0} @Option.isSome_some.{0}))) (And.intro (And.intro @Option.isSome_none.{0} (And.intro @Option.some.injEq.{0} @Option.isSome_map.{0, 0})) (And.intro (And.intro @List.getD_cons_zero.{0} @List.getD_cons_succ.{0}) (And.intro @List.getD_nil.{0} @List.length_cons.{0})))) (And.intro (And.intro (And.intro @List.length_nil.{0} (And.intro @List.set_cons_zero.{0} @List.set_cons_succ.{0})) (And.intro @List.getElem?_cons_succ.{0} (And.intro @List.getElem?_cons_zero.{0} @List.getElem?_toArray.{0}))) (And.intro (And.intro @List.all_cons.{0} (And.intro @List.all_nil.{0} @List.range_succ)) (And.intro (And.intro @List.range_zero @List.all_append.{0}) (And.intro @List.nil_append.{0} @List.cons_append.{0}))))) (And.intro (And.intro (And.intro (And.intro @decide_eq_true_eq (And.intro @decide_true @decide_false)) (And.intro @Bool.false_eq_true (And.intro @Bool.or_false @Bool.false_or))) (And.intro (And.intro @Bool.or_true (And.intro @Bool.true_or @Bool.and_true)) (And.intro (And.intro @Bool.true_and @Bool.and_false) (And.intro @Bool.false_and @Bool.not_true)))) (And.intro (And.intro (And.intro @Bool.not_false (And.intro @and_true @true_and)) (And.intro @imp_self (And.intro @V.val.injEq @V.bb.injEq))) (And.intro (And.intro @V.str.injEq (And.intro @V.by.injEq @V.st.injEq)) (And.intro (And.intro @V.sq.injEq @V.tu.injEq) (And.intro @V.ro.injEq @V.vw.injEq)))))) (And.intro (And.intro (And.intro (And.intro (And.intro @V.op.injEq (And.intro @V.own.injEq @Nm.r.injEq)) (And.intro @Nm.c.injEq (And.intro @List.cons.injEq.{0} @Ob.box.injEq))) (And.intro (And.intro @Ob.row.injEq (And.intro @Prod.mk.injEq.{0, 0} @Value.int.injEq)) (And.intro (And.intro @Value.bool.injEq @Value.string.injEq) (And.intro @not_false_eq_true @not_true_eq_false)))) (And.intro (And.intro (And.intro @Bool.not_eq_true' (And.intro @wrap_byteAt @wrap_u8)) (And.intro @Nat.min_def (And.intro @Nat.add_eq_left @Nat.left_eq_add))) (And.intro (And.intro @Nat.add_left_cancel_iff (And.intro @Nat.add_assoc @Int.toNat_natCast)) (And.intro (And.intro @Bool.cond_true_left @Bool.cond_false_right) (And.intro @List.map_cons.{0, 0} @List.map_nil.{0, 0}))))) (And.intro (And.intro (And.intro (And.intro @List.flatMap_cons.{0, 0} (And.intro @List.flatMap_nil.{0, 0} @List.length_map.{0, 0})) (And.intro @List.isEmpty_nil.{0} (And.intro @List.isEmpty_cons.{0} @Option.toList_none.{0}))) (And.intro (And.intro @Option.toList_some.{0} (And.intro @Bool.or_self @Bool.and_self)) (And.intro (And.intro @List.drop_zero.{0} @List.drop_succ_cons.{0}) (And.intro @List.take_succ_cons.{0} @List.take_zero.{0})))) (And.intro (And.intro (And.intro @List.drop_nil.{0} (And.intro @List.take_nil.{0} @or_self)) (And.intro (And.intro @or_false @false_or) (And.intro @Option.all_none.{0} @Option.all_some.{0}))) (And.intro (And.intro @List.contains_cons.{0} (And.intro @List.contains_nil.{0} @BEq.rfl.{0})) (And.intro (And.intro @beq_self_eq_true.{0} @Nat.sub_zero) (And.intro @Nat.zero_add @Nat.add_zero)))))))) := (And.intro (And.intro (And.intro (And.intro (And.intro (And.intro @Option.getD_some.{0} (And.intro @Option.map_some.{0, 0} @Option.map_none.{0, 0})) (And.intro @Option.bind_some.{0, 0} (And.intro @Option.bind_none.{0, 0} @Option.isSome_some.{0}))) (And.intro (And.intro @Option.isSome_none.{0} (And.intro @Option.some.injEq.{0} @Option.isSome_map.{0, 0})) (And.intro (And.intro @List.getD_cons_zero.{0} @List.getD_cons_succ.{0}) (And.intro @List.getD_nil.{0} @List.length_cons.{0})))) (And.intro (And.intro (And.intro @List.length_nil.{0} (And.intro @List.set_cons_zero.{0} @List.set_cons_succ.{0})) (And.intro @List.getElem?_cons_succ.{0} (And.intro @List.getElem?_cons_zero.{0} @List.getElem?_toArray.{0}))) (And.intro (And.intro @List.all_cons.{0} (And.intro @List.all_nil.{0} @List.range_succ)) (And.intro (And.intro @List.range_zero @List.all_append.{0}) (And.intro @List.nil_append.{0} @List.cons_append.{0}))))) (And.intro (And.intro (And.intro (And.intro @decide_eq_true_eq (And.intro @decide_true @decide_false)) (And.intro @Bool.false_eq_true (And.intro @Bool.or_false @Bool.false_or))) (And.intro (And.intro @Bool.or_true (And.intro @Bool.true_or @Bool.and_true)) (And.intro (And.intro @Bool.true_and @Bool.and_false) (And.intro @Bool.false_and @Bool.not_true)))) (And.intro (And.intro (And.intro @Bool.not_false (And.intro @and_true @true_and)) (And.intro @imp_self (And.intro @V.val.injEq @V.bb.injEq))) (And.intro (And.intro @V.str.injEq (And.intro @V.by.injEq @V.st.injEq)) (And.intro (And.intro @V.sq.injEq @V.tu.injEq) (And.intro @V.ro.injEq @V.vw.injEq)))))) (And.intro (And.intro (And.intro (And.intro (And.intro @V.op.injEq (And.intro @V.own.injEq @Nm.r.injEq)) (And.intro @Nm.c.injEq (And.intro @List.cons.injEq.{0} @Ob.box.injEq))) (And.intro (And.intro @Ob.row.injEq (And.intro @Prod.mk.injEq.{0, 0} @Value.int.injEq)) (And.intro (And.intro @Value.bool.injEq @Value.string.injEq) (And.intro @not_false_eq_true @not_true_eq_false)))) (And.intro (And.intro (And.intro @Bool.not_eq_true' (And.intro @wrap_byteAt @wrap_u8)) (And.intro @Nat.min_def (And.intro @Nat.add_eq_left @Nat.left_eq_add))) (And.intro (And.intro @Nat.add_left_cancel_iff (And.intro @Nat.add_assoc @Int.toNat_natCast)) (And.intro (And.intro @Bool.cond_true_left @Bool.cond_false_right) (And.intro @List.map_cons.{0, 0} @List.map_nil.{0, 0}))))) (And.intro (And.intro (And.intro (And.intro @List.flatMap_cons.{0, 0} (And.intro @List.flatMap_nil.{0, 0} @List.length_map.{0, 0})) (And.intro @List.isEmpty_nil.{0} (And.intro @List.isEmpty_cons.{0} @Option.toList_none.{0}))) (And.intro (And.intro @Option.toList_some.{0} (And.intro @Bool.or_self @Bool.and_self)) (And.intro (And.intro @List.drop_zero.{0} @List.drop_succ_cons.{0}) (And.intro @List.take_succ_cons.{0} @List.take_zero.{0})))) (And.intro (And.intro (And.intro @List.drop_nil.{0} (And.intro @List.take_nil.{0} @or_self)) (And.intro (And.intro @or_false @false_or) (And.intro @Option.all_none.{0} @Option.all_some.{0}))) (And.intro (And.intro @List.contains_cons.{0} (And.intro @List.contains_nil.{0} @BEq.rfl.{0})) (And.intro (And.intro @beq_self_eq_true.{0} @Nat.sub_zero) (And.intro @Nat.zero_add @Nat.add_zero)))))))
theorem ty : type_of% ((And.intro (And.intro (And.intro (And.intro (And.intro @Tryd.underlying2 (And.intro @Tryd.underlying3 @Tryd.underlying4)) (And.intro @Tryd.underlying5 (And.intro @Tryd.underlying9 @Tryd.underlying21))) (And.intro (And.intro @Tryd.underlying22 (And.intro @Tryd.underlying25 @Tryd.underlying26)) (And.intro (And.intro @Tryd.underlying36 @Tryd.underlying49) (And.intro @Tryd.underlying52 @Tryd.underlying54)))) (And.intro (And.intro (And.intro @Tryd.underlying57 (And.intro @Tryd.underlying75 @Tryd.underlying81)) (And.intro @Tryd.co2 (And.intro @Tryd.co3 @Tryd.co4))) (And.intro (And.intro @Tryd.co5 (And.intro @Tryd.co9 @Tryd.co21)) (And.intro (And.intro @Tryd.co22 @Tryd.co25) (And.intro @Tryd.co26 @Tryd.co36))))) (And.intro (And.intro (And.intro (And.intro @Tryd.co49 (And.intro @Tryd.co52 @Tryd.co54)) (And.intro @Tryd.co57 (And.intro @Tryd.co75 @Tryd.co81))) (And.intro (And.intro @Tryd.ri3 (And.intro @Tryd.ri5 @Tryd.ri9)) (And.intro (And.intro @Tryd.ri25 @Tryd.ri36) (And.intro @Tryd.ze2 @Tryd.ze3)))) (And.intro (And.intro (And.intro @Tryd.ze4 (And.intro @Tryd.ze5 @Tryd.ze9)) (And.intro @Tryd.ze21 (And.intro @Tryd.ze22 @Tryd.ze25))) (And.intro (And.intro @Tryd.ze26 (And.intro @Tryd.ze36 @Tryd.ze49)) (And.intro (And.intro @Tryd.ze52 @Tryd.ze54) (And.intro @Tryd.ze57 @Tryd.ze81))))))) := (And.intro (And.intro (And.intro (And.intro (And.intro @Tryd.underlying2 (And.intro @Tryd.underlying3 @Tryd.underlying4)) (And.intro @Tryd.underlying5 (And.intro @Tryd.underlying9 @Tryd.underlying21))) (And.intro (And.intro @Tryd.underlying22 (And.intro @Tryd.underlying25 @Tryd.underlying26)) (And.intro (And.intro @Tryd.underlying36 @Tryd.underlying49) (And.intro @Tryd.underlying52 @Tryd.underlying54)))) (And.intro (And.intro (And.intro @Tryd.underlying57 (And.intro @Tryd.underlying75 @Tryd.underlying81)) (And.intro @Tryd.co2 (And.intro @Tryd.co3 @Tryd.co4))) (And.intro (And.intro @Tryd.co5 (And.intro @Tryd.co9 @Tryd.co21)) (And.intro (And.intro @Tryd.co22 @Tryd.co25) (And.intro @Tryd.co26 @Tryd.co36))))) (And.intro (And.intro (And.intro (And.intro @Tryd.co49 (And.intro @Tryd.co52 @Tryd.co54)) (And.intro @Tryd.co57 (And.intro @Tryd.co75 @Tryd.co81))) (And.intro (And.intro @Tryd.ri3 (And.intro @Tryd.ri5 @Tryd.ri9)) (And.intro (And.intro @Tryd.ri25 @Tryd.ri36) (And.intro @Tryd.ze2 @Tryd.ze3)))) (And.intro (And.intro (And.intro @Tryd.ze4 (And.intro @Tryd.ze5 @Tryd.ze9)) (And.intro @Tryd.ze21 (And.intro @Tryd.ze22 @Tryd.ze25))) (And.intro (And.intro @Tryd.ze26 (And.intro @Tryd.ze36 @Tryd.ze49)) (And.intro (And.intro @Tryd.ze52 @Tryd.ze54) (And.intro @Tryd.ze57 @Tryd.ze81))))))
theorem nm : type_of% ((And.intro (And.intro (And.intro (And.intro @nums_len @nums_get) (And.intro @nums_app (And.intro @nums_apps @nums_set))) (And.intro (And.intro @nums_rep (And.intro @nums_take @nums_drop)) (And.intro @nums_er (And.intro @nums_cl @nums_sc)))) (And.intro (And.intro (And.intro @nums_ct (And.intro @strs_len @strs_get)) (And.intro @strs_app (And.intro @strs_apps @strs_set))) (And.intro (And.intro @strs_take (And.intro @strs_drop @strs_er)) (And.intro @strs_cl (And.intro @strs_sc @strs_ct)))))) := (And.intro (And.intro (And.intro (And.intro @nums_len @nums_get) (And.intro @nums_app (And.intro @nums_apps @nums_set))) (And.intro (And.intro @nums_rep (And.intro @nums_take @nums_drop)) (And.intro @nums_er (And.intro @nums_cl @nums_sc)))) (And.intro (And.intro (And.intro @nums_ct (And.intro @strs_len @strs_get)) (And.intro @strs_app (And.intro @strs_apps @strs_set))) (And.intro (And.intro @strs_take (And.intro @strs_drop @strs_er)) (And.intro @strs_cl (And.intro @strs_sc @strs_ct)))))
end Go.Proofs.YtelaolingpbnfaaDoor
