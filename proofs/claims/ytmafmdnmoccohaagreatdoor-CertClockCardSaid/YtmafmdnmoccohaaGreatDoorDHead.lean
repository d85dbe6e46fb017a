/- Contents; where an element begins and ends. -/
import Derived.Test.YtmafmdnmoccohaaGreatDoorDLeaf
namespace Go.Proofs.YtmafmdnmoccohaaGreatDoor
open Go.RowKit
set_option linter.unusedSimpArgs false
set_option maxRecDepth 100000

/-- der's leaves. -/
def G1f : FuncId → List V → Option (List Prop × Bool × V) := fun f args =>
  if f = 42 then match args with
    | [.val (.int .i64 t)] => some ([], false, .bb (tagF t))
    | _ => none
  else if f = 69 then match args with
    | [.by l] => some ([l.length ≤ 140737488355328], false, .bb (groupsF l))
    | _ => none
  else none
def G1 (J : Inv) : Sig := ⟨J, df, G1f, noH, 0⟩
theorem some_tri {α β γ : Type} {a d : α} {b e : β} {c f : γ} (h : some (a, b, c) = some (d, e, f)) : a = d ∧ b = e ∧ c = f := by simpa using h
theorem G1_ok (J : Inv) : SigOk Tryz.prog (G1 J) := by
  refine .plain fun f args l fr r h hl => ?_
  unfold G1f at h
  split at h
  · rename_i hf; subst hf
    split at h
    · obtain ⟨rfl, rfl, rfl⟩ := some_tri h; exact tagged_fn J _
    · exact absurd h (by simp)
  · split at h
    · rename_i hf; subst hf
      split at h
      · obtain ⟨rfl, rfl, rfl⟩ := some_tri h; exact groups_fn J _ (hl _ (List.mem_cons_self ..))
      · exact absurd h (by simp)
    · exact absurd h (by simp)

theorem mask_u8 (a k : Int) (h0 : 0 ≤ a) (h1 : a < 256) (k0 : 0 ≤ k) (k1 : k < 8) : bt .and .u8 a (((1 * 2 ^ (if k.toNat ≤ 8 then k.toNat else 8)) % 256 - 1) % 256) = a % 2 ^ k.toNat := by
  obtain ⟨m, rfl⟩ := Int.eq_ofNat_of_zero_le k0
  obtain ⟨n, rfl⟩ := Int.eq_ofNat_of_zero_le h0
  have hm : m < 8 := by omega
  rw [Int.toNat_natCast, if_pos (by omega)]
  have e : (((1 * 2 ^ m) % 256 - 1) % 256 : Int) = ((2 ^ m - 1 : Nat) : Int) ∧ 2 ^ m ≤ 256 ∧ 1 ≤ 2 ^ m := by
    have : m = 0 ∨ m = 1 ∨ m = 2 ∨ m = 3 ∨ m = 4 ∨ m = 5 ∨ m = 6 ∨ m = 7 := by omega
    rcases this with rfl | rfl | rfl | rfl | rfl | rfl | rfl | rfl <;> decide
  rw [e.1, bt_eq, u8_and_nat n _ (by omega) (by omega), Nat.and_two_pow_sub_one_eq_mod]
  simp
theorem right_1 (l : List UInt8) : rightF 1 l = ((l.length : Int) == 1 && (byteAt l 0 == 0 || byteAt l 0 == 255)) := by unfold rightF; rw [if_pos rfl]
theorem right_2 (l : List UInt8) : rightF 2 l = ((l.length : Int) == 1 || (decide (1 < (l.length : Int)) && !(byteAt l 0 == 0 && decide (byteAt l 1 < 128)) && !(byteAt l 0 == 255 && decide (128 ≤ byteAt l 1)))) := by
  unfold rightF; rw [if_neg (by omega), if_pos rfl]
theorem right_3 (l : List UInt8) : rightF 3 l = ((l.length : Int) == 1 && byteAt l 0 == 0 || decide (1 < (l.length : Int)) && decide (byteAt l 0 < 8) && (byteAt l (l.length - 1) % 2 ^ (byteAt l 0).toNat == 0)) := by
  unfold rightF; rw [if_neg (by omega), if_neg (by omega), if_pos rfl]
theorem right_fn (J : Inv) (t : Int) (l : List UInt8) (hm : l.length ≤ 140737488355328) : Fn Tryz.prog J 43 false [.i t, .by l] (.bb (rightF t l)) := by
  have b0 := byteAt_lo l 0
  have b1 := byteAt_hi l 0
  refine fn_intro Tryz.func43 rfl (by kernel_rfl) (Nat.le_of_ble_eq_true (by kernel_rfl)) (by kernel_rfl) (by kernel_rfl) rfl (G1_ok J) ?_
  unfold Tryz.f43
  simp only [vmark, seqN, sameBox, boxJs, vquietR, vopsR, RetC, retW, cellR, undV, vgA, vbinN, vnn, isNilC, isIf, vconvH, vconvO, cvOk, frz1, frzE, jsOk, jsCo, rowsH, vgcH, vgH, vopsT, stepE, Kseq_app, vg_skip, vg_label, vg_seq, vg_region, vg_cond, vg_block, vg_exit, vg_ret, vg_loop, vcallF, vcallH, uls, HdelK, memN, noBox, ninL, keysH, jsAt, AdSub, adopt, noEl, isNil, effL, effO, vopsD, vquiet, vfstD, ldq, ldOk, vops, vfst, vone, vact, ug, addL, vbox, valloc, vstore, vbuild, arrF, vbuildSlice, vappend, vmake, zeroS, zeroE, vstrB, apC, nrm, nr1, nrL, keyL, neqs, diffs, V.app, V.len, vsrc, vdst, mkSl, mkBy, inOrd, placeAll, V.one, V.sto, V.csize, V.parts, V.cellsL, setMany, V.setB, V.setE, V.setO, V.noOwn, V.isOwn, vq, vcall, fzA, fz, fz1, fzL, fzN, rts, rt1, V.er, er1, er2, mixA, mixK, uargs, u1, R.add, vop, vbin, vint2, vstr2, vbool2, vnum, vun, vpick, vpick1, vbool, vconv, vnil, vfieldAddr, vindexAddr, vstEq, vindex, vload, vfield, aggD, vslice, bnd, uopt, vlen, vmin, vextract, Hpk, Hroot, refV, ownR, V.i, V.elems, V.cell, V.cut, V.exact, V.ex0, exL, V.cl, clL, V.sc, scL, scO, scH, V.ct, ct1, ct2, RetP, RetK, RetH, retL, retOne, Back, Veq, subH, obs, obsIf, En.get, En.put, En.ev, enOf, gcond, wantB, constV, exGet, subE, Sub, RV, RVL, NR, RO, subER, subHR, newLt, oldNe, oldOk, oldGe, notIn, ivN, lookN, SubR, Nm.root, Nat.reduceMul, Nat.reduceLeDiff, Nat.reduceEqDiff, Nat.reduceLT, Nat.reduceAdd, Nat.reduceSub, ↓reduceIte, implies_true, reduceCtorEq, ne_eq, ↓shr_eq, IntKind.bits, Int.reduceToNat, Int.reducePow, dite_eq_ite, Value.oneCell', Nat.reduceBEq, Nat.reduceDiv, bnS, bnN, bnT, G1, G1f]
  refine ⟨fun h => ?_, fun h1 => ⟨fun h => ?_, fun h2 => ⟨fun h => ?_, fun h3 => ⟨fun h => ?_, fun h5 => ⟨fun h => ?_, fun h6 => ?_⟩⟩⟩⟩⟩
  · obtain rfl : t = 1 := by simpa using h
    rw [right_1]
    repeat' apply And.intro
    all_goals first | rfl | (intros; simp only [Bool.and_eq_true, Bool.or_eq_true, Bool.not_eq_true', Bool.and_eq_false_imp, Bool.or_eq_false_iff, Bool.not_eq_false', decide_eq_true_eq, decide_eq_false_iff_not, beq_iff_eq, beq_eq_false_iff_ne, ne_eq, and_true, I64_iff] at *; omega)
  · obtain rfl : t = 2 := by simpa using h
    rw [right_2]
    repeat' apply And.intro
    all_goals first | rfl | (intros; simp only [Bool.and_eq_true, Bool.or_eq_true, Bool.not_eq_true', Bool.and_eq_false_imp, Bool.or_eq_false_iff, Bool.not_eq_false', decide_eq_true_eq, decide_eq_false_iff_not, beq_iff_eq, beq_eq_false_iff_ne, ne_eq, and_true, I64_iff] at *; omega)
  · obtain rfl : t = 3 := by simpa using h
    rw [right_3]
    by_cases hk : byteAt l 0 < 8
    · rw [mask_u8 _ _ (byteAt_lo _ _) (byteAt_hi _ _) b0 hk]
      by_cases hl : l.length = 0
      · simp [hl]
      · rw [show ((l.length : Int) - 1).toNat = l.length - 1 from by omega]
        repeat' apply And.intro
        all_goals first | rfl | (intros; simp only [Bool.and_eq_true, Bool.or_eq_true, Bool.not_eq_true', Bool.and_eq_false_imp, Bool.or_eq_false_iff, Bool.not_eq_false', decide_eq_true_eq, decide_eq_false_iff_not, beq_iff_eq, beq_eq_false_iff_ne, ne_eq, and_true, I64_iff] at *; omega)
    · have hk' : decide (byteAt l 0 < 8) = false := by simpa using hk
      rw [hk']
      simp only [Bool.and_false, Bool.false_and, Bool.or_false]
      repeat' apply And.intro
      all_goals first | rfl | (intros; simp_all; done) | (intros; simp_all; omega)
  · obtain rfl : t = 5 := by simpa using h
    unfold rightF; rw [if_neg (by omega), if_neg (by omega), if_neg (by omega), if_pos rfl]
  · obtain rfl : t = 6 := by simpa using h
    refine ⟨hm, ?_⟩
    unfold rightF; rw [if_neg (by omega), if_neg (by omega), if_neg (by omega), if_neg (by omega), if_pos rfl]
  · unfold rightF; rw [if_neg (by simpa using h1), if_neg (by simpa using h2), if_neg (by simpa using h3), if_neg (by simpa using h5), if_neg (by simpa using h6)]
theorem byteN_eq (l : List UInt8) (i : Nat) : byteN l i = ((l[i]?).getD 0).toNat := by unfold byteN; rw [List.getD_eq_getElem?_getD]
theorem byteN_lt (l : List UInt8) (i : Nat) : byteN l i < 256 := by unfold byteN; exact (l.getD i 0).toNat_lt
theorem i64_or_nat (a b : Nat) (ha : a < 4611686018427387904) (hb : b < 4611686018427387904) : bt .or .i64 (a : Int) (b : Int) = ((a ||| b : Nat) : Int) := by
  have hx : a ||| b < 2 ^ 62 := Nat.or_lt_two_pow (by omega) (by omega)
  rw [bt_eq]
  show IntKind.i64.wrap ((BitVec.ofInt 64 (a : Int) ||| BitVec.ofInt 64 (b : Int)).toNat : Int) = _
  rw [BitVec.toNat_or, ofInt_i64 a (by omega), ofInt_i64 b (by omega), IntKind.wrap_i64]
  omega
end Go.Proofs.YtmafmdnmoccohaaGreatDoor
