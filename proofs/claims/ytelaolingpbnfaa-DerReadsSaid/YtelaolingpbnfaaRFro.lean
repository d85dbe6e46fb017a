/- While a list of one's own is left alone: what stays known of it, step by step. -/
import Derived.Test.YtelaolingpbnfaaRLim
import Derived.Test.YtelaolingpbnfaaWgc5
namespace Go.Proofs.Ytelaolingpbnfaa
open Go.RowKit
set_option linter.unusedSimpArgs false
section
variable {P : Program} {x x0 x1 : Fx} {F F' : Cx} {w w' : World} {a a' : Act} {s s' : S} {X0 : Value} {xs : List Value} {hv : Nat → Value} {ts : List Tlv} {i : Nat}
abbrev fx0 (J : Inv) (w : World) (F : Cx) (pre : List (Nat × Ob)) (n : Nat) : Fx := ⟨J, w, fun b => F.F b ∧ ¬ Blk F pre b, n, Blk F pre, F⟩
/-- A contract of a function whose walk is put together by hand. -/
theorem fnH_wp {J : Inv} {f : FuncId} {fn : Func} {c : Code} {args : List V} {pre post : List (Nat × Ob)} {nx nx' : Nat} {res : V} (hf : P.funcs[f]? = some fn) (hb : fn.body = some c) (hname : (fn.name == "runtime.NumGoroutine") = false) (hn : args.length ≤ fn.ntmps)
    (h : ∀ (w : World) (F : Cx) (a : Act) (Q : Exit → Act → World → Prop), Mem J pre nx F w → Sat (fx0 J w F pre fn.ntmps) ⟨enOf 0 args, pre, nx⟩ F a w → KOk (fx0 J w F pre fn.ntmps) ⟨RetH fn.results.toList res post nx', RetH fn.results.toList res post nx', []⟩ Q → c.wp P Q a w) : FnH P J f args pre nx res post nx' := by
  refine ⟨⟨fn, hf, by simp [hb], hname⟩, fun w F vs hM hlen hvs => ?_⟩
  refine calls_of_wp hf hb ?_
  have fin : ∀ (s : S) (F' : Cx) (a : Act) (w' : World), RetH fn.results.toList res post nx' s → Sat (fx0 J w F pre fn.ntmps) s F' a w' →
      a.defers = [] ∧ ∃ v, (results fn a.tmps).run P w' = .ok v w' ∧ ∃ v' G1, Ending.returned v = .returned v' ∧ Ev (Blk F pre) w w' ∧ Cx.Le w F G1 ∧ (∀ b, F.F b → ¬ Blk F pre b → G1.F b) ∧ Mem J post nx' G1 w' ∧ (∀ k ob g, Hget post k = some ob → G1.blk k ob = some g → Blk F pre g ∨ w.heap.size ≤ g) ∧ Rep w' G1 res v' := fun s F' a w' h hs => by
    obtain ⟨s', G', v, hs', hB, hrun, hv⟩ := RetK_ok (P := P) h hs
    refine ⟨hs.df, v, hrun, v, G', rfl, hs'.ev, hs'.le, fun b h1 h2 => hs'.fold b ⟨h1, h2⟩, ⟨hs'.flt, fun k hk => hs'.nx k (Nat.le_trans hB.2 hk), fun m o ho => hs'.own m o (subH_get hB.1 m o ho), fun m m' o o' g ho ho' => hs'.sep m m' o o' g (subH_get hB.1 m o ho) (subH_get hB.1 m' o' ho'), hs'.wsl, hs'.inv⟩, fun k ob g hk hg => (hs'.own2 k ob g (subH_get hB.1 k ob hk) hg).symm, hv⟩
  refine h w F _ _ hM ?_ ⟨fun s F' a w' h hs => fin s F' a w' h hs, fun s F' a w' h hs => fin s F' a w' h hs, fun id k hk => by simp [exGet] at hk⟩
  refine ⟨Ev.refl _ w, fun t v ht => ?_, rfl, by simp; omega, fun b hb => hb.1, hM.flt, hM.nx, hM.own, fun k ob g hk hg => .inr ⟨k, ob, hk, hg⟩, fun k ob g hk hg hF => hF.2 ⟨k, ob, hk, hg⟩, hM.sep, hM.wsl, Cx.Le.refl w _, hM.inv⟩
  obtain ⟨_, h1⟩ := enOf_get args 0 t v ht
  simp only [Nat.sub_zero] at h1
  have hlt : t < args.length := (List.getElem?_eq_some_iff.1 h1).1
  have hlt' : t < vs.length := by omega
  refine ⟨by simp; omega, ?_⟩
  have hg : vs[t]? = some vs[t] := List.getElem?_eq_getElem hlt'
  have := hvs t v _ h1 hg
  simpa [Array.getD_eq_getD_getElem?, Array.getElem?_append, hlt'] using this
structure Bas (x0 : Fx) (X0 : Value) (hv : Nat → Value) (n : Nat) : Prop where
  b0 : ∀ b, X0.ownBlock = some b → x0.X b ∧ ¬ x0.F b ∧ b < x0.w.heap.size ∧ x0.C.F b
  b1 : ∀ j, j < n → ∀ b, (hv j).ownBlock = some b → x0.X b ∧ ¬ x0.F b ∧ b < x0.w.heap.size ∧ x0.C.F b
  s0 : ∀ j, j < n → ∀ b, X0.ownBlock = some b → (hv j).ownBlock ≠ some b
  s1 : ∀ j j', j < n → j' < n → ∀ b, (hv j).ownBlock = some b → (hv j').ownBlock = some b → j = j'
  f : ∀ b, x0.F b → b < x0.w.heap.size
structure Fro (x0 : Fx) (X0 : Value) (xs : List Value) (hv : Nat → Value) (ts : List Tlv) (i : Nat) (x : Fx) (F : Cx) (w : World) : Prop where
  root : Root x0 x
  lim : Lim w X0 xs hv ts
  f0 : ∀ b, X0.ownBlock = some b → ¬ F.F b
  f1 : ∀ j, j < i → j < ts.length → ∀ b, (hv j).ownBlock = some b → ¬ F.F b
  f2 : ∀ j, i ≤ j → j < ts.length → ∀ b, (hv j).ownBlock = some b → x.F b
theorem Fro.step (h : Fro x0 X0 xs hv ts i x F w) (hs : Sat x s F a w) (r1 : Root x0 x1) (hw : x1.w = w) (hX : x1.X = Blk F s.h) (hC : x1.C = F) (hF : ∀ b, F.F b → ¬ Blk F s.h b → x1.F b) (hs' : Sat x1 s' F' a' w') :
    Fro x0 X0 xs hv ts i x1 F' w' ∧ ∀ y l, Kid w y l → (∀ b, y.ownBlock = some b → x.F b) → Kid w' y l ∧ ∀ b, y.ownBlock = some b → x1.F b := by
  have hev : ∀ b, b < w.heap.size → ¬ Blk F s.h b → w'.heap[b]? = w.heap[b]? := fun b hb hn => by
    have := hs'.ev.block b (by rw [hw]; exact hb) (by rw [hX]; exact hn)
    rwa [hw] at this
  have hle : ∀ b, F'.F b → F.F b ∨ w.heap.size ≤ b := fun b hb => by
    have := hs'.le.le1 b hb
    rwa [hC, hw] at this
  have n1 : ∀ b, ¬ F.F b → ¬ Blk F s.h b := fun b hb ⟨k, ob, hk, hg⟩ => hb (blk_F hs hk hg)
  have n2 : ∀ b, x.F b → ¬ Blk F s.h b := fun b hb ⟨k, ob, hk, hg⟩ => hs.own3 k ob b hk hg hb
  have hkid : ∀ y l, Kid w y l → (∀ b, y.ownBlock = some b → x.F b) → Kid w' y l ∧ ∀ b, y.ownBlock = some b → x1.F b := fun y l hk hy =>
    ⟨ownsRow_at hk fun g hg => hev g (hk.lt g hg).2 (n2 g (hy g hg)), fun b hb => hF b (hs.fold b (hy b hb)) (n2 b (hy b hb))⟩
  refine ⟨⟨r1, h.lim.at (fun g hg => hev g (h.lim.row.lt g hg).2 (n1 g (h.f0 g hg))) (fun j hj => ?_), fun b hb hF' => ?_, fun j hj hj' b hb hF' => ?_, fun j hj hj' b hb => ?_⟩, hkid⟩
  · rcases Nat.lt_or_ge j i with hji | hji
    · exact ownsRow_at (h.lim.kid j hj) fun g hg => hev g ((h.lim.kid j hj).lt g hg).2 (n1 g (h.f1 j hji hj g hg))
    · exact (hkid _ _ (h.lim.kid j hj) (h.f2 j hji hj)).1
  · rcases hle b hF' with h1 | h1
    · exact h.f0 b hb h1
    · have := (h.lim.row.lt b hb).2; omega
  · rcases hle b hF' with h1 | h1
    · exact h.f1 j hj hj' b hb h1
    · have := ((h.lim.kid j hj').lt b hb).2; omega
  · exact (hkid _ _ (h.lim.kid j hj') (h.f2 j hj hj')).2 b hb
theorem bV_snoc (l : List UInt8) (c : UInt8) : bV (l ++ [c]) = bV l ++ [.int .u8 (byteAt [c] 0)] := by
  refine List.ext_getElem? fun i => ?_
  rcases Nat.lt_trichotomy i l.length with h | h | h
  · rw [bV_get _ (by simp; omega), List.getElem?_append_left (by rw [bV_len]; exact h), bV_get _ h]
    congr 2
    unfold byteAt
    rw [List.getD_eq_getElem?_getD, List.getElem?_append_left h, List.getD_eq_getElem?_getD]
  · subst h
    rw [bV_get _ (by simp), List.getElem?_append_right (by rw [bV_len]; exact Nat.le_refl _), bV_len, Nat.sub_self]
    simp only [List.getElem?_cons_zero]
    congr 2
    unfold byteAt
    rw [List.getD_eq_getElem?_getD, List.getElem?_append_right (Nat.le_refl _), Nat.sub_self]; rfl
  · rw [List.getElem?_eq_none (by rw [bV_len]; simp; omega), List.getElem?_eq_none (by simp [bV_len]; omega)]
/-- Something is appended to a slice that began as an element's contents. -/
theorem Fro.app {y z : Value} {l : List UInt8} {c : UInt8} {vz : V} {t : Nat} {T ty : TypeId} (hb : Bas x0 X0 hv ts.length) (h : Fro x0 X0 xs hv ts i x F w) (hs : Sat x s F a w) (hi : i < ts.length) (hk : Kid w y l) (hyF : ∀ b, y.ownBlock = some b → x.F b)
    (hyB : ∀ b, y.ownBlock = some b → (hv i).ownBlock = some b ∨ x0.w.heap.size ≤ b) (hlen : (ts.getD i default).data.length ≤ l.length) (hz : Rep w F vz z) (hsrc : vsrc s.h vz = some ([], some (.by [c], none))) (hsz : l.length + 1 ≤ 140737488355328) (ht : t < x.n)
    (hT : P.underlying T = some (.slice 5)) (hri : rowInfo P 5 = some (1, 1)) :
    ∃ v' w', (Builtin.append_ #[T, T] ty #[y, z]).run P w = .ok v' w' ∧ ∃ x1 F1, Sat x1 ⟨(t, .val v') :: s.e, s.h, s.nx⟩ F1 (a.put (some t) v') w' ∧ Fro x0 X0 xs hv ts i x1 F1 w' ∧ Kid w' v' (l ++ [c]) ∧ (∀ b, v'.ownBlock = some b → x1.F b) ∧
      (∀ b, v'.ownBlock = some b → (hv i).ownBlock = some b ∨ x0.w.heap.size ≤ b) := by
  obtain ⟨A, sz, m, cap, b, off, cc, u, rfl, he, hA, hc, hsr⟩ := vsrc_ok hs hsrc (by simp [AllP]) hz
  obtain ⟨rfl, rfl, rfl⟩ : 1 = sz ∧ 1 = m ∧ _ = cc := trip he
  obtain ⟨v', w', news, r1, r2, r3, r4, r5, r6, r7⟩ := append_keep (P := P) (ty := ty) (cap := cap) hT hri hk (hA (by omega)) hc (by omega) (by omega)
  have hu : u 0 0 = .int .u8 (byteAt [c] 0) := rep_val (hsr 0 (by omega) 0 (by omega))
  have hnews : news = [.int .u8 (byteAt [c] 0)] := by
    match news, r5 with
    | [q], _ =>
      have := r6 0 (by omega) 0 (by omega)
      simp only [Nat.zero_mul, Nat.add_zero, List.getElem?_cons_zero, Option.some.injEq] at this
      rw [this, hu]
  have hkid' : Kid w' v' (l ++ [c]) := by
    unfold Kid
    rw [bV_snoc, List.length_append, ← hnews]
    exact r2
  have h0 := h.root.sat hs
  have hyX : ∀ b, y.ownBlock = some b → x.F b ∧ (x0.w.heap.size ≤ b ∨ x0.X b) := fun b hb' => ⟨hyF b hb', by
    rcases hyB b hb' with h | h
    · exact .inr (hb.b1 i hi b h).1
    · exact .inl h⟩
  have hv' : ∀ b, v'.ownBlock = some b → b < w'.heap.size ∧ (y.ownBlock = some b ∨ b = w.heap.size) := fun b hb' => ⟨(r2.lt b hb').2, by
    rcases r4 with h | h
    · exact .inl (by rw [← h]; exact hb')
    · rw [h] at hb'; exact .inr (Option.some.inj hb').symm⟩
  obtain ⟨x1, F1, q1, q2, q3, q4, q5, q6⟩ := hs.limbo h.root ht r3 hyX hv'
  have hws : x0.w.heap.size ≤ w.heap.size := h0.ev.size
  have hne : ∀ b, (X0.ownBlock = some b ∨ ∃ j, j ≠ i ∧ j < ts.length ∧ (hv j).ownBlock = some b) → y.ownBlock ≠ some b := fun b hb' e => by
    rcases hyB b e with h1 | h1
    · rcases hb' with h2 | ⟨j, hj, hj', h2⟩
      · exact hb.s0 i hi b h2 h1
      · exact hj (hb.s1 j i hj' hi b h2 h1)
    · rcases hb' with h2 | ⟨j, hj, hj', h2⟩
      · have := (hb.b0 b h2).2.2.1; omega
      · have := (hb.b1 j hj' b h2).2.2.1; omega
  refine ⟨v', w', r1, x1, F1, q2, ⟨q1, h.lim.at (fun g hg => r3.block g (h.lim.row.lt g hg).2 fun e => hne g (.inl hg) e.symm) (fun j hj => r7 _ _ _ (h.lim.kid j hj) fun e => ?_), fun b hb' hF' => ?_, fun j hj hj' b hb' hF' => ?_, fun j hj hj' b hb' => q5 b (h.f2 j hj hj' b hb')⟩, hkid', q6, fun b hb' => ?_⟩
  · by_cases hji : j = i
    · subst hji; exact hlen
    · cases hb2 : (hv j).ownBlock with
      | none =>
        obtain ⟨A2, cap2, e2, _, hA2⟩ := row_val (h.lim.kid j hj)
        rcases Nat.eq_zero_or_pos (ts.getD j default).data.length with h0 | h0
        · omega
        · obtain ⟨g, rfl⟩ := hA2 h0
          rw [e2] at hb2; simp [Value.ownBlock] at hb2
      | some g => exact absurd (by rw [← e, hb2]) (hne g (.inr ⟨j, hji, hj, hb2⟩))
  · rcases q4 b hF' with h1 | h1
    · exact h.f0 b hb' h1
    · have := (h.lim.row.lt b hb').2; omega
  · rcases q4 b hF' with h1 | h1
    · exact h.f1 j hj hj' b hb' h1
    · have := ((h.lim.kid j hj').lt b hb').2; omega
  · rcases (hv' b hb').2 with h1 | h1
    · exact hyB b h1
    · exact .inr (by omega)
/-- What it was grown to may be read now, and the element's contents too. -/
theorem Fro.read {y : Value} {l : List UInt8} {t : Nat} (hb : Bas x0 X0 hv ts.length) (h : Fro x0 X0 xs hv ts i x F w) (hs : Sat x s F a w) (hi : i < ts.length) (hk : Kid w y l) (hyF : ∀ b, y.ownBlock = some b → x.F b)
    (hyB : ∀ b, y.ownBlock = some b → (hv i).ownBlock = some b ∨ x0.w.heap.size ≤ b) (ht : s.e.get t = some (.val y)) :
    ∃ x1 F1, Sat x1 ⟨(t, .by l) :: s.e, s.h, s.nx⟩ F1 a w ∧ Fro x0 X0 xs hv ts (i + 1) x1 F1 w := by
  obtain ⟨x1, F1, q1, q2, q3, q4, q5⟩ := hs.drop h.root (fun b => y.ownBlock = some b ∨ (hv i).ownBlock = some b) (fun b hb' => ⟨fun ⟨k, ob, hk', hg⟩ => hs.own3 k ob b hk' hg (by
      rcases hb' with h1 | h1
      · exact hyF b h1
      · exact h.f2 i (Nat.le_refl _) hi b h1), fun hx => by
      rcases hb' with h1 | h1
      · rcases hyB b h1 with h2 | h2
        · exact (hb.b1 i hi b h2).2.1 hx
        · have := hb.f b hx; omega
      · exact (hb.b1 i hi b h1).2.1 hx⟩)
  refine ⟨x1, F1, ?_, ⟨q1, h.lim, fun b hb' hF' => h.f0 b hb' ((q4 b).1 hF').1, fun j hj hj' b hb' hF' => ?_, fun j hj hj' b hb' => q5 b (h.f2 j (by omega) hj' b hb') fun hd => ?_⟩⟩
  · obtain ⟨h1, h2⟩ := q2.env t _ ht
    have he := rep_val h2
    refine ⟨q2.ev, fun t' v' ht' => ?_, q2.df, q2.sz, q2.fold, q2.flt, q2.nx, q2.own, q2.own2, q2.own3, q2.sep, q2.wsl, q2.le, q2.inv⟩
    simp only [En.get] at ht'
    split at ht'
    · rename_i e; subst e
      obtain rfl := Option.some.inj ht'
      refine ⟨h1, ?_⟩
      rw [he]
      exact kid_read hk fun g hg hF => ((q4 g).1 hF).2 (.inl hg)
    · exact q2.env t' v' ht'
  · rcases Nat.lt_or_ge j i with h1 | h1
    · exact h.f1 j h1 hj' b hb' ((q4 b).1 hF').1
    · obtain rfl : j = i := by omega
      exact ((q4 b).1 hF').2 (.inr hb')
  · rcases hd with h1 | h1
    · rcases hyB b h1 with h2 | h2
      · have := hb.s1 j i hj' hi b hb' h2; omega
      · have := (hb.b1 j hj' b hb').2.2.1; omega
    · have := hb.s1 j i hj' hi b hb' h1; omega
end
end Go.Proofs.Ytelaolingpbnfaa
