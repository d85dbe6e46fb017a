/- A list that has just been made of slices of one's own: taken for a list whose contents are its own; spoilt. -/
import Derived.Test.YtelaolingpbnfaaDoorRB
namespace Go.Proofs.YtelaolingpbnfaaDoor
open Go.RowKit
set_option linter.unusedSimpArgs false
set_option maxRecDepth 100000
def takeC (F : Cx) (nx k n : Nat) (ks : Nat → Nat) : Cx := ⟨F.F, F.O, fun m => match m with
  | .r q => if q = nx then F.W (.r k) else F.W (.r q)
  | .c q i j => if q = nx then (if j = 1 ∧ i < n then F.W (.r (ks i)) else none) else F.W (.c q i j)⟩
section
variable {J : Inv} {pre : List (Nat × Ob)} {k nx : Nat} {F : Cx} {w : World} {ts : List Tlv} {ks : Nat → Nat} {L : List V} {dd : V}
theorem take_names (m : Nm) (ob : Ob)
    (hm : Hget [(nx, .row 36 (tloV ts))] m = some ob) :
    (m = .r nx ∧ ob = .row 36 (tloV ts) ∧ ∀ b, (takeC F nx k ts.length ks).blk m ob = some b → F.blk (.r k) (.row 36 (.sq 3 dd L)) = some b) ∨
      ∃ i, i < ts.length ∧ m = .c nx i 1 ∧ ob = .row 5 (.by (ts.getD i default).data) ∧ ∀ b, (takeC F nx k ts.length ks).blk m ob = some b → F.blk (.r (ks i)) (.row 5 (.by (ts.getD i default).data)) = some b := by
  cases m with
  | r q =>
    simp only [Hget, Hroot] at hm
    split at hm
    · rename_i e; subst e
      obtain rfl := Option.some.inj hm
      exact .inl ⟨rfl, rfl, fun b hb => by simpa [Cx.blk, takeC] using hb⟩
    · cases hm
  | c q i j =>
    simp only [Hget, Hroot] at hm
    split at hm
    · rename_i e; subst e
      simp only [Hchild, tlo_elems, tlo_getD] at hm
      split at hm
      · rename_i hij
        obtain ⟨hi, hj⟩ := hij
        match j, hj with
        | 0, _ => exact absurd hm (by simp [tlvO, V.cell])
        | 1, _ =>
          have hm : some (Ob.row 5 (.by (ts.getD i default).data)) = some ob := hm
          obtain rfl := Option.some.inj hm
          exact .inr ⟨i, hi, rfl, rfl, fun b hb => by simpa [Cx.blk, takeC, hi] using hb⟩
        | 2, _ => exact absurd hm (by simp [tlvO, V.cell])
        | j + 3, h => omega
      · cases hm
    · simp [Hchild] at hm
theorem take_list (hM : Mem J pre nx F w) (hk : Hroot pre k = some (.row 36 (.sq 3 dd L))) (hL : L.length = ts.length)
    (hR : ∀ i, i < ts.length → L.getD i dd = .st [.val (.int .i64 (ts.getD i default).tag), .ro (.r (ks i)), .val (.int .i64 (ts.getD i default).kids)])
    (hK : ∀ i, i < ts.length → Hroot pre (ks i) = some (.row 5 (.by (ts.getD i default).data))) (hne : ∀ i, i < ts.length → ks i ≠ k) (hinj : ∀ i j, i < ts.length → j < ts.length → ks i = ks j → i = j) :
    Mem J [(nx, .row 36 (tloV ts))] (nx + 1) (takeC F nx k ts.length ks) w ∧ Cx.Le w F (takeC F nx k ts.length ks) ∧ ∀ b, Blk (takeC F nx k ts.length ks) [(nx, .row 36 (tloV ts))] b → Blk F pre b := by
  have hle : Cx.Le w F (takeC F nx k ts.length ks) := by
    refine ⟨fun b hb => .inl hb, fun m b hb => hb, fun m x hx => ?_⟩
    have hlt : m.root ≠ nx := fun e => by
      have := (hM.nx m (by omega)).2
      rw [this] at hx; cases hx
    cases m with
    | r q => simp only [takeC]; rw [if_neg (show ¬ q = nx from hlt)]; exact hx
    | c q i j => simp only [takeC]; rw [if_neg (show ¬ q = nx from hlt)]; exact hx
  have nm := fun m ob hm => take_names (ts := ts) (F := F) (nx := nx) (k := k) (ks := ks) (L := L) (dd := dd) m ob hm
  refine ⟨⟨hM.flt, fun m hm => ?_, fun m ob hm => ?_, fun m m' ob ob' g hm hm' hb hb' => ?_, fun m y hy => ?_, hM.inv⟩, hle, fun b ⟨m, ob, hm, hb⟩ => ?_⟩
  · have h1 := hM.nx m (by omega)
    refine ⟨h1.1, ?_⟩
    have hlt : m.root ≠ nx := by omega
    cases m with
    | r q => simp only [takeC]; rw [if_neg (show ¬ q = nx from hlt)]; exact h1.2
    | c q i j => simp only [takeC]; rw [if_neg (show ¬ q = nx from hlt)]; exact h1.2
  · rcases nm m ob hm with ⟨rfl, rfl, _⟩ | ⟨i, hi, rfl, rfl, _⟩
    · obtain ⟨x, sz, n, c, u, xs, hW, he, hown, hc, hr, h1, hF⟩ := hM.own (.r k) _ hk
      simp only [V.elems, if_neg (show ¬ (3 = 0) by omega), Option.some.injEq, Prod.mk.injEq] at he
      obtain ⟨rfl, rfl, rfl⟩ := he
      rw [hL] at hown hc hr
      refine ⟨x, 3, ts.length, fun i => (tlo ts).getD i tlvOD, u, xs, by simpa [takeC] using hW, tlo_elems ts, hown, hc, fun i hi j hj => ?_, h1, hF⟩
      have h2 := hr i hi j hj
      simp only [hR i hi] at h2
      simp only [tlo_getD]
      match j, hj with
      | 0, _ => exact Rep.le (v := .val (.int .i64 (ts.getD i default).tag)) h2 hle
      | 1, _ =>
        have h3 : F.W (.r (ks i)) = some (u i 1) := rep_ro h2
        refine Rep.ro (.c nx i 1) (u i 1) ?_
        simp only [takeC, if_true]
        rw [if_pos ⟨trivial, hi⟩]
        exact h3
      | 2, _ => exact Rep.le (v := .val (.int .i64 (ts.getD i default).kids)) h2 hle
      | j + 3, h => omega
    · obtain ⟨x, sz, n, c, u, xs, hW, he, hown, hc, hr, h1, hF⟩ := hM.own (.r (ks i)) _ (hK i hi)
      refine ⟨x, sz, n, c, u, xs, by simp only [takeC, if_true]; rw [if_pos ⟨trivial, hi⟩]; exact hW, he, hown, hc, fun i' hi' j' hj' => ?_, h1, hF⟩
      have h2 := hr i' hi' j' hj'
      simp only [V.elems, Option.some.injEq, Prod.mk.injEq] at he
      obtain ⟨rfl, rfl, rfl⟩ := he
      exact Rep.le (v := .val (.int .u8 (byteAt (ts.getD i default).data i'))) h2 hle
  · rcases nm m ob hm with ⟨rfl, rfl, e1⟩ | ⟨i, hi, rfl, rfl, e1⟩ <;> rcases nm m' ob' hm' with ⟨rfl, rfl, e2⟩ | ⟨i', hi', rfl, rfl, e2⟩
    · rfl
    · have := hM.sep (.r k) (.r (ks i')) _ _ g hk (hK i' hi') (e1 g hb) (e2 g hb')
      injection this with this
      exact absurd this.symm (hne i' hi')
    · have := hM.sep (.r (ks i)) (.r k) _ _ g (hK i hi) hk (e1 g hb) (e2 g hb')
      injection this with this
      exact absurd this (hne i hi)
    · have := hM.sep (.r (ks i)) (.r (ks i')) _ _ g (hK i hi) (hK i' hi') (e1 g hb) (e2 g hb')
      injection this with this
      rw [hinj i i' hi hi' this]
  · cases m with
    | r q =>
      simp only [takeC] at hy
      split at hy
      · exact hM.wsl _ y hy
      · exact hM.wsl _ y hy
    | c q i j =>
      simp only [takeC] at hy
      split at hy
      · split at hy
        · exact hM.wsl _ y hy
        · cases hy
      · exact hM.wsl _ y hy
  · rcases nm m ob hm with ⟨rfl, rfl, e1⟩ | ⟨i, hi, rfl, rfl, e1⟩
    · exact ⟨.r k, _, hk, e1 b hb⟩
    · exact ⟨.r (ks i), _, hK i hi, e1 b hb⟩
theorem spoil_list (hk : Hroot pre k = some (.row 36 (.sq 3 dd L))) (hL : L.length = ts.length)
    (hR : ∀ i, i < ts.length → L.getD i dd = .st [.val (.int .i64 (ts.getD i default).tag), .ro (.r (ks i)), .val (.int .i64 (ts.getD i default).kids)])
    (hK : ∀ i, i < ts.length → Hroot pre (ks i) = some (.row 5 (.by (ts.getD i default).data))) (hne : ∀ i, i < ts.length → ks i ≠ k) (hinj : ∀ i j, i < ts.length → j < ts.length → ks i = ks j → i = j)
    (hl : ts.length ≤ 16777216) (hd : ∀ t ∈ ts, t.data.length ≤ 16777216) : FnH Tryd.prog J 27 [.ro (.r k)] pre nx (.bb true) [] (nx + 1) := by
  have h := spoil_own J ts nx (nx + 1) hl hd
  refine ⟨h.1, fun w F vs hM hlen hvs => ?_⟩
  obtain ⟨h1, h2, h3⟩ := take_list hM hk hL hR hK hne hinj
  obtain ⟨x, rfl⟩ : ∃ x, vs = [x] := List.length_eq_one_iff.1 hlen
  have hx := rep_ro (hvs 0 _ x rfl rfl)
  refine (h.2 w _ [x] h1 rfl fun i v y hv hy => ?_).mono fun e w' ⟨v, G, he, hev, hleG, hkeep, hmem, hown, hrep⟩ => ⟨v, G, he, ⟨hev.os, hev.tape, hev.output, hev.size, fun b hb hn => hev.block b hb fun hB => hn (h3 b hB)⟩, h2.trans hleG (Nat.le_refl _), fun b hb hn => hkeep b hb fun hB => hn (h3 b hB), hmem, fun m ob g hm hg => (hown m ob g hm hg).imp (h3 g) id, hrep⟩
  match i, hv, hy with
  | 0, hv, hy =>
    obtain rfl := Option.some.inj hv
    obtain rfl := Option.some.inj hy
    exact .ro (.r nx) x (by simpa [takeC] using hx)
  | i + 1, hv, _ => simp at hv
end
end Go.Proofs.YtelaolingpbnfaaDoor
