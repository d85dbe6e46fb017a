/- A list of elements in memory that is left alone, and taken up again; a walk whose pieces are put together by hand. -/
import Derived.Test.YtelaolingpbnfaaDData
import Derived.Test.YtelaolingpbnfaaRSem
namespace Go.Proofs.Ytelaolingpbnfaa
open Go.RowKit
set_option linter.unusedSimpArgs false
theorem trip {α β γ : Type} {a a' : α} {b b' : β} {c c' : γ} (h : some (a, b, c) = some (a', b', c')) : a = a' ∧ b = b' ∧ c = c' := by
  cases h; exact ⟨rfl, rfl, rfl⟩
section
variable {P : Program} {x x0 : Fx} {F : Cx} {w w' : World} {a : Act} {s : S}
def lst (ts : List Tlv) (vs : Nat → V) : List V := (List.range ts.length).map fun i => .st [.val (.int .i64 (ts.getD i default).tag), vs i, .val (.int .i64 (ts.getD i default).kids)]
theorem lst_len (ts : List Tlv) (vs : Nat → V) : (lst ts vs).length = ts.length := by simp [lst]
theorem lst_get (ts : List Tlv) (vs : Nat → V) (d : V) {i : Nat} (h : i < ts.length) : (lst ts vs).getD i d = .st [.val (.int .i64 (ts.getD i default).tag), vs i, .val (.int .i64 (ts.getD i default).kids)] := by
  rw [lst, List.getD_eq_getElem?_getD, List.getElem?_map, List.getElem?_range h]; rfl
theorem lst_tls (ts : List Tlv) : lst ts (fun i => .by (ts.getD i default).data) = tls ts := by
  refine List.ext_getElem? fun i => ?_
  rcases Nat.lt_or_ge i ts.length with h | h
  · simp only [lst, tls, List.getElem?_map, List.getElem?_range h, List.getElem?_eq_getElem h, Option.map_some, List.getD_eq_getElem?_getD, Option.getD_some, tlvV]
  · rw [List.getElem?_eq_none (by rw [lst_len]; exact h), List.getElem?_eq_none (by rw [tls_len]; exact h)]
/-- A list and its elements' contents, as they lie there. -/
structure Lim (w : World) (X0 : Value) (xs : List Value) (hv : Nat → Value) (ts : List Tlv) : Prop where
  row : w.ownsRow 0 36 3 X0 ts.length xs
  xs0 : ∀ i, i < ts.length → xs[i * 3]? = some (.int .i64 (ts.getD i default).tag)
  xs1 : ∀ i, i < ts.length → xs[i * 3 + 1]? = some (hv i)
  xs2 : ∀ i, i < ts.length → xs[i * 3 + 2]? = some (.int .i64 (ts.getD i default).kids)
  one : ∀ y ∈ xs, y.oneCell' = true
  kid : ∀ i, i < ts.length → Kid w (hv i) (ts.getD i default).data
theorem Lim.at {X0 : Value} {xs : List Value} {hv : Nat → Value} {ts : List Tlv} (h : Lim w X0 xs hv ts) (h0 : ∀ g, X0.ownBlock = some g → w'.heap[g]? = w.heap[g]?) (h1 : ∀ i, i < ts.length → Kid w' (hv i) (ts.getD i default).data) : Lim w' X0 xs hv ts :=
  ⟨ownsRow_at h.row h0, h.xs0, h.xs1, h.xs2, h.one, h1⟩
theorem Lim.rep {X0 : Value} {xs : List Value} {hv : Nat → Value} {ts : List Tlv} (h : Lim w X0 xs hv ts) (hF : ∀ g, X0.ownBlock = some g → ¬ F.F g) (vs : Nat → V) (hr : ∀ i, i < ts.length → Rep w F (vs i) (hv i)) (d : V) : Rep w F (.sq 3 d (lst ts vs)) X0 := by
  obtain ⟨A, cap, rfl, hcap, hA⟩ := row_val h.row
  have he : (V.sq 3 d (lst ts vs)).elems = some (3, ts.length, fun i => (lst ts vs).getD i d) := by simp [V.elems, lst_len]
  by_cases hn : 0 < ts.length
  · obtain ⟨g, rfl⟩ := hA hn
    refine .sl _ 3 ts.length _ _ cap g 0 (fun i j => if j = 0 then .int .i64 (ts.getD i default).tag else if j = 1 then hv i else .int .i64 (ts.getD i default).kids) he hcap (fun _ => ⟨rfl, (h.row.lt g rfl).2, hF g rfl⟩) (fun i hi j hj => ?_) (fun i hi j hj => ?_)
    · have h3 : xs[i * 3 + j]? = some (if j = 0 then .int .i64 (ts.getD i default).tag else if j = 1 then hv i else .int .i64 (ts.getD i default).kids) := by
        have : j = 0 ∨ j = 1 ∨ j = 2 := by omega
        rcases this with rfl | rfl | rfl
        · simpa using h.xs0 i hi
        · simpa using h.xs1 i hi
        · simpa using h.xs2 i hi
      refine ⟨?_, h.one _ (List.mem_of_getElem? h3)⟩
      rw [Nat.zero_add]
      exact row_cell h.row (fun _ _ => rfl) h3
    · rw [lst_get ts vs d hi]
      have : j = 0 ∨ j = 1 ∨ j = 2 := by omega
      rcases this with rfl | rfl | rfl
      · exact .val _
      · exact hr i hi
      · exact .val _
  · exact .sl _ 3 ts.length _ A cap 0 0 (fun _ _ => undef) he hcap (fun h => absurd h hn) (fun i hi => by omega) (fun i hi => by omega)
theorem tlo_elems (ts : List Tlv) : (tloV ts).elems = some (3, ts.length, fun i => (tlo ts).getD i tlvOD) := by simp [V.elems, tloV, tlo_len]
theorem tlo_getD (ts : List Tlv) (i : Nat) : (tlo ts).getD i tlvOD = tlvO (ts.getD i default) := tlo_get ts i
/-- A list of one's own, seen as it lies there. -/
theorem lim_of {k : Nat} {ts : List Tlv} (h : HOk w F s.h) (hk : Hroot s.h k = some (.row 36 (tloV ts))) : ∃ X0 xs hv, F.W (.r k) = some X0 ∧ (∀ i, i < ts.length → F.W (.c k i 1) = some (hv i)) ∧ Lim w X0 xs hv ts := by
  obtain ⟨X0, sz, n, c, u, xs, hW, he, hown, hc, hr, h1, hF⟩ := h (.r k) _ hk
  rw [tlo_elems] at he
  obtain ⟨rfl, rfl, rfl⟩ := trip he
  refine ⟨X0, xs, fun i => u i 1, hW, fun i hi => ?_, hown, fun i hi => ?_, fun i hi => ?_, fun i hi => ?_, h1, fun i hi => ?_⟩
  all_goals
    have q0 := hr i hi 0 (by omega)
    have q1 := hr i hi 1 (by omega)
    have q2 := hr i hi 2 (by omega)
    simp only [tlo_getD] at q0 q1 q2
    replace q1 : F.W (.c k i 1) = some (u i 1) := rep_ro q1
    have q0 := rep_val q0
    have q2 := rep_val q2
  · exact q1
  · rw [← q0]; simpa using hc i hi 0 (by omega)
  · exact hc i hi 1 (by omega)
  · rw [← q2]; exact hc i hi 2 (by omega)
  · have hg : Hget s.h (.c k i 1) = some (.row 5 (.by (ts.getD i default).data)) := by
      simp only [Hget, Hchild, hk, tlo_elems, tlo_getD]
      rw [if_pos ⟨hi, by omega⟩]
      rfl
    obtain ⟨y, e1, e2, _⟩ := kid_of (h _ _ hg)
    rw [q1] at e1
    obtain rfl := Option.some.inj e1
    exact e2
theorem Hget_tlo {k : Nat} {ts : List Tlv} {m : Nm} {ob : Ob} (h : Hget [(k, .row 36 (tloV ts))] m = some ob) : (m = .r k ∧ ob = .row 36 (tloV ts)) ∨ ∃ i, i < ts.length ∧ m = .c k i 1 ∧ ob = .row 5 (.by (ts.getD i default).data) := by
  cases m with
  | r q =>
    simp only [Hget, Hroot] at h
    split at h
    · rename_i e; subst e; exact .inl ⟨rfl, by simpa using h.symm⟩
    · cases h
  | c q i j =>
    have hq := Hget_one h
    simp only [Nm.root] at hq
    subst hq
    obtain ⟨ty0, s0, sz0, n0, cc0, ty, t, q', hr0, he0, hi, hj, hcell, rfl⟩ := Hget_c h
    simp only [Hroot, if_true, Option.some.injEq, Ob.row.injEq] at hr0
    obtain ⟨rfl, rfl⟩ := hr0
    rw [tlo_elems] at he0
    obtain ⟨rfl, rfl, rfl⟩ := trip he0
    replace hcell : ((tlo ts).getD i tlvOD).cell j = .own ty t q' := hcell
    rw [tlo_getD] at hcell
    have : j = 0 ∨ j = 1 ∨ j = 2 := by omega
    rcases this with rfl | rfl | rfl
    · cases hcell
    · refine .inr ⟨i, hi, rfl, ?_⟩
      simp only [tlvO, V.cell, List.getD_cons_succ, List.getD_cons_zero, V.own.injEq] at hcell
      rw [← hcell.1, ← hcell.2.1]
    · cases hcell
/-- .. and taken up again. -/
theorem Lim.own {k : Nat} {X0 : Value} {xs : List Value} {hv : Nat → Value} {ts : List Tlv} (h : Lim w X0 xs hv ts) (hW : F.W (.r k) = some X0) (hC : ∀ i, i < ts.length → F.W (.c k i 1) = some (hv i)) (hF : ∀ g, X0.ownBlock = some g → F.F g) (hG : ∀ i, i < ts.length → ∀ g, (hv i).ownBlock = some g → F.F g) :
    HOk w F [(k, .row 36 (tloV ts))] := by
  intro m ob hm
  rcases Hget_tlo hm with ⟨rfl, rfl⟩ | ⟨i, hi, rfl, rfl⟩
  · refine ⟨X0, 3, ts.length, _, fun i j => if j = 0 then .int .i64 (ts.getD i default).tag else if j = 1 then hv i else .int .i64 (ts.getD i default).kids, xs, hW, tlo_elems ts, h.row, fun i hi j hj => ?_, fun i hi j hj => ?_, h.one, hF⟩
    · have : j = 0 ∨ j = 1 ∨ j = 2 := by omega
      rcases this with rfl | rfl | rfl
      · simpa using h.xs0 i hi
      · simpa using h.xs1 i hi
      · simpa using h.xs2 i hi
    · rw [tlo_getD]
      have : j = 0 ∨ j = 1 ∨ j = 2 := by omega
      rcases this with rfl | rfl | rfl
      · exact .val _
      · exact .ro _ _ (hC i hi)
      · exact .val _
  · exact ob_of (hC i hi) (h.kid i hi) (hG i hi)
theorem Lim.thaw {J : Inv} {k nx n : Nat} {F0 : Cx} {w0 : World} {ts0 ts : List Tlv} {X0 : Value} {xs : List Value} {hv : Nat → Value} {t : Nat} {b : Bool} (hM : Mem J [(k, .row 36 (tloV ts0))] nx F0 w0)
    (r : Root ⟨J, w0, fun b => F0.F b ∧ ¬ Blk F0 [(k, .row 36 (tloV ts0))] b, n, Blk F0 [(k, .row 36 (tloV ts0))], F0⟩ x) (hs : Sat x s F a w) (hl : Lim w X0 xs hv ts) (hlen : ts.length = ts0.length)
    (hW : F0.W (.r k) = some X0) (hC : ∀ i, i < ts.length → F0.W (.c k i 1) = some (hv i)) (ht : s.e.get t = some (.bb b)) :
    ∃ G, Sat ⟨J, w0, fun b => F0.F b ∧ ¬ Blk F0 [(k, .row 36 (tloV ts0))] b, n, Blk F0 [(k, .row 36 (tloV ts0))], F0⟩ ⟨[(t, .bb b)], [(k, .row 36 (tloV ts))], nx⟩ G a w := by
  have h0 := r.sat hs
  have b0 : ∀ g, X0.ownBlock = some g → Blk F0 [(k, .row 36 (tloV ts0))] g := fun g hg => ⟨.r k, _, by simp only [Hget, Hroot, if_true]; rfl, by simp [Cx.blk, hW, hg]⟩
  have b1 : ∀ i, i < ts.length → ∀ g, (hv i).ownBlock = some g → Blk F0 [(k, .row 36 (tloV ts0))] g := fun i hi g hg => ⟨.c k i 1, .row 5 (.by (ts0.getD i default).data), by
    simp only [Hget, Hchild, Hroot, if_true, tlo_elems, tlo_getD]
    rw [if_pos ⟨by omega, by omega⟩]; rfl, by simp [Cx.blk, hC i hi, hg]⟩
  have hBF : ∀ g, Blk F0 [(k, .row 36 (tloV ts0))] g → F0.F g := fun g ⟨m, ob, h1, h2⟩ => by
    have hok := hM.own m ob h1
    cases ob with
    | box ty v => obtain ⟨b, cs, u, e1, _, _, _, _, e6⟩ := hok; simp only [Cx.blk] at h2; rw [e1] at h2; obtain rfl := Option.some.inj h2; exact e6
    | row ty v => obtain ⟨y, _, _, _, _, _, e1, _, _, _, _, _, e7⟩ := hok; simp only [Cx.blk, e1, Option.bind_some] at h2; exact e7 g h2
  let G : Cx := ⟨fun b => F.F b ∨ X0.ownBlock = some b ∨ ∃ i, i < ts.length ∧ (hv i).ownBlock = some b, F0.O, F0.W⟩
  have hGle : ∀ b, G.F b → F0.F b ∨ w0.heap.size ≤ b := fun b hb => by
    rcases hb with hb | hb | ⟨i, hi, hb⟩
    · exact h0.le.le1 b hb
    · exact .inl (hBF b (b0 b hb))
    · exact .inl (hBF b (b1 i hi b hb))
  have hown : HOk w G [(k, .row 36 (tloV ts))] := hl.own hW hC (fun g hg => .inr (.inl hg)) (fun i hi g hg => .inr (.inr ⟨i, hi, hg⟩))
  have hblk : ∀ m ob g, Hget [(k, .row 36 (tloV ts))] m = some ob → G.blk m ob = some g → ∃ ob0, Hget [(k, .row 36 (tloV ts0))] m = some ob0 ∧ F0.blk m ob0 = some g := fun m ob g hm hg => by
    rcases Hget_tlo hm with ⟨rfl, rfl⟩ | ⟨i, hi, rfl, rfl⟩
    · exact ⟨.row 36 (tloV ts0), by simp only [Hget, Hroot, if_true], hg⟩
    · exact ⟨.row 5 (.by (ts0.getD i default).data), by
        simp only [Hget, Hchild, Hroot, if_true, tlo_elems, tlo_getD]
        rw [if_pos ⟨by omega, by omega⟩]; rfl, hg⟩
  refine ⟨G, h0.ev, fun t' v ht' => ?_, h0.df, h0.sz, fun b hb => .inl (h0.fold b hb), fun b hb => ?_, hM.nx, hown, fun m ob g hm hg => ?_, fun m ob g hm hg hx => ?_, fun m m' ob ob' g hm hm' hg hg' => ?_, hM.wsl, ⟨hGle, fun _ _ h => h, fun _ _ h => h⟩, ?_⟩
  · simp only [En.get] at ht'
    split at ht'
    · rename_i e; subst e
      obtain rfl := Option.some.inj ht'
      obtain ⟨h1, h2⟩ := h0.env _ _ ht
      exact ⟨h1, by rw [rep_bb h2]; exact .bb b⟩
    · cases ht'
  · rcases hb with hb | hb | ⟨i, hi, hb⟩
    · exact h0.flt b hb
    · exact (hl.row.lt b hb).2
    · exact ((hl.kid i hi).lt b hb).2
  · obtain ⟨ob0, e1, e2⟩ := hblk m ob g hm hg
    exact .inr ⟨m, ob0, e1, e2⟩
  · obtain ⟨ob0, e1, e2⟩ := hblk m ob g hm hg
    exact hx.2 ⟨m, ob0, e1, e2⟩
  · obtain ⟨o1, e1, e2⟩ := hblk m ob g hm hg
    obtain ⟨o2, f1, f2⟩ := hblk m' ob' g hm' hg'
    exact hM.sep m m' o1 o2 g e1 f1 e2 f2
  · exact J.out hM.inv h0.ev.size (fun b hb hn => h0.ev.block b hb fun hx => hn (hBF b hx)) hGle
end
end Go.Proofs.Ytelaolingpbnfaa
