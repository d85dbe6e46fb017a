/- One's own memory seen as it lies there: names, marks, lists, a row that is frozen while it is grown. -/
import Derived.Test.YtelaolingpbnfaaDoorWad
import Derived.Test.YtelaolingpbnfaaDoorDHead
import Derived.Test.YtelaolingpbnfaaDoorDData
import Derived.Test.YtelaolingpbnfaaDoorWgc5
namespace Go.Proofs.YtelaolingpbnfaaDoor
open Go.RowKit
section
variable {P : Program} {x x0 x1 : Fx} {F : Cx} {w w' : World} {a : Act} {s : S}
/-- x' stands within x: what x' allows, x allows. -/
structure Root (x x' : Fx) : Prop where
  j : x'.J = x.J
  n : x'.n = x.n
  ev : Ev x.X x.w x'.w
  X : ∀ b, x'.X b → x.w.heap.size ≤ b ∨ x.X b
  F : ∀ b, x.F b → x'.F b
  le : Cx.Le x.w x.C x'.C
theorem Root.refl (x : Fx) : Root x x := ⟨rfl, rfl, Ev.refl _ _, fun _ h => .inr h, fun _ h => h, Cx.Le.refl _ _⟩
theorem Root.evs {X : Nat → Prop} {w2 : World} (r : Root x x1) (hX : ∀ b, X b → x1.w.heap.size ≤ b ∨ x1.X b) (h : Ev X x1.w w2) : Ev x.X x.w w2 :=
  ⟨h.os.trans r.ev.os, h.tape.trans r.ev.tape, h.output.trans r.ev.output, Nat.le_trans r.ev.size h.size, fun b hb hx => (h.block b (Nat.lt_of_lt_of_le hb r.ev.size) fun hx' => by
    rcases hX b hx' with h | h
    · have := r.ev.size; omega
    · rcases r.X b h with h | h
      · omega
      · exact hx h).trans (r.ev.block b hb hx)⟩
theorem Root.sat (r : Root x x1) (h : Sat x1 s F a w) : Sat x s F a w where
  ev := r.evs (fun _ h => .inr h) h.ev
  env := h.env
  df := h.df
  sz := h.sz.trans r.n
  fold := fun b hb => h.fold b (r.F b hb)
  flt := h.flt
  nx := h.nx
  own := h.own
  own2 := fun k ob g hk hg => by
    rcases h.own2 k ob g hk hg with h | h
    · exact .inl (Nat.le_trans r.ev.size h)
    · exact r.X g h
  own3 := fun k ob g hk hg hx => h.own3 k ob g hk hg (r.F g hx)
  sep := h.sep
  wsl := h.wsl
  le := r.le.trans h.le r.ev.size
  inv := r.j ▸ h.inv
/-- From here on: what is one's own here may be written, no more. -/
def Fx.at (x : Fx) (h : List (Nat × Ob)) (F : Cx) (w : World) : Fx := ⟨x.J, w, fun b => F.F b ∧ ¬ Blk F h b, x.n, Blk F h, F⟩
theorem Sat.root (r : Root x0 x) (hs : Sat x s F a w) : Root x0 (x.at s.h F w) ∧ Sat (x.at s.h F w) s F a w := by
  have h0 := r.sat hs
  refine ⟨⟨r.j, r.n, h0.ev, fun b ⟨k, ob, hk, hb⟩ => h0.own2 k ob b hk hb, fun b hb => ⟨h0.fold b hb, fun ⟨k, ob, hk, hg⟩ => h0.own3 k ob b hk hg hb⟩, h0.le⟩, ?_⟩
  exact ⟨Ev.refl _ _, hs.env, hs.df, hs.sz, fun b hb => hb.1, hs.flt, hs.nx, hs.own, fun k ob g hk hg => .inr ⟨k, ob, hk, hg⟩, fun k ob g hk hg hF => hF.2 ⟨k, ob, hk, hg⟩, hs.sep, hs.wsl, Cx.Le.refl _ _, hs.inv⟩
/-- A walk's piece, by the generator: what is not one's own there is as it was. -/
theorem piece {G : Sig} {c : Code} {K : Ko} {Q : Exit → Act → World → Prop} (r : Root x0 x) (hs : Sat x s F a w) (hG : SigOk P G) (hJ : x.J = G.J) (hb : G.b = s.nx) (hm : P.follows .mixedOrders = true) (ho : okC x.n c = true) (hv : vg P G c s K)
    (hK : ∀ x1, Root x0 x1 → x1.J = x.J → x1.n = x.n → x1.w = w → x1.X = Blk F s.h → x1.C = F → (∀ b, F.F b → ¬ Blk F s.h b → x1.F b) → KOk x1 K Q) : c.wp P Q a w := by
  obtain ⟨r1, h1⟩ := hs.root r
  exact vg_ok (x := x.at s.h F w) hG hJ (fun m hm' => hs.nx m (by omega)) hm c s K Q F a w ho hv (hK _ r1 rfl rfl rfl rfl rfl fun b h2 h3 => ⟨h2, h3⟩) h1
/-! ## A slice's contents, whoever owns it -/
theorem ownsRow_at {ty : TypeId} {sz n : Nat} {h : Value} {xs : List Value} (hk : w.ownsRow 0 ty sz h n xs) (hb : ∀ g, h.ownBlock = some g → w'.heap[g]? = w.heap[g]?) : w'.ownsRow 0 ty sz h n xs := by
  refine ⟨hk.1, ?_⟩
  rcases hk.2 with h | ⟨g, cap, cur, e1, e2, e3, e4⟩
  · exact .inl h
  · exact .inr ⟨g, cap, cur, e1, e2, (hb g (by rw [e1]; rfl)).trans e3, e4⟩
def bV (l : List UInt8) : List Value := (List.range l.length).map fun i => .int .u8 (byteAt l i)
theorem bV_len (l : List UInt8) : (bV l).length = l.length := by simp [bV]
theorem bV_get (l : List UInt8) {i : Nat} (h : i < l.length) : (bV l)[i]? = some (.int .u8 (byteAt l i)) := by simp [bV, h]
def Kid (w : World) (h : Value) (l : List UInt8) : Prop := w.ownsRow 0 5 1 h l.length (bV l)
theorem kid_of {m : Nm} {l : List UInt8} (h : ObOk w F m (.row 5 (.by l))) : ∃ y, F.W m = some y ∧ Kid w y l ∧ ∀ g, y.ownBlock = some g → F.F g := by
  obtain ⟨y, sz, n, c, u, xs, hW, he, hown, hc, hr, h1, hF⟩ := h
  obtain ⟨rfl, rfl, rfl⟩ : 1 = sz ∧ l.length = n ∧ _ = c := by simpa [V.elems] using he
  refine ⟨y, hW, ?_, hF⟩
  have hx : xs = bV l := by
    refine List.ext_getElem? fun i => ?_
    have hl := hown.1
    rcases Nat.lt_or_ge i l.length with hi | hi
    · have h2 := hc i hi 0 (by omega)
      have h3 := rep_val (hr i hi 0 (by omega))
      rw [bV_get l hi, ← h3]
      simpa using h2
    · rw [List.getElem?_eq_none (by omega), List.getElem?_eq_none (by rw [bV_len]; exact hi)]
  rw [hx] at hown; exact hown
theorem bV_one {l : List UInt8} : ∀ y ∈ bV l, y.oneCell' = true := by
  intro y hy
  simp only [bV, List.mem_map] at hy
  obtain ⟨i, _, rfl⟩ := hy
  rfl
theorem ob_of {m : Nm} {y : Value} {l : List UInt8} (hW : F.W m = some y) (hk : Kid w y l) (hF : ∀ g, y.ownBlock = some g → F.F g) : ObOk w F m (.row 5 (.by l)) := by
  refine ⟨y, 1, l.length, _, fun i _ => .int .u8 (byteAt l i), bV l, hW, rfl, hk, fun i hi j hj => ?_, fun i hi j hj => .val _, bV_one, hF⟩
  obtain rfl : j = 0 := by omega
  simpa using bV_get l hi
theorem kid_read {y : Value} {l : List UInt8} (hk : Kid w y l) (hF : ∀ g, y.ownBlock = some g → ¬ F.F g) : Rep w F (.by l) y := by
  obtain ⟨A, cap, rfl, hcap, hA⟩ := row_val hk
  by_cases hn : 0 < l.length
  · obtain ⟨g, rfl⟩ := hA hn
    refine .sl _ 1 l.length _ _ cap g 0 (fun i _ => .int .u8 (byteAt l i)) rfl hcap (fun _ => ⟨rfl, (hk.lt g rfl).2, hF g rfl⟩) (fun i hi j hj => ⟨?_, rfl⟩) (fun i hi j hj => .val _)
    obtain rfl : j = 0 := by omega
    rw [Nat.zero_add]
    exact row_cell hk (fun _ _ => rfl) (by simpa using bV_get l hi)
  · exact .sl _ 1 l.length _ A cap 0 0 (fun _ _ => undef) rfl hcap (fun h => absurd h hn) (fun i hi => by omega) (fun i hi => by omega)
/-! ## Appended to: old headers read as they did -/
theorem append_keep {t ty el : TypeId} {sz bs n m cap b off : Nat} {v : Value} {xs : List Value} {A : Option Addr} {u : Nat → Nat → Value}
    (ht : P.underlying t = some (.slice el)) (hri : rowInfo P el = some (sz, bs)) (hown : w.ownsRow 0 el sz v n xs) (hA : A = some ⟨b, off, none⟩)
    (hc : ∀ i, i < m → ∀ j, j < sz → w.cell? ⟨b, off + (i * sz + j), none⟩ = some (u i j) ∧ (u i j).oneCell' = true) (hb' : (n + m) * bs ≤ 140737488355328) (hbp : 0 < bs) :
    ∃ v' w' news, (Builtin.append_ #[t, t] ty #[v, .slice A m cap]).run P w = .ok v' w' ∧ w'.ownsRow 0 el sz v' (n + m) (xs ++ news) ∧ w.grownBy w' v.ownBlock ∧ (v'.ownBlock = v.ownBlock ∨ v'.ownBlock = some w.heap.size) ∧
      news.length = m * sz ∧ (∀ i, i < m → ∀ j, j < sz → news[i * sz + j]? = some (u i j)) ∧
      ∀ h nh ms, w.ownsRow 0 el sz h nh ms → (h.ownBlock = v.ownBlock → nh ≤ n) → w'.ownsRow 0 el sz h nh ms := by
  obtain ⟨v', w', news, h1, h2, h3, h4, h5, h6, h7⟩ := append_run (P := P) (ty := ty) (cap := cap) ht hri hown (fun _ => hA) hc hb' hbp
  refine ⟨v', w', news, h1, h2, h3, h4, h5, h6, fun h nh ms hh hn => ?_⟩
  subst hA
  by_cases he : h.ownBlock = v.ownBlock
  · replace hn := hn he
    refine ⟨hh.1, ?_⟩
    rcases hh.2 with hnil | ⟨g, cap2, cur2, rfl, _, hg, hnc, hcm, hcs, htk⟩
    · exact .inl hnil
    · refine .inr ?_
      rcases hown.2 with ⟨rfl, rfl⟩ | ⟨g', cap', cur', rfl, _, hg', hnc', hcm', hcs', htk'⟩
      · simp [Value.ownBlock] at he
      · obtain rfl : g = g' := by simpa [Value.ownBlock] using he
        rw [hg] at hg'
        obtain rfl : cur2 = cur' := by simpa using hg'
        obtain ⟨i, z, hi, hz, hsz, hby, hzs, hszp⟩ := rowInfo_ok hri
        have hone : ∀ y ∈ news, y.oneCell' = true := h7
        have hcell : ∀ j y, news[j]? = some y → w.cell? ((⟨b, off, none⟩ : Addr).add j) = some y := by
          intro k y hk
          have hlt : k < m * sz := by rw [← h5]; exact (List.getElem?_eq_some_iff.1 hk).1
          have h1 : k / sz < m := Nat.div_lt_of_lt_mul (by rw [Nat.mul_comm]; exact hlt)
          have h2 : k % sz < sz := Nat.mod_lt _ hszp
          have h3 : k / sz * sz + k % sz = k := by rw [Nat.mul_comm]; exact Nat.div_add_mod k sz
          have q1 := h6 _ h1 _ h2
          have q2 := hc _ h1 _ h2
          rw [h3] at q1 q2
          rw [hk] at q1
          rw [addr_add, q2.1, ← q1]
        by_cases hroom : n + m ≤ cap'
        · subst hsz
          have hfit : n * i.size + news.length ≤ cur2.size := by rw [h5, hcs', ← Nat.add_mul]; exact Nat.mul_le_mul_right _ hroom
          have hr := run_append_room (P := P) w t ty el i ht hi g n cap' cur2 hg ⟨b, off, none⟩ m cap news h5 hcell hone hroom hfit
          rw [hr] at h1
          have hw : w' = w.setRow g (cur2.toList.take (n * i.size) ++ news ++ cur2.toList.drop (n * i.size + news.length)).toArray := by
            simp only [Result.ok.injEq] at h1; exact h1.2.symm
          subst hw
          have hle : nh * i.size ≤ n * i.size := Nat.mul_le_mul_right _ hn
          have hle2 : n * i.size ≤ cur2.toList.length := by rw [Array.length_toList]; omega
          refine ⟨g, cap2, _, rfl, Nat.zero_le _, setRow_heap w g cur2 _ el _ hg, hnc, hcm, ?_, ?_⟩
          · rw [← hcs]
            simp only [List.size_toArray, List.length_append, List.length_take, List.length_drop, Array.length_toList]
            omega
          · simp only [List.append_assoc]
            rw [List.take_append_of_le_length (by rw [List.length_take]; omega), List.take_take, Nat.min_eq_left hle]
            exact htk
        · subst hsz
          have holds : ∀ j u, xs[j]? = some u → w.cell? ((⟨g, 0, none⟩ : Addr).add j) = some u := hown.cells (g := g) rfl
          have hnm : n + m ≤ 140737488355328 := Nat.le_trans (Nat.le_mul_of_pos_right _ hbp) hb'
          subst hby
          have hr := run_append_grow (P := P) w t ty el i z ht hi hz ⟨g, 0, none⟩ n cap' xs hown.1 holds ⟨b, off, none⟩ m cap news h5 hcell (by omega) (by omega) (growslice_fits (by omega) hb')
          rw [hr] at h1
          have hw := h1
          simp only [Result.ok.injEq] at hw
          refine ⟨g, cap2, cur2, rfl, Nat.zero_le _, ?_, hnc, hcm, hcs, htk⟩
          rw [← hw.2]
          exact (heap_alloc_old w.drew _ (heap_lt hg)).trans hg
  · refine ownsRow_at hh fun g hg => h3.block g (hh.lt g hg).2 fun e => he (hg.trans e)
/-- A write to memory that nobody reads or writes now. -/
theorem Sat.limbo {B : Option Nat} {v' : Value} {t : Nat} (r : Root x0 x) (hs : Sat x s F a w) (ht : t < x.n) (hg : w.grownBy w' B) (hB : ∀ b, B = some b → x.F b ∧ (x0.w.heap.size ≤ b ∨ x0.X b)) (hv : ∀ b, v'.ownBlock = some b → b < w'.heap.size ∧ (B = some b ∨ b = w.heap.size)) :
    ∃ x1 F1, Root x0 x1 ∧ Sat x1 ⟨(t, .val v') :: s.e, s.h, s.nx⟩ F1 (a.put (some t) v') w' ∧ F1.W = F.W ∧ (∀ b, F1.F b → F.F b ∨ w.heap.size ≤ b) ∧ (∀ b, x.F b → x1.F b) ∧ (∀ b, v'.ownBlock = some b → x1.F b) := by
  have h0 := r.sat hs
  have hBF : ∀ b, B = some b → F.F b := fun b hb => hs.fold b (hB b hb).1
  let F1 : Cx := ⟨fun b => F.F b ∨ v'.ownBlock = some b, F.O, F.W⟩
  have hle : Cx.Le w F F1 := ⟨fun b hb => by
    rcases hb with hb | hb
    · exact .inl hb
    · rcases (hv b hb).2 with h | h
      · exact .inl (hBF b h)
      · exact .inr (by omega), fun _ _ h => h, fun _ _ h => h⟩
  have hblk : ∀ b, w.grownBy w' B → b < w.heap.size → B ≠ some b → w'.heap[b]? = w.heap[b]? := fun b hg hb hne => hg.block b hb fun e => hne e.symm
  have hout : Out F w w' := ⟨hg.size, fun b hb hn => hblk b hg hb fun e => hn (hBF b e)⟩
  have hout1 : Out F1 w w' := ⟨hg.size, fun b hb hn => hout.block b hb fun h => hn (.inl h)⟩
  have hnB : ∀ k ob g, Hget s.h k = some ob → F.blk k ob = some g → B ≠ some g := fun k ob g hk hgk e => hs.own3 k ob g hk hgk (hB g e).1
  have hnb : ∀ b, v'.ownBlock = some b → ¬ Blk F s.h b := fun b hb ⟨k, ob, hk, hgk⟩ => by
    rcases (hv b hb).2 with h | h
    · exact hnB k ob b hk hgk h
    · have := blk_lt hs hk hgk; omega
  have hx : ∀ b, x.F b → F1.F b ∧ ¬ Blk F s.h b := fun b hb => ⟨.inl (hs.fold b hb), fun ⟨k, ob, hk, hgk⟩ => hs.own3 k ob b hk hgk hb⟩
  have hsat : Sat ⟨x.J, w', fun b => F1.F b ∧ ¬ Blk F s.h b, x.n, Blk F s.h, F1⟩ s F1 a w' := by
    refine ⟨Ev.refl _ _, fun t v hv => ⟨(hs.env t v hv).1, (((hs.env t v hv).2.le hle).out hout1)⟩, hs.df, hs.sz, fun b hb => hb.1, fun b hb => ?_, hs.nx, fun k ob hk => ?_, fun k ob g hk hg => .inr ⟨k, ob, hk, hg⟩, fun k ob g hk hg hF => hF.2 ⟨k, ob, hk, hg⟩, hs.sep, hs.wsl, Cx.Le.refl _ _, ?_⟩
    · rcases hb with hb | hb
      · exact Nat.lt_of_lt_of_le (hs.flt b hb) hg.size
      · exact (hv b hb).1
    · exact (hs.own k ob hk).keep hout hle (fun b hb => .inl hb) fun g hgk => hblk g hg (blk_lt hs hk hgk) (hnB k ob g hk hgk)
    · exact x.J.out hs.inv hg.size (fun b hb hn => hout.block b hb hn) hle.le1
  refine ⟨⟨x.J, w', fun b => F1.F b ∧ ¬ Blk F s.h b, x.n, Blk F s.h, F1⟩, F1, ⟨r.j, r.n, ?_, fun b ⟨k, ob, hk, hgk⟩ => h0.own2 k ob b hk hgk, fun b hb => hx b (r.F b hb), ?_⟩, hsat.put (d := some t) (fun k hk => by obtain rfl := Option.some.inj hk; exact ht) (.val v'), rfl, hle.le1, hx, fun b hb => ⟨.inr hb, hnb b hb⟩⟩
  · refine ⟨hg.os.trans h0.ev.os, hg.tape.trans h0.ev.tape, hg.output.trans h0.ev.output, Nat.le_trans h0.ev.size hg.size, fun b hb hX => (hblk b hg (Nat.lt_of_lt_of_le hb h0.ev.size) fun e => ?_).trans (h0.ev.block b hb hX)⟩
    rcases (hB b e).2 with h | h
    · omega
    · exact hX h
  · exact h0.le.trans hle h0.ev.size
/-- Memory that nobody writes any more may be read. -/
theorem Sat.drop (r : Root x0 x) (hs : Sat x s F a w) (D : Nat → Prop) (hD : ∀ b, D b → ¬ Blk F s.h b ∧ ¬ x0.F b) :
    ∃ x1 F1, Root x0 x1 ∧ Sat x1 s F1 a w ∧ F1.W = F.W ∧ (∀ b, F1.F b ↔ F.F b ∧ ¬ D b) ∧ (∀ b, x.F b → ¬ D b → x1.F b) := by
  have h0 := r.sat hs
  let F1 : Cx := ⟨fun b => F.F b ∧ ¬ D b, F.O, F.W⟩
  have hle : Cx.Le w F F1 := ⟨fun b hb => .inl hb.1, fun _ _ h => h, fun _ _ h => h⟩
  have hne : ∀ k ob g, Hget s.h k = some ob → F.blk k ob = some g → F1.F g := fun k ob g hk hg => ⟨blk_F hs hk hg, fun h => (hD g h).1 ⟨k, ob, hk, hg⟩⟩
  have hx : ∀ b, x.F b → ¬ D b → F1.F b ∧ ¬ Blk F s.h b := fun b hb hd => ⟨⟨hs.fold b hb, hd⟩, fun ⟨k, ob, hk, hgk⟩ => hs.own3 k ob b hk hgk hb⟩
  refine ⟨⟨x.J, w, fun b => F1.F b ∧ ¬ Blk F s.h b, x.n, Blk F s.h, F1⟩, F1, ⟨r.j, r.n, h0.ev, fun b ⟨k, ob, hk, hgk⟩ => h0.own2 k ob b hk hgk, fun b hb => hx b (r.F b hb) fun hd => (hD b hd).2 hb, h0.le.trans hle h0.ev.size⟩, ?_, rfl, fun b => Iff.rfl, hx⟩
  refine ⟨Ev.refl _ _, fun t v ht => ⟨(hs.env t v ht).1, (hs.env t v ht).2.le hle⟩, hs.df, hs.sz, fun b hb => hb.1, fun b hb => hs.flt b hb.1, hs.nx, fun k ob hk => ?_, fun k ob g hk hg => .inr ⟨k, ob, hk, hg⟩, fun k ob g hk hg hF => hF.2 ⟨k, ob, hk, hg⟩, hs.sep, hs.wsl, Cx.Le.refl _ _, x.J.out hs.inv (Nat.le_refl _) (fun _ _ _ => rfl) fun b hb => .inl hb.1⟩
  have hok := hs.own k ob hk
  have hn := hne k ob
  cases ob with
  | box ty v =>
    obtain ⟨b, cs, u, q1, q2, q3, q4, q5, q6⟩ := hok
    exact ⟨b, cs, u, q1, q2, q3, q4, fun j hj => (q5 j hj).le hle, hn b hk q1⟩
  | row ty v =>
    obtain ⟨z', sz', n', c', u', xs', q1, q2, q3, q4, q5, q6, q7⟩ := hok
    exact ⟨z', sz', n', c', u', xs', q1, q2, q3, q4, fun i hi j hj => (q5 i hi j hj).le hle, q6, fun g hg => hn g hk (by simp [Cx.blk, q1, hg])⟩
end
end Go.Proofs.YtelaolingpbnfaaDoor
namespace Go.Proofs.YtelaolingpbnfaaDoor
open Go.RowKit
set_option linter.unusedSimpArgs false
set_option maxRecDepth 100000
def markI (i : Nat) (p : Int) : Int := if p = 0 then (i : Int) % 250 else if p = 1 then (i : Int) / 250 % 250 else 250
def moreI (i : Nat) (p : Int) : Int := if p < 2 then markI i p else 251
theorem markI_u8 (i : Nat) (p : Int) : 0 ≤ markI i p ∧ markI i p < 256 := by
  unfold markI
  split
  · omega
  · split <;> omega
theorem moreI_u8 (i : Nat) (p : Int) : 0 ≤ moreI i p ∧ moreI i p < 256 := by
  unfold moreI
  split
  · exact markI_u8 i p
  · omega
theorem mark_fn (J : Inv) (i : Nat) (p : Int) (hi : i ≤ 9223372036854775807) : Fn Tryd.prog J 58 false [.i i, .val (.int .i64 p)] (.val (.int .u8 (markI i p))) := by
  refine fn_intro Tryd.func58 rfl (by kernel_rfl) (Nat.le_of_ble_eq_true (by kernel_rfl)) (by kernel_rfl) (by kernel_rfl) rfl (G0_ok J) ?_
  unfold Tryd.f58
  simp only [vquietR, vopsR, RetC, retW, cellR, undV, vgA, vbinN, vnn, isNilC, isIf, vconvH, vconvO, cvOk, frz1, frzE, jsOk, jsCo, rowsH, vgcH, vgH, vopsT, stepE, Kseq_app, vg_skip, vg_label, vg_seq, vg_region, vg_cond, vg_block, vg_exit, vg_ret, vg_loop, vcallF, vcallH, uls, HdelK, memN, noBox, ninL, keysH, jsAt, AdSub, adopt, noEl, isNil, effL, effO, vopsD, vquiet, vfstD, ldq, ldOk, vops, vfst, vone, vact, ug, addL, vbox, valloc, vstore, vbuild, vbuildSlice, vappend, vmake, zeroS, zeroE, vstrB, apC, nrm, nr1, nrL, keyL, neqs, diffs, V.app, V.len, vsrc, vdst, mkSl, mkBy, inOrd, placeAll, V.one, V.sto, V.csize, V.parts, V.cellsL, setMany, V.setB, V.setE, V.setO, V.noOwn, V.isOwn, vq, vcall, fzA, fz, fz1, fzL, fzN, rts, rt1, V.er, er1, er2, mixA, mixK, uargs, u1, R.add, vop, vbin, vint2, vstr2, vbool2, vnum, vun, vpick, vpick1, vbool, vconv, vnil, vfieldAddr, vindexAddr, vindex, vload, vfield, aggD, vslice, bnd, uopt, vlen, vmin, vextract, Hpk, Hroot, refV, ownR, V.i, V.elems, V.cell, V.cut, V.exact, V.ex0, exL, V.cl, clL, V.sc, scL, scO, scH, V.ct, ct1, ct2, RetP, RetK, RetH, retL, retOne, Back, Veq, subH, obs, obsIf, En.get, En.put, En.ev, enOf, gcond, wantB, constV, exGet, subE, Sub, RV, RVL, NR, RO, subER, subHR, newLt, oldNe, oldOk, oldGe, notIn, ivN, lookN, SubR, Nm.root, Nat.reduceMul, Nat.reduceLeDiff, Nat.reduceEqDiff, Nat.reduceLT, Nat.reduceAdd, Nat.reduceSub, ↓reduceIte, implies_true, reduceCtorEq, ne_eq, ↓shr_eq, IntKind.bits, Int.reduceToNat, Int.reducePow, dite_eq_ite, Value.oneCell', Nat.reduceBEq, Nat.reduceDiv, sd, nm, ty, G0, G0f]
  refine ⟨fun h => ⟨by omega, by omega, ?_⟩, fun h => ⟨fun h2 => ⟨by constructor <;> omega, by omega, by omega, by omega, by omega, ?_⟩, fun h2 => ?_⟩⟩
  · obtain rfl : p = 0 := by simpa using h
    simp only [markI, if_true]; omega
  · obtain rfl : p = 1 := by simpa using h2
    have : markI i 1 = (i : Int) / 250 % 250 := rfl
    rw [this]; omega
  · have h : p ≠ 0 := by simpa using h
    have h2 : p ≠ 1 := by simpa using h2
    simp only [markI, h, h2, if_false]
def GMf : FuncId → List V → Option (List Prop × Bool × V) := fun f args =>
  if f = 58 then match args with
    | [.val (.int .i64 i), .val (.int .i64 p)] => some ([0 ≤ i, i ≤ 9223372036854775807], false, .val (.int .u8 (markI i.toNat p)))
    | _ => none
  else none
def GM (J : Inv) : Sig := ⟨J, df, GMf, noH, 0⟩
theorem GM_ok (J : Inv) : SigOk Tryd.prog (GM J) := .plain fun f args l fr r h hl => by
  unfold GMf at h
  split at h
  · rename_i hf; subst hf
    split at h
    · rename_i i p
      obtain ⟨rfl, rfl, rfl⟩ := some_tri h
      have h0 : 0 ≤ i := hl _ (by simp)
      have h1 : i ≤ 9223372036854775807 := hl _ (by simp)
      obtain ⟨i, rfl⟩ := Int.eq_ofNat_of_zero_le h0
      exact mark_fn J i p (by omega)
    · exact absurd h (by simp)
  · exact absurd h (by simp)
theorem more_fn (J : Inv) (i : Nat) (p : Int) (hi : i ≤ 9223372036854775807) : Fn Tryd.prog J 59 false [.i i, .val (.int .i64 p)] (.val (.int .u8 (moreI i p))) := by
  refine fn_intro Tryd.func59 rfl (by kernel_rfl) (Nat.le_of_ble_eq_true (by kernel_rfl)) (by kernel_rfl) (by kernel_rfl) rfl (GM_ok J) ?_
  unfold Tryd.f59
  simp only [vquietR, vopsR, RetC, retW, cellR, undV, vgA, vbinN, vnn, isNilC, isIf, vconvH, vconvO, cvOk, frz1, frzE, jsOk, jsCo, rowsH, vgcH, vgH, vopsT, stepE, Kseq_app, vg_skip, vg_label, vg_seq, vg_region, vg_cond, vg_block, vg_exit, vg_ret, vg_loop, vcallF, vcallH, uls, HdelK, memN, noBox, ninL, keysH, jsAt, AdSub, adopt, noEl, isNil, effL, effO, vopsD, vquiet, vfstD, ldq, ldOk, vops, vfst, vone, vact, ug, addL, vbox, valloc, vstore, vbuild, vbuildSlice, vappend, vmake, zeroS, zeroE, vstrB, apC, nrm, nr1, nrL, keyL, neqs, diffs, V.app, V.len, vsrc, vdst, mkSl, mkBy, inOrd, placeAll, V.one, V.sto, V.csize, V.parts, V.cellsL, setMany, V.setB, V.setE, V.setO, V.noOwn, V.isOwn, vq, vcall, fzA, fz, fz1, fzL, fzN, rts, rt1, V.er, er1, er2, mixA, mixK, uargs, u1, R.add, vop, vbin, vint2, vstr2, vbool2, vnum, vun, vpick, vpick1, vbool, vconv, vnil, vfieldAddr, vindexAddr, vindex, vload, vfield, aggD, vslice, bnd, uopt, vlen, vmin, vextract, Hpk, Hroot, refV, ownR, V.i, V.elems, V.cell, V.cut, V.exact, V.ex0, exL, V.cl, clL, V.sc, scL, scO, scH, V.ct, ct1, ct2, RetP, RetK, RetH, retL, retOne, Back, Veq, subH, obs, obsIf, En.get, En.put, En.ev, enOf, gcond, wantB, constV, exGet, subE, Sub, RV, RVL, NR, RO, subER, subHR, newLt, oldNe, oldOk, oldGe, notIn, ivN, lookN, SubR, Nm.root, Nat.reduceMul, Nat.reduceLeDiff, Nat.reduceEqDiff, Nat.reduceLT, Nat.reduceAdd, Nat.reduceSub, ↓reduceIte, implies_true, reduceCtorEq, ne_eq, ↓shr_eq, IntKind.bits, Int.reduceToNat, Int.reducePow, dite_eq_ite, Value.oneCell', Nat.reduceBEq, Nat.reduceDiv, sd, nm, ty, GM, GMf]
  refine ⟨fun h => ⟨by omega, by omega, ?_⟩, fun h => ?_⟩
  · have h : p < 2 := by simpa using h
    simp only [moreI, h, if_true, Int.toNat_natCast]
  · have h : ¬ p < 2 := by simpa using h
    simp only [moreI, h, if_false]
def GKf : FuncId → List V → Option (List Prop × Bool × V) := fun f args =>
  if f = 58 then match args with
    | [.val (.int .i64 i), .val (.int .i64 p)] => some ([0 ≤ i, i ≤ 9223372036854775807], false, .val (.int .u8 (markI i.toNat p)))
    | _ => none
  else if f = 59 then match args with
    | [.val (.int .i64 i), .val (.int .i64 p)] => some ([0 ≤ i, i ≤ 9223372036854775807], false, .val (.int .u8 (moreI i.toNat p)))
    | _ => none
  else none
def dfB (t : TypeId) : V := if t = 25 then .by [] else df t
def GK (J : Inv) (n : Nat) : Sig := ⟨J, dfB, GKf, noH, n⟩
theorem GK_ok (J : Inv) (n : Nat) : SigOk Tryd.prog (GK J n) := .plain fun f args l fr r h hl => by
  unfold GKf at h
  split at h
  · rename_i hf; subst hf
    split at h
    · rename_i i p
      obtain ⟨rfl, rfl, rfl⟩ := some_tri h
      have h0 : 0 ≤ i := hl _ (by simp)
      have h1 : i ≤ 9223372036854775807 := hl _ (by simp)
      obtain ⟨i, rfl⟩ := Int.eq_ofNat_of_zero_le h0
      exact mark_fn J i p (by omega)
    · exact absurd h (by simp)
  · split at h
    · rename_i hf; subst hf
      split at h
      · rename_i i p
        obtain ⟨rfl, rfl, rfl⟩ := some_tri h
        have h0 : 0 ≤ i := hl _ (by simp)
        have h1 : i ≤ 9223372036854775807 := hl _ (by simp)
        obtain ⟨i, rfl⟩ := Int.eq_ofNat_of_zero_le h0
        exact more_fn J i p (by omega)
      · exact absurd h (by simp)
    · exact absurd h (by simp)
end Go.Proofs.YtelaolingpbnfaaDoor
namespace Go.Proofs.YtelaolingpbnfaaDoor
open Go.RowKit
set_option linter.unusedSimpArgs false
theorem trip {α β γ : Type} {a a' : α} {b b' : β} {c c' : γ} (h : some (a, b, c) = some (a', b', c')) : a = a' ∧ b = b' ∧ c = c' := by
  cases h; exact ⟨rfl, rfl, rfl⟩
section
variable {P : Program} {x x0 : Fx} {F : Cx} {w w' : World} {a : Act} {s : S}
def lst (ts : List Tlv) (vs : Nat → V) : List V := (List.range ts.length).map fun i => .st [.val (.int .i64 (ts.getD i default).tag), vs i, .val (.int .i64 (ts.getD i default).kids)]
theorem lst_len (ts : List Tlv) (vs : Nat → V) : (lst ts vs).length = ts.length := by simp [lst]
theorem lst_get (ts : List Tlv) (vs : Nat → V) (d : V) {i : Nat} (h : i < ts.length) : (lst ts vs).getD i d = .st [.val (.int .i64 (ts.getD i default).tag), vs i, .val (.int .i64 (ts.getD i default).kids)] := by
  rw [lst, List.getD_eq_getElem?_getD, List.getElem?_map, List.getElem?_range h]; rfl
theorem lst_tls (ts : List Tlv) : lst ts (fun i => .by (ts.getD i default).data) = tls ts := by
  refine List.ext_getElem? fun i => ?_
  rcases Nat.lt_or_ge i ts.length with h | h
  · simp only [lst, tls, List.getElem?_map, List.getElem?_range h, List.getElem?_eq_getElem h, Option.map_some, List.getD_eq_getElem?_getD, Option.getD_some, tlvV]
  · rw [List.getElem?_eq_none (by rw [lst_len]; exact h), List.getElem?_eq_none (by rw [tls_len]; exact h)]
/-- A list and its elements' contents, as they lie there. -/
structure Lim (w : World) (X0 : Value) (xs : List Value) (hv : Nat → Value) (ts : List Tlv) : Prop where
  row : w.ownsRow 0 36 3 X0 ts.length xs
  xs0 : ∀ i, i < ts.length → xs[i * 3]? = some (.int .i64 (ts.getD i default).tag)
  xs1 : ∀ i, i < ts.length → xs[i * 3 + 1]? = some (hv i)
  xs2 : ∀ i, i < ts.length → xs[i * 3 + 2]? = some (.int .i64 (ts.getD i default).kids)
  one : ∀ y ∈ xs, y.oneCell' = true
  kid : ∀ i, i < ts.length → Kid w (hv i) (ts.getD i default).data
theorem Lim.at {X0 : Value} {xs : List Value} {hv : Nat → Value} {ts : List Tlv} (h : Lim w X0 xs hv ts) (h0 : ∀ g, X0.ownBlock = some g → w'.heap[g]? = w.heap[g]?) (h1 : ∀ i, i < ts.length → Kid w' (hv i) (ts.getD i default).data) : Lim w' X0 xs hv ts :=
  ⟨ownsRow_at h.row h0, h.xs0, h.xs1, h.xs2, h.one, h1⟩
theorem Lim.rep {X0 : Value} {xs : List Value} {hv : Nat → Value} {ts : List Tlv} (h : Lim w X0 xs hv ts) (hF : ∀ g, X0.ownBlock = some g → ¬ F.F g) (vs : Nat → V) (hr : ∀ i, i < ts.length → Rep w F (vs i) (hv i)) (d : V) : Rep w F (.sq 3 d (lst ts vs)) X0 := by
  obtain ⟨A, cap, rfl, hcap, hA⟩ := row_val h.row
  have he : (V.sq 3 d (lst ts vs)).elems = some (3, ts.length, fun i => (lst ts vs).getD i d) := by simp [V.elems, lst_len]
  by_cases hn : 0 < ts.length
  · obtain ⟨g, rfl⟩ := hA hn
    refine .sl _ 3 ts.length _ _ cap g 0 (fun i j => if j = 0 then .int .i64 (ts.getD i default).tag else if j = 1 then hv i else .int .i64 (ts.getD i default).kids) he hcap (fun _ => ⟨rfl, (h.row.lt g rfl).2, hF g rfl⟩) (fun i hi j hj => ?_) (fun i hi j hj => ?_)
    · have h3 : xs[i * 3 + j]? = some (if j = 0 then .int .i64 (ts.getD i default).tag else if j = 1 then hv i else .int .i64 (ts.getD i default).kids) := by
        have : j = 0 ∨ j = 1 ∨ j = 2 := by omega
        rcases this with rfl | rfl | rfl
        · simpa using h.xs0 i hi
        · simpa using h.xs1 i hi
        · simpa using h.xs2 i hi
      refine ⟨?_, h.one _ (List.mem_of_getElem? h3)⟩
      rw [Nat.zero_add]
      exact row_cell h.row (fun _ _ => rfl) h3
    · rw [lst_get ts vs d hi]
      have : j = 0 ∨ j = 1 ∨ j = 2 := by omega
      rcases this with rfl | rfl | rfl
      · exact .val _
      · exact hr i hi
      · exact .val _
  · exact .sl _ 3 ts.length _ A cap 0 0 (fun _ _ => undef) he hcap (fun h => absurd h hn) (fun i hi => by omega) (fun i hi => by omega)
theorem tlo_elems (ts : List Tlv) : (tloV ts).elems = some (3, ts.length, fun i => (tlo ts).getD i tlvOD) := by simp [V.elems, tloV, tlo_len]
theorem tlo_getD (ts : List Tlv) (i : Nat) : (tlo ts).getD i tlvOD = tlvO (ts.getD i default) := tlo_get ts i
/-- A list of one's own, seen as it lies there. -/
theorem lim_of {k : Nat} {ts : List Tlv} (h : HOk w F s.h) (hk : Hroot s.h k = some (.row 36 (tloV ts))) : ∃ X0 xs hv, F.W (.r k) = some X0 ∧ (∀ i, i < ts.length → F.W (.c k i 1) = some (hv i)) ∧ Lim w X0 xs hv ts := by
  obtain ⟨X0, sz, n, c, u, xs, hW, he, hown, hc, hr, h1, hF⟩ := h (.r k) _ hk
  rw [tlo_elems] at he
  obtain ⟨rfl, rfl, rfl⟩ := trip he
  refine ⟨X0, xs, fun i => u i 1, hW, fun i hi => ?_, hown, fun i hi => ?_, fun i hi => ?_, fun i hi => ?_, h1, fun i hi => ?_⟩
  all_goals
    have q0 := hr i hi 0 (by omega)
    have q1 := hr i hi 1 (by omega)
    have q2 := hr i hi 2 (by omega)
    simp only [tlo_getD] at q0 q1 q2
    replace q1 : F.W (.c k i 1) = some (u i 1) := rep_ro q1
    have q0 := rep_val q0
    have q2 := rep_val q2
  · exact q1
  · rw [← q0]; simpa using hc i hi 0 (by omega)
  · exact hc i hi 1 (by omega)
  · rw [← q2]; exact hc i hi 2 (by omega)
  · have hg : Hget s.h (.c k i 1) = some (.row 5 (.by (ts.getD i default).data)) := by
      simp only [Hget, Hchild, hk, tlo_elems, tlo_getD]
      rw [if_pos ⟨hi, by omega⟩]
      rfl
    obtain ⟨y, e1, e2, _⟩ := kid_of (h _ _ hg)
    rw [q1] at e1
    obtain rfl := Option.some.inj e1
    exact e2
theorem Hget_tlo {k : Nat} {ts : List Tlv} {m : Nm} {ob : Ob} (h : Hget [(k, .row 36 (tloV ts))] m = some ob) : (m = .r k ∧ ob = .row 36 (tloV ts)) ∨ ∃ i, i < ts.length ∧ m = .c k i 1 ∧ ob = .row 5 (.by (ts.getD i default).data) := by
  cases m with
  | r q =>
    simp only [Hget, Hroot] at h
    split at h
    · rename_i e; subst e; exact .inl ⟨rfl, by simpa using h.symm⟩
    · cases h
  | c q i j =>
    have hq := Hget_one h
    simp only [Nm.root] at hq
    subst hq
    obtain ⟨ty0, s0, sz0, n0, cc0, ty, t, q', hr0, he0, hi, hj, hcell, rfl⟩ := Hget_c h
    simp only [Hroot, if_true, Option.some.injEq, Ob.row.injEq] at hr0
    obtain ⟨rfl, rfl⟩ := hr0
    rw [tlo_elems] at he0
    obtain ⟨rfl, rfl, rfl⟩ := trip he0
    replace hcell : ((tlo ts).getD i tlvOD).cell j = .own ty t q' := hcell
    rw [tlo_getD] at hcell
    have : j = 0 ∨ j = 1 ∨ j = 2 := by omega
    rcases this with rfl | rfl | rfl
    · cases hcell
    · refine .inr ⟨i, hi, rfl, ?_⟩
      simp only [tlvO, V.cell, List.getD_cons_succ, List.getD_cons_zero, V.own.injEq] at hcell
      rw [← hcell.1, ← hcell.2.1]
    · cases hcell
/-- .. and taken up again. -/
theorem Lim.own {k : Nat} {X0 : Value} {xs : List Value} {hv : Nat → Value} {ts : List Tlv} (h : Lim w X0 xs hv ts) (hW : F.W (.r k) = some X0) (hC : ∀ i, i < ts.length → F.W (.c k i 1) = some (hv i)) (hF : ∀ g, X0.ownBlock = some g → F.F g) (hG : ∀ i, i < ts.length → ∀ g, (hv i).ownBlock = some g → F.F g) :
    HOk w F [(k, .row 36 (tloV ts))] := by
  intro m ob hm
  rcases Hget_tlo hm with ⟨rfl, rfl⟩ | ⟨i, hi, rfl, rfl⟩
  · refine ⟨X0, 3, ts.length, _, fun i j => if j = 0 then .int .i64 (ts.getD i default).tag else if j = 1 then hv i else .int .i64 (ts.getD i default).kids, xs, hW, tlo_elems ts, h.row, fun i hi j hj => ?_, fun i hi j hj => ?_, h.one, hF⟩
    · have : j = 0 ∨ j = 1 ∨ j = 2 := by omega
      rcases this with rfl | rfl | rfl
      · simpa using h.xs0 i hi
      · simpa using h.xs1 i hi
      · simpa using h.xs2 i hi
    · rw [tlo_getD]
      have : j = 0 ∨ j = 1 ∨ j = 2 := by omega
      rcases this with rfl | rfl | rfl
      · exact .val _
      · exact .ro _ _ (hC i hi)
      · exact .val _
  · exact ob_of (hC i hi) (h.kid i hi) (hG i hi)
theorem Lim.thaw {J : Inv} {k nx n : Nat} {F0 : Cx} {w0 : World} {ts0 ts : List Tlv} {X0 : Value} {xs : List Value} {hv : Nat → Value} {t : Nat} {b : Bool} (hM : Mem J [(k, .row 36 (tloV ts0))] nx F0 w0)
    (r : Root ⟨J, w0, fun b => F0.F b ∧ ¬ Blk F0 [(k, .row 36 (tloV ts0))] b, n, Blk F0 [(k, .row 36 (tloV ts0))], F0⟩ x) (hs : Sat x s F a w) (hl : Lim w X0 xs hv ts) (hlen : ts.length = ts0.length)
    (hW : F0.W (.r k) = some X0) (hC : ∀ i, i < ts.length → F0.W (.c k i 1) = some (hv i)) (ht : s.e.get t = some (.bb b)) :
    ∃ G, Sat ⟨J, w0, fun b => F0.F b ∧ ¬ Blk F0 [(k, .row 36 (tloV ts0))] b, n, Blk F0 [(k, .row 36 (tloV ts0))], F0⟩ ⟨[(t, .bb b)], [(k, .row 36 (tloV ts))], nx⟩ G a w := by
  have h0 := r.sat hs
  have b0 : ∀ g, X0.ownBlock = some g → Blk F0 [(k, .row 36 (tloV ts0))] g := fun g hg => ⟨.r k, _, by simp only [Hget, Hroot, if_true]; rfl, by simp [Cx.blk, hW, hg]⟩
  have b1 : ∀ i, i < ts.length → ∀ g, (hv i).ownBlock = some g → Blk F0 [(k, .row 36 (tloV ts0))] g := fun i hi g hg => ⟨.c k i 1, .row 5 (.by (ts0.getD i default).data), by
    simp only [Hget, Hchild, Hroot, if_true, tlo_elems, tlo_getD]
    rw [if_pos ⟨by omega, by omega⟩]; rfl, by simp [Cx.blk, hC i hi, hg]⟩
  have hBF : ∀ g, Blk F0 [(k, .row 36 (tloV ts0))] g → F0.F g := fun g ⟨m, ob, h1, h2⟩ => by
    have hok := hM.own m ob h1
    cases ob with
    | box ty v => obtain ⟨b, cs, u, e1, _, _, _, _, e6⟩ := hok; simp only [Cx.blk] at h2; rw [e1] at h2; obtain rfl := Option.some.inj h2; exact e6
    | row ty v => obtain ⟨y, _, _, _, _, _, e1, _, _, _, _, _, e7⟩ := hok; simp only [Cx.blk, e1, Option.bind_some] at h2; exact e7 g h2
  let G : Cx := ⟨fun b => F.F b ∨ X0.ownBlock = some b ∨ ∃ i, i < ts.length ∧ (hv i).ownBlock = some b, F0.O, F0.W⟩
  have hGle : ∀ b, G.F b → F0.F b ∨ w0.heap.size ≤ b := fun b hb => by
    rcases hb with hb | hb | ⟨i, hi, hb⟩
    · exact h0.le.le1 b hb
    · exact .inl (hBF b (b0 b hb))
    · exact .inl (hBF b (b1 i hi b hb))
  have hown : HOk w G [(k, .row 36 (tloV ts))] := hl.own hW hC (fun g hg => .inr (.inl hg)) (fun i hi g hg => .inr (.inr ⟨i, hi, hg⟩))
  have hblk : ∀ m ob g, Hget [(k, .row 36 (tloV ts))] m = some ob → G.blk m ob = some g → ∃ ob0, Hget [(k, .row 36 (tloV ts0))] m = some ob0 ∧ F0.blk m ob0 = some g := fun m ob g hm hg => by
    rcases Hget_tlo hm with ⟨rfl, rfl⟩ | ⟨i, hi, rfl, rfl⟩
    · exact ⟨.row 36 (tloV ts0), by simp only [Hget, Hroot, if_true], hg⟩
    · exact ⟨.row 5 (.by (ts0.getD i default).data), by
        simp only [Hget, Hchild, Hroot, if_true, tlo_elems, tlo_getD]
        rw [if_pos ⟨by omega, by omega⟩]; rfl, hg⟩
  refine ⟨G, h0.ev, fun t' v ht' => ?_, h0.df, h0.sz, fun b hb => .inl (h0.fold b hb), fun b hb => ?_, hM.nx, hown, fun m ob g hm hg => ?_, fun m ob g hm hg hx => ?_, fun m m' ob ob' g hm hm' hg hg' => ?_, hM.wsl, ⟨hGle, fun _ _ h => h, fun _ _ h => h⟩, ?_⟩
  · simp only [En.get] at ht'
    split at ht'
    · rename_i e; subst e
      obtain rfl := Option.some.inj ht'
      obtain ⟨h1, h2⟩ := h0.env _ _ ht
      exact ⟨h1, by rw [rep_bb h2]; exact .bb b⟩
    · cases ht'
  · rcases hb with hb | hb | ⟨i, hi, hb⟩
    · exact h0.flt b hb
    · exact (hl.row.lt b hb).2
    · exact ((hl.kid i hi).lt b hb).2
  · obtain ⟨ob0, e1, e2⟩ := hblk m ob g hm hg
    exact .inr ⟨m, ob0, e1, e2⟩
  · obtain ⟨ob0, e1, e2⟩ := hblk m ob g hm hg
    exact hx.2 ⟨m, ob0, e1, e2⟩
  · obtain ⟨o1, e1, e2⟩ := hblk m ob g hm hg
    obtain ⟨o2, f1, f2⟩ := hblk m' ob' g hm' hg'
    exact hM.sep m m' o1 o2 g e1 f1 e2 f2
  · exact J.out hM.inv h0.ev.size (fun b hb hn => h0.ev.block b hb fun hx => hn (hBF b hx)) hGle
end
end Go.Proofs.YtelaolingpbnfaaDoor
namespace Go.Proofs.YtelaolingpbnfaaDoor
open Go.RowKit
set_option linter.unusedSimpArgs false
section
variable {P : Program} {x x0 x1 : Fx} {F F' : Cx} {w w' : World} {a a' : Act} {s s' : S} {X0 : Value} {xs : List Value} {hv : Nat → Value} {ts : List Tlv} {i : Nat}
abbrev fx0 (J : Inv) (w : World) (F : Cx) (pre : List (Nat × Ob)) (n : Nat) : Fx := ⟨J, w, fun b => F.F b ∧ ¬ Blk F pre b, n, Blk F pre, F⟩
/-- A contract of a function whose walk is put together by hand. -/
theorem fnH_wp {J : Inv} {f : FuncId} {fn : Func} {c : Code} {args : List V} {pre post : List (Nat × Ob)} {nx nx' : Nat} {res : V} (hf : P.funcs[f]? = some fn) (hb : fn.body = some c) (hname : (fn.name == "runtime.NumGoroutine") = false) (hn : args.length ≤ fn.ntmps)
    (h : ∀ (w : World) (F : Cx) (a : Act) (Q : Exit → Act → World → Prop), Mem J pre nx F w → Sat (fx0 J w F pre fn.ntmps) ⟨enOf 0 args, pre, nx⟩ F a w → KOk (fx0 J w F pre fn.ntmps) ⟨RetH fn.results.toList res post nx', RetH fn.results.toList res post nx', []⟩ Q → c.wp P Q a w) : FnH P J f args pre nx res post nx' := by
  refine ⟨⟨fn, hf, by simp [hb], hname⟩, fun w F vs hM hlen hvs => ?_⟩
  refine calls_of_wp hf hb ?_
  have fin : ∀ (s : S) (F' : Cx) (a : Act) (w' : World), RetH fn.results.toList res post nx' s → Sat (fx0 J w F pre fn.ntmps) s F' a w' →
      a.defers = [] ∧ ∃ v, (results fn a.tmps).run P w' = .ok v w' ∧ ∃ v' G1, Ending.returned v = .returned v' ∧ Ev (Blk F pre) w w' ∧ Cx.Le w F G1 ∧ (∀ b, F.F b → ¬ Blk F pre b → G1.F b) ∧ Mem J post nx' G1 w' ∧ (∀ k ob g, Hget post k = some ob → G1.blk k ob = some g → Blk F pre g ∨ w.heap.size ≤ g) ∧ Rep w' G1 res v' := fun s F' a w' h hs => by
    obtain ⟨s', G', v, hs', hB, hrun, hv⟩ := RetK_ok (P := P) h hs
    refine ⟨hs.df, v, hrun, v, G', rfl, hs'.ev, hs'.le, fun b h1 h2 => hs'.fold b ⟨h1, h2⟩, ⟨hs'.flt, fun k hk => hs'.nx k (Nat.le_trans hB.2 hk), fun m o ho => hs'.own m o (subH_get hB.1 m o ho), fun m m' o o' g ho ho' => hs'.sep m m' o o' g (subH_get hB.1 m o ho) (subH_get hB.1 m' o' ho'), hs'.wsl, hs'.inv⟩, fun k ob g hk hg => (hs'.own2 k ob g (subH_get hB.1 k ob hk) hg).symm, hv⟩
  refine h w F _ _ hM ?_ ⟨fun s F' a w' h hs => fin s F' a w' h hs, fun s F' a w' h hs => fin s F' a w' h hs, fun id k hk => by simp [exGet] at hk⟩
  refine ⟨Ev.refl _ w, fun t v ht => ?_, rfl, by simp; omega, fun b hb => hb.1, hM.flt, hM.nx, hM.own, fun k ob g hk hg => .inr ⟨k, ob, hk, hg⟩, fun k ob g hk hg hF => hF.2 ⟨k, ob, hk, hg⟩, hM.sep, hM.wsl, Cx.Le.refl w _, hM.inv⟩
  obtain ⟨_, h1⟩ := enOf_get args 0 t v ht
  simp only [Nat.sub_zero] at h1
  have hlt : t < args.length := (List.getElem?_eq_some_iff.1 h1).1
  have hlt' : t < vs.length := by omega
  refine ⟨by simp; omega, ?_⟩
  have hg : vs[t]? = some vs[t] := List.getElem?_eq_getElem hlt'
  have := hvs t v _ h1 hg
  simpa [Array.getD_eq_getD_getElem?, Array.getElem?_append, hlt'] using this
structure Bas (x0 : Fx) (X0 : Value) (hv : Nat → Value) (n : Nat) : Prop where
  b0 : ∀ b, X0.ownBlock = some b → x0.X b ∧ ¬ x0.F b ∧ b < x0.w.heap.size ∧ x0.C.F b
  b1 : ∀ j, j < n → ∀ b, (hv j).ownBlock = some b → x0.X b ∧ ¬ x0.F b ∧ b < x0.w.heap.size ∧ x0.C.F b
  s0 : ∀ j, j < n → ∀ b, X0.ownBlock = some b → (hv j).ownBlock ≠ some b
  s1 : ∀ j j', j < n → j' < n → ∀ b, (hv j).ownBlock = some b → (hv j').ownBlock = some b → j = j'
  f : ∀ b, x0.F b → b < x0.w.heap.size
structure Fro (x0 : Fx) (X0 : Value) (xs : List Value) (hv : Nat → Value) (ts : List Tlv) (i : Nat) (x : Fx) (F : Cx) (w : World) : Prop where
  root : Root x0 x
  lim : Lim w X0 xs hv ts
  f0 : ∀ b, X0.ownBlock = some b → ¬ F.F b
  f1 : ∀ j, j < i → j < ts.length → ∀ b, (hv j).ownBlock = some b → ¬ F.F b
  f2 : ∀ j, i ≤ j → j < ts.length → ∀ b, (hv j).ownBlock = some b → x.F b
theorem Fro.step (h : Fro x0 X0 xs hv ts i x F w) (hs : Sat x s F a w) (r1 : Root x0 x1) (hw : x1.w = w) (hX : x1.X = Blk F s.h) (hC : x1.C = F) (hF : ∀ b, F.F b → ¬ Blk F s.h b → x1.F b) (hs' : Sat x1 s' F' a' w') :
    Fro x0 X0 xs hv ts i x1 F' w' ∧ ∀ y l, Kid w y l → (∀ b, y.ownBlock = some b → x.F b) → Kid w' y l ∧ ∀ b, y.ownBlock = some b → x1.F b := by
  have hev : ∀ b, b < w.heap.size → ¬ Blk F s.h b → w'.heap[b]? = w.heap[b]? := fun b hb hn => by
    have := hs'.ev.block b (by rw [hw]; exact hb) (by rw [hX]; exact hn)
    rwa [hw] at this
  have hle : ∀ b, F'.F b → F.F b ∨ w.heap.size ≤ b := fun b hb => by
    have := hs'.le.le1 b hb
    rwa [hC, hw] at this
  have n1 : ∀ b, ¬ F.F b → ¬ Blk F s.h b := fun b hb ⟨k, ob, hk, hg⟩ => hb (blk_F hs hk hg)
  have n2 : ∀ b, x.F b → ¬ Blk F s.h b := fun b hb ⟨k, ob, hk, hg⟩ => hs.own3 k ob b hk hg hb
  have hkid : ∀ y l, Kid w y l → (∀ b, y.ownBlock = some b → x.F b) → Kid w' y l ∧ ∀ b, y.ownBlock = some b → x1.F b := fun y l hk hy =>
    ⟨ownsRow_at hk fun g hg => hev g (hk.lt g hg).2 (n2 g (hy g hg)), fun b hb => hF b (hs.fold b (hy b hb)) (n2 b (hy b hb))⟩
  refine ⟨⟨r1, h.lim.at (fun g hg => hev g (h.lim.row.lt g hg).2 (n1 g (h.f0 g hg))) (fun j hj => ?_), fun b hb hF' => ?_, fun j hj hj' b hb hF' => ?_, fun j hj hj' b hb => ?_⟩, hkid⟩
  · rcases Nat.lt_or_ge j i with hji | hji
    · exact ownsRow_at (h.lim.kid j hj) fun g hg => hev g ((h.lim.kid j hj).lt g hg).2 (n1 g (h.f1 j hji hj g hg))
    · exact (hkid _ _ (h.lim.kid j hj) (h.f2 j hji hj)).1
  · rcases hle b hF' with h1 | h1
    · exact h.f0 b hb h1
    · have := (h.lim.row.lt b hb).2; omega
  · rcases hle b hF' with h1 | h1
    · exact h.f1 j hj hj' b hb h1
    · have := ((h.lim.kid j hj').lt b hb).2; omega
  · exact (hkid _ _ (h.lim.kid j hj') (h.f2 j hj hj')).2 b hb
theorem bV_snoc (l : List UInt8) (c : UInt8) : bV (l ++ [c]) = bV l ++ [.int .u8 (byteAt [c] 0)] := by
  refine List.ext_getElem? fun i => ?_
  rcases Nat.lt_trichotomy i l.length with h | h | h
  · rw [bV_get _ (by simp; omega), List.getElem?_append_left (by rw [bV_len]; exact h), bV_get _ h]
    congr 2
    unfold byteAt
    rw [List.getD_eq_getElem?_getD, List.getElem?_append_left h, List.getD_eq_getElem?_getD]
  · subst h
    rw [bV_get _ (by simp), List.getElem?_append_right (by rw [bV_len]; exact Nat.le_refl _), bV_len, Nat.sub_self]
    simp only [List.getElem?_cons_zero]
    congr 2
    unfold byteAt
    rw [List.getD_eq_getElem?_getD, List.getElem?_append_right (Nat.le_refl _), Nat.sub_self]; rfl
  · rw [List.getElem?_eq_none (by rw [bV_len]; simp; omega), List.getElem?_eq_none (by simp [bV_len]; omega)]
/-- Something is appended to a slice that began as an element's contents. -/
theorem Fro.app {y z : Value} {l : List UInt8} {c : UInt8} {vz : V} {t : Nat} {T ty : TypeId} (hb : Bas x0 X0 hv ts.length) (h : Fro x0 X0 xs hv ts i x F w) (hs : Sat x s F a w) (hi : i < ts.length) (hk : Kid w y l) (hyF : ∀ b, y.ownBlock = some b → x.F b)
    (hyB : ∀ b, y.ownBlock = some b → (hv i).ownBlock = some b ∨ x0.w.heap.size ≤ b) (hlen : (ts.getD i default).data.length ≤ l.length) (hz : Rep w F vz z) (hsrc : vsrc s.h vz = some ([], some (.by [c], none))) (hsz : l.length + 1 ≤ 140737488355328) (ht : t < x.n)
    (hT : P.underlying T = some (.slice 5)) (hri : rowInfo P 5 = some (1, 1)) :
    ∃ v' w', (Builtin.append_ #[T, T] ty #[y, z]).run P w = .ok v' w' ∧ ∃ x1 F1, Sat x1 ⟨(t, .val v') :: s.e, s.h, s.nx⟩ F1 (a.put (some t) v') w' ∧ Fro x0 X0 xs hv ts i x1 F1 w' ∧ Kid w' v' (l ++ [c]) ∧ (∀ b, v'.ownBlock = some b → x1.F b) ∧
      (∀ b, v'.ownBlock = some b → (hv i).ownBlock = some b ∨ x0.w.heap.size ≤ b) := by
  obtain ⟨A, sz, m, cap, b, off, cc, u, rfl, he, hA, hc, hsr⟩ := vsrc_ok hs hsrc (by simp [AllP]) hz
  obtain ⟨rfl, rfl, rfl⟩ : 1 = sz ∧ 1 = m ∧ _ = cc := trip he
  obtain ⟨v', w', news, r1, r2, r3, r4, r5, r6, r7⟩ := append_keep (P := P) (ty := ty) (cap := cap) hT hri hk (hA (by omega)) hc (by omega) (by omega)
  have hu : u 0 0 = .int .u8 (byteAt [c] 0) := rep_val (hsr 0 (by omega) 0 (by omega))
  have hnews : news = [.int .u8 (byteAt [c] 0)] := by
    match news, r5 with
    | [q], _ =>
      have := r6 0 (by omega) 0 (by omega)
      simp only [Nat.zero_mul, Nat.add_zero, List.getElem?_cons_zero, Option.some.injEq] at this
      rw [this, hu]
  have hkid' : Kid w' v' (l ++ [c]) := by
    unfold Kid
    rw [bV_snoc, List.length_append, ← hnews]
    exact r2
  have h0 := h.root.sat hs
  have hyX : ∀ b, y.ownBlock = some b → x.F b ∧ (x0.w.heap.size ≤ b ∨ x0.X b) := fun b hb' => ⟨hyF b hb', by
    rcases hyB b hb' with h | h
    · exact .inr (hb.b1 i hi b h).1
    · exact .inl h⟩
  have hv' : ∀ b, v'.ownBlock = some b → b < w'.heap.size ∧ (y.ownBlock = some b ∨ b = w.heap.size) := fun b hb' => ⟨(r2.lt b hb').2, by
    rcases r4 with h | h
    · exact .inl (by rw [← h]; exact hb')
    · rw [h] at hb'; exact .inr (Option.some.inj hb').symm⟩
  obtain ⟨x1, F1, q1, q2, q3, q4, q5, q6⟩ := hs.limbo h.root ht r3 hyX hv'
  have hws : x0.w.heap.size ≤ w.heap.size := h0.ev.size
  have hne : ∀ b, (X0.ownBlock = some b ∨ ∃ j, j ≠ i ∧ j < ts.length ∧ (hv j).ownBlock = some b) → y.ownBlock ≠ some b := fun b hb' e => by
    rcases hyB b e with h1 | h1
    · rcases hb' with h2 | ⟨j, hj, hj', h2⟩
      · exact hb.s0 i hi b h2 h1
      · exact hj (hb.s1 j i hj' hi b h2 h1)
    · rcases hb' with h2 | ⟨j, hj, hj', h2⟩
      · have := (hb.b0 b h2).2.2.1; omega
      · have := (hb.b1 j hj' b h2).2.2.1; omega
  refine ⟨v', w', r1, x1, F1, q2, ⟨q1, h.lim.at (fun g hg => r3.block g (h.lim.row.lt g hg).2 fun e => hne g (.inl hg) e.symm) (fun j hj => r7 _ _ _ (h.lim.kid j hj) fun e => ?_), fun b hb' hF' => ?_, fun j hj hj' b hb' hF' => ?_, fun j hj hj' b hb' => q5 b (h.f2 j hj hj' b hb')⟩, hkid', q6, fun b hb' => ?_⟩
  · by_cases hji : j = i
    · subst hji; exact hlen
    · cases hb2 : (hv j).ownBlock with
      | none =>
        obtain ⟨A2, cap2, e2, _, hA2⟩ := row_val (h.lim.kid j hj)
        rcases Nat.eq_zero_or_pos (ts.getD j default).data.length with h0 | h0
        · omega
        · obtain ⟨g, rfl⟩ := hA2 h0
          rw [e2] at hb2; simp [Value.ownBlock] at hb2
      | some g => exact absurd (by rw [← e, hb2]) (hne g (.inr ⟨j, hji, hj, hb2⟩))
  · rcases q4 b hF' with h1 | h1
    · exact h.f0 b hb' h1
    · have := (h.lim.row.lt b hb').2; omega
  · rcases q4 b hF' with h1 | h1
    · exact h.f1 j hj hj' b hb' h1
    · have := ((h.lim.kid j hj').lt b hb').2; omega
  · rcases (hv' b hb').2 with h1 | h1
    · exact hyB b h1
    · exact .inr (by omega)
/-- What it was grown to may be read now, and the element's contents too. -/
theorem Fro.read {y : Value} {l : List UInt8} {t : Nat} (hb : Bas x0 X0 hv ts.length) (h : Fro x0 X0 xs hv ts i x F w) (hs : Sat x s F a w) (hi : i < ts.length) (hk : Kid w y l) (hyF : ∀ b, y.ownBlock = some b → x.F b)
    (hyB : ∀ b, y.ownBlock = some b → (hv i).ownBlock = some b ∨ x0.w.heap.size ≤ b) (ht : s.e.get t = some (.val y)) :
    ∃ x1 F1, Sat x1 ⟨(t, .by l) :: s.e, s.h, s.nx⟩ F1 a w ∧ Fro x0 X0 xs hv ts (i + 1) x1 F1 w := by
  obtain ⟨x1, F1, q1, q2, q3, q4, q5⟩ := hs.drop h.root (fun b => y.ownBlock = some b ∨ (hv i).ownBlock = some b) (fun b hb' => ⟨fun ⟨k, ob, hk', hg⟩ => hs.own3 k ob b hk' hg (by
      rcases hb' with h1 | h1
      · exact hyF b h1
      · exact h.f2 i (Nat.le_refl _) hi b h1), fun hx => by
      rcases hb' with h1 | h1
      · rcases hyB b h1 with h2 | h2
        · exact (hb.b1 i hi b h2).2.1 hx
        · have := hb.f b hx; omega
      · exact (hb.b1 i hi b h1).2.1 hx⟩)
  refine ⟨x1, F1, ?_, ⟨q1, h.lim, fun b hb' hF' => h.f0 b hb' ((q4 b).1 hF').1, fun j hj hj' b hb' hF' => ?_, fun j hj hj' b hb' => q5 b (h.f2 j (by omega) hj' b hb') fun hd => ?_⟩⟩
  · obtain ⟨h1, h2⟩ := q2.env t _ ht
    have he := rep_val h2
    refine ⟨q2.ev, fun t' v' ht' => ?_, q2.df, q2.sz, q2.fold, q2.flt, q2.nx, q2.own, q2.own2, q2.own3, q2.sep, q2.wsl, q2.le, q2.inv⟩
    simp only [En.get] at ht'
    split at ht'
    · rename_i e; subst e
      obtain rfl := Option.some.inj ht'
      refine ⟨h1, ?_⟩
      rw [he]
      exact kid_read hk fun g hg hF => ((q4 g).1 hF).2 (.inl hg)
    · exact q2.env t' v' ht'
  · rcases Nat.lt_or_ge j i with h1 | h1
    · exact h.f1 j h1 hj' b hb' ((q4 b).1 hF').1
    · obtain rfl : j = i := by omega
      exact ((q4 b).1 hF').2 (.inr hb')
  · rcases hd with h1 | h1
    · rcases hyB b h1 with h2 | h2
      · have := hb.s1 j i hj' hi b hb' h2; omega
      · have := (hb.b1 j hj' b hb').2.2.1; omega
    · have := hb.s1 j i hj' hi b hb' h1; omega
end
end Go.Proofs.YtelaolingpbnfaaDoor
