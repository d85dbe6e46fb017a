/- Pieces of a walk, put together by hand: memory that is left alone for a while; a slice that is grown while its old header lives on. -/
import Derived.Test.YtelaolingpbnfaaWad
namespace Go.Proofs.Ytelaolingpbnfaa
open Go.RowKit
section
variable {P : Program} {x x0 x1 : Fx} {F : Cx} {w w' : World} {a : Act} {s : S}
/-- x' stands within x: what x' allows, x allows. -/
structure Root (x x' : Fx) : Prop where
  j : x'.J = x.J
  n : x'.n = x.n
  ev : Ev x.X x.w x'.w
  X : ∀ b, x'.X b → x.w.heap.size ≤ b ∨ x.X b
  F : ∀ b, x.F b → x'.F b
  le : Cx.Le x.w x.C x'.C
theorem Root.refl (x : Fx) : Root x x := ⟨rfl, rfl, Ev.refl _ _, fun _ h => .inr h, fun _ h => h, Cx.Le.refl _ _⟩
theorem Root.evs {X : Nat → Prop} {w2 : World} (r : Root x x1) (hX : ∀ b, X b → x1.w.heap.size ≤ b ∨ x1.X b) (h : Ev X x1.w w2) : Ev x.X x.w w2 :=
  ⟨h.os.trans r.ev.os, h.tape.trans r.ev.tape, h.output.trans r.ev.output, Nat.le_trans r.ev.size h.size, fun b hb hx => (h.block b (Nat.lt_of_lt_of_le hb r.ev.size) fun hx' => by
    rcases hX b hx' with h | h
    · have := r.ev.size; omega
    · rcases r.X b h with h | h
      · omega
      · exact hx h).trans (r.ev.block b hb hx)⟩
theorem Root.sat (r : Root x x1) (h : Sat x1 s F a w) : Sat x s F a w where
  ev := r.evs (fun _ h => .inr h) h.ev
  env := h.env
  df := h.df
  sz := h.sz.trans r.n
  fold := fun b hb => h.fold b (r.F b hb)
  flt := h.flt
  nx := h.nx
  own := h.own
  own2 := fun k ob g hk hg => by
    rcases h.own2 k ob g hk hg with h | h
    · exact .inl (Nat.le_trans r.ev.size h)
    · exact r.X g h
  own3 := fun k ob g hk hg hx => h.own3 k ob g hk hg (r.F g hx)
  sep := h.sep
  wsl := h.wsl
  le := r.le.trans h.le r.ev.size
  inv := r.j ▸ h.inv
/-- From here on: what is one's own here may be written, no more. -/
def Fx.at (x : Fx) (h : List (Nat × Ob)) (F : Cx) (w : World) : Fx := ⟨x.J, w, fun b => F.F b ∧ ¬ Blk F h b, x.n, Blk F h, F⟩
theorem Sat.root (r : Root x0 x) (hs : Sat x s F a w) : Root x0 (x.at s.h F w) ∧ Sat (x.at s.h F w) s F a w := by
  have h0 := r.sat hs
  refine ⟨⟨r.j, r.n, h0.ev, fun b ⟨k, ob, hk, hb⟩ => h0.own2 k ob b hk hb, fun b hb => ⟨h0.fold b hb, fun ⟨k, ob, hk, hg⟩ => h0.own3 k ob b hk hg hb⟩, h0.le⟩, ?_⟩
  exact ⟨Ev.refl _ _, hs.env, hs.df, hs.sz, fun b hb => hb.1, hs.flt, hs.nx, hs.own, fun k ob g hk hg => .inr ⟨k, ob, hk, hg⟩, fun k ob g hk hg hF => hF.2 ⟨k, ob, hk, hg⟩, hs.sep, hs.wsl, Cx.Le.refl _ _, hs.inv⟩
/-- A walk's piece, by the generator: what is not one's own there is as it was. -/
theorem piece {G : Sig} {c : Code} {K : Ko} {Q : Exit → Act → World → Prop} (r : Root x0 x) (hs : Sat x s F a w) (hG : SigOk P G) (hJ : x.J = G.J) (hb : G.b = s.nx) (hm : P.follows .mixedOrders = true) (ho : okC x.n c = true) (hv : vg P G c s K)
    (hK : ∀ x1, Root x0 x1 → x1.J = x.J → x1.n = x.n → x1.w = w → x1.X = Blk F s.h → x1.C = F → (∀ b, F.F b → ¬ Blk F s.h b → x1.F b) → KOk x1 K Q) : c.wp P Q a w := by
  obtain ⟨r1, h1⟩ := hs.root r
  exact vg_ok (x := x.at s.h F w) hG hJ (fun m hm' => hs.nx m (by omega)) hm c s K Q F a w ho hv (hK _ r1 rfl rfl rfl rfl rfl fun b h2 h3 => ⟨h2, h3⟩) h1
/-! ## A slice's contents, whoever owns it -/
theorem ownsRow_at {ty : TypeId} {sz n : Nat} {h : Value} {xs : List Value} (hk : w.ownsRow 0 ty sz h n xs) (hb : ∀ g, h.ownBlock = some g → w'.heap[g]? = w.heap[g]?) : w'.ownsRow 0 ty sz h n xs := by
  refine ⟨hk.1, ?_⟩
  rcases hk.2 with h | ⟨g, cap, cur, e1, e2, e3, e4⟩
  · exact .inl h
  · exact .inr ⟨g, cap, cur, e1, e2, (hb g (by rw [e1]; rfl)).trans e3, e4⟩
def bV (l : List UInt8) : List Value := (List.range l.length).map fun i => .int .u8 (byteAt l i)
theorem bV_len (l : List UInt8) : (bV l).length = l.length := by simp [bV]
theorem bV_get (l : List UInt8) {i : Nat} (h : i < l.length) : (bV l)[i]? = some (.int .u8 (byteAt l i)) := by simp [bV, h]
def Kid (w : World) (h : Value) (l : List UInt8) : Prop := w.ownsRow 0 5 1 h l.length (bV l)
theorem kid_of {m : Nm} {l : List UInt8} (h : ObOk w F m (.row 5 (.by l))) : ∃ y, F.W m = some y ∧ Kid w y l ∧ ∀ g, y.ownBlock = some g → F.F g := by
  obtain ⟨y, sz, n, c, u, xs, hW, he, hown, hc, hr, h1, hF⟩ := h
  obtain ⟨rfl, rfl, rfl⟩ : 1 = sz ∧ l.length = n ∧ _ = c := by simpa [V.elems] using he
  refine ⟨y, hW, ?_, hF⟩
  have hx : xs = bV l := by
    refine List.ext_getElem? fun i => ?_
    have hl := hown.1
    rcases Nat.lt_or_ge i l.length with hi | hi
    · have h2 := hc i hi 0 (by omega)
      have h3 := rep_val (hr i hi 0 (by omega))
      rw [bV_get l hi, ← h3]
      simpa using h2
    · rw [List.getElem?_eq_none (by omega), List.getElem?_eq_none (by rw [bV_len]; exact hi)]
  rw [hx] at hown; exact hown
theorem bV_one {l : List UInt8} : ∀ y ∈ bV l, y.oneCell' = true := by
  intro y hy
  simp only [bV, List.mem_map] at hy
  obtain ⟨i, _, rfl⟩ := hy
  rfl
theorem ob_of {m : Nm} {y : Value} {l : List UInt8} (hW : F.W m = some y) (hk : Kid w y l) (hF : ∀ g, y.ownBlock = some g → F.F g) : ObOk w F m (.row 5 (.by l)) := by
  refine ⟨y, 1, l.length, _, fun i _ => .int .u8 (byteAt l i), bV l, hW, rfl, hk, fun i hi j hj => ?_, fun i hi j hj => .val _, bV_one, hF⟩
  obtain rfl : j = 0 := by omega
  simpa using bV_get l hi
theorem kid_read {y : Value} {l : List UInt8} (hk : Kid w y l) (hF : ∀ g, y.ownBlock = some g → ¬ F.F g) : Rep w F (.by l) y := by
  obtain ⟨A, cap, rfl, hcap, hA⟩ := row_val hk
  by_cases hn : 0 < l.length
  · obtain ⟨g, rfl⟩ := hA hn
    refine .sl _ 1 l.length _ _ cap g 0 (fun i _ => .int .u8 (byteAt l i)) rfl hcap (fun _ => ⟨rfl, (hk.lt g rfl).2, hF g rfl⟩) (fun i hi j hj => ⟨?_, rfl⟩) (fun i hi j hj => .val _)
    obtain rfl : j = 0 := by omega
    rw [Nat.zero_add]
    exact row_cell hk (fun _ _ => rfl) (by simpa using bV_get l hi)
  · exact .sl _ 1 l.length _ A cap 0 0 (fun _ _ => undef) rfl hcap (fun h => absurd h hn) (fun i hi => by omega) (fun i hi => by omega)
/-! ## Appended to: old headers read as they did -/
theorem append_keep {t ty el : TypeId} {sz bs n m cap b off : Nat} {v : Value} {xs : List Value} {A : Option Addr} {u : Nat → Nat → Value}
    (ht : P.underlying t = some (.slice el)) (hri : rowInfo P el = some (sz, bs)) (hown : w.ownsRow 0 el sz v n xs) (hA : A = some ⟨b, off, none⟩)
    (hc : ∀ i, i < m → ∀ j, j < sz → w.cell? ⟨b, off + (i * sz + j), none⟩ = some (u i j) ∧ (u i j).oneCell' = true) (hb' : (n + m) * bs ≤ 140737488355328) (hbp : 0 < bs) :
    ∃ v' w' news, (Builtin.append_ #[t, t] ty #[v, .slice A m cap]).run P w = .ok v' w' ∧ w'.ownsRow 0 el sz v' (n + m) (xs ++ news) ∧ w.grownBy w' v.ownBlock ∧ (v'.ownBlock = v.ownBlock ∨ v'.ownBlock = some w.heap.size) ∧
      news.length = m * sz ∧ (∀ i, i < m → ∀ j, j < sz → news[i * sz + j]? = some (u i j)) ∧
      ∀ h nh ms, w.ownsRow 0 el sz h nh ms → (h.ownBlock = v.ownBlock → nh ≤ n) → w'.ownsRow 0 el sz h nh ms := by
  obtain ⟨v', w', news, h1, h2, h3, h4, h5, h6, h7⟩ := append_run (P := P) (ty := ty) (cap := cap) ht hri hown (fun _ => hA) hc hb' hbp
  refine ⟨v', w', news, h1, h2, h3, h4, h5, h6, fun h nh ms hh hn => ?_⟩
  subst hA
  by_cases he : h.ownBlock = v.ownBlock
  · replace hn := hn he
    refine ⟨hh.1, ?_⟩
    rcases hh.2 with hnil | ⟨g, cap2, cur2, rfl, _, hg, hnc, hcm, hcs, htk⟩
    · exact .inl hnil
    · refine .inr ?_
      rcases hown.2 with ⟨rfl, rfl⟩ | ⟨g', cap', cur', rfl, _, hg', hnc', hcm', hcs', htk'⟩
      · simp [Value.ownBlock] at he
      · obtain rfl : g = g' := by simpa [Value.ownBlock] using he
        rw [hg] at hg'
        obtain rfl : cur2 = cur' := by simpa using hg'
        obtain ⟨i, z, hi, hz, hsz, hby, hzs, hszp⟩ := rowInfo_ok hri
        have hone : ∀ y ∈ news, y.oneCell' = true := h7
        have hcell : ∀ j y, news[j]? = some y → w.cell? ((⟨b, off, none⟩ : Addr).add j) = some y := by
          intro k y hk
          have hlt : k < m * sz := by rw [← h5]; exact (List.getElem?_eq_some_iff.1 hk).1
          have h1 : k / sz < m := Nat.div_lt_of_lt_mul (by rw [Nat.mul_comm]; exact hlt)
          have h2 : k % sz < sz := Nat.mod_lt _ hszp
          have h3 : k / sz * sz + k % sz = k := by rw [Nat.mul_comm]; exact Nat.div_add_mod k sz
          have q1 := h6 _ h1 _ h2
          have q2 := hc _ h1 _ h2
          rw [h3] at q1 q2
          rw [hk] at q1
          rw [addr_add, q2.1, ← q1]
        by_cases hroom : n + m ≤ cap'
        · subst hsz
          have hfit : n * i.size + news.length ≤ cur2.size := by rw [h5, hcs', ← Nat.add_mul]; exact Nat.mul_le_mul_right _ hroom
          have hr := run_append_room (P := P) w t ty el i ht hi g n cap' cur2 hg ⟨b, off, none⟩ m cap news h5 hcell hone hroom hfit
          rw [hr] at h1
          have hw : w' = w.setRow g (cur2.toList.take (n * i.size) ++ news ++ cur2.toList.drop (n * i.size + news.length)).toArray := by
            simp only [Result.ok.injEq] at h1; exact h1.2.symm
          subst hw
          have hle : nh * i.size ≤ n * i.size := Nat.mul_le_mul_right _ hn
          have hle2 : n * i.size ≤ cur2.toList.length := by rw [Array.length_toList]; omega
          refine ⟨g, cap2, _, rfl, Nat.zero_le _, setRow_heap w g cur2 _ el _ hg, hnc, hcm, ?_, ?_⟩
          · rw [← hcs]
            simp only [List.size_toArray, List.length_append, List.length_take, List.length_drop, Array.length_toList]
            omega
          · simp only [List.append_assoc]
            rw [List.take_append_of_le_length (by rw [List.length_take]; omega), List.take_take, Nat.min_eq_left hle]
            exact htk
        · subst hsz
          have holds : ∀ j u, xs[j]? = some u → w.cell? ((⟨g, 0, none⟩ : Addr).add j) = some u := hown.cells (g := g) rfl
          have hnm : n + m ≤ 140737488355328 := Nat.le_trans (Nat.le_mul_of_pos_right _ hbp) hb'
          subst hby
          have hr := run_append_grow (P := P) w t ty el i z ht hi hz ⟨g, 0, none⟩ n cap' xs hown.1 holds ⟨b, off, none⟩ m cap news h5 hcell (by omega) (by omega) (growslice_fits (by omega) hb')
          rw [hr] at h1
          have hw := h1
          simp only [Result.ok.injEq] at hw
          refine ⟨g, cap2, cur2, rfl, Nat.zero_le _, ?_, hnc, hcm, hcs, htk⟩
          rw [← hw.2]
          exact (heap_alloc_old w.drew _ (heap_lt hg)).trans hg
  · refine ownsRow_at hh fun g hg => h3.block g (hh.lt g hg).2 fun e => he (hg.trans e)
/-- A write to memory that nobody reads or writes now. -/
theorem Sat.limbo {B : Option Nat} {v' : Value} {t : Nat} (r : Root x0 x) (hs : Sat x s F a w) (ht : t < x.n) (hg : w.grownBy w' B) (hB : ∀ b, B = some b → x.F b ∧ (x0.w.heap.size ≤ b ∨ x0.X b)) (hv : ∀ b, v'.ownBlock = some b → b < w'.heap.size ∧ (B = some b ∨ b = w.heap.size)) :
    ∃ x1 F1, Root x0 x1 ∧ Sat x1 ⟨(t, .val v') :: s.e, s.h, s.nx⟩ F1 (a.put (some t) v') w' ∧ F1.W = F.W ∧ (∀ b, F1.F b → F.F b ∨ w.heap.size ≤ b) ∧ (∀ b, x.F b → x1.F b) ∧ (∀ b, v'.ownBlock = some b → x1.F b) := by
  have h0 := r.sat hs
  have hBF : ∀ b, B = some b → F.F b := fun b hb => hs.fold b (hB b hb).1
  let F1 : Cx := ⟨fun b => F.F b ∨ v'.ownBlock = some b, F.O, F.W⟩
  have hle : Cx.Le w F F1 := ⟨fun b hb => by
    rcases hb with hb | hb
    · exact .inl hb
    · rcases (hv b hb).2 with h | h
      · exact .inl (hBF b h)
      · exact .inr (by omega), fun _ _ h => h, fun _ _ h => h⟩
  have hblk : ∀ b, w.grownBy w' B → b < w.heap.size → B ≠ some b → w'.heap[b]? = w.heap[b]? := fun b hg hb hne => hg.block b hb fun e => hne e.symm
  have hout : Out F w w' := ⟨hg.size, fun b hb hn => hblk b hg hb fun e => hn (hBF b e)⟩
  have hout1 : Out F1 w w' := ⟨hg.size, fun b hb hn => hout.block b hb fun h => hn (.inl h)⟩
  have hnB : ∀ k ob g, Hget s.h k = some ob → F.blk k ob = some g → B ≠ some g := fun k ob g hk hgk e => hs.own3 k ob g hk hgk (hB g e).1
  have hnb : ∀ b, v'.ownBlock = some b → ¬ Blk F s.h b := fun b hb ⟨k, ob, hk, hgk⟩ => by
    rcases (hv b hb).2 with h | h
    · exact hnB k ob b hk hgk h
    · have := blk_lt hs hk hgk; omega
  have hx : ∀ b, x.F b → F1.F b ∧ ¬ Blk F s.h b := fun b hb => ⟨.inl (hs.fold b hb), fun ⟨k, ob, hk, hgk⟩ => hs.own3 k ob b hk hgk hb⟩
  have hsat : Sat ⟨x.J, w', fun b => F1.F b ∧ ¬ Blk F s.h b, x.n, Blk F s.h, F1⟩ s F1 a w' := by
    refine ⟨Ev.refl _ _, fun t v hv => ⟨(hs.env t v hv).1, (((hs.env t v hv).2.le hle).out hout1)⟩, hs.df, hs.sz, fun b hb => hb.1, fun b hb => ?_, hs.nx, fun k ob hk => ?_, fun k ob g hk hg => .inr ⟨k, ob, hk, hg⟩, fun k ob g hk hg hF => hF.2 ⟨k, ob, hk, hg⟩, hs.sep, hs.wsl, Cx.Le.refl _ _, ?_⟩
    · rcases hb with hb | hb
      · exact Nat.lt_of_lt_of_le (hs.flt b hb) hg.size
      · exact (hv b hb).1
    · exact (hs.own k ob hk).keep hout hle (fun b hb => .inl hb) fun g hgk => hblk g hg (blk_lt hs hk hgk) (hnB k ob g hk hgk)
    · exact x.J.out hs.inv hg.size (fun b hb hn => hout.block b hb hn) hle.le1
  refine ⟨⟨x.J, w', fun b => F1.F b ∧ ¬ Blk F s.h b, x.n, Blk F s.h, F1⟩, F1, ⟨r.j, r.n, ?_, fun b ⟨k, ob, hk, hgk⟩ => h0.own2 k ob b hk hgk, fun b hb => hx b (r.F b hb), ?_⟩, hsat.put (d := some t) (fun k hk => by obtain rfl := Option.some.inj hk; exact ht) (.val v'), rfl, hle.le1, hx, fun b hb => ⟨.inr hb, hnb b hb⟩⟩
  · refine ⟨hg.os.trans h0.ev.os, hg.tape.trans h0.ev.tape, hg.output.trans h0.ev.output, Nat.le_trans h0.ev.size hg.size, fun b hb hX => (hblk b hg (Nat.lt_of_lt_of_le hb h0.ev.size) fun e => ?_).trans (h0.ev.block b hb hX)⟩
    rcases (hB b e).2 with h | h
    · omega
    · exact hX h
  · exact h0.le.trans hle h0.ev.size
/-- Memory that nobody writes any more may be read. -/
theorem Sat.drop (r : Root x0 x) (hs : Sat x s F a w) (D : Nat → Prop) (hD : ∀ b, D b → ¬ Blk F s.h b ∧ ¬ x0.F b) :
    ∃ x1 F1, Root x0 x1 ∧ Sat x1 s F1 a w ∧ F1.W = F.W ∧ (∀ b, F1.F b ↔ F.F b ∧ ¬ D b) ∧ (∀ b, x.F b → ¬ D b → x1.F b) := by
  have h0 := r.sat hs
  let F1 : Cx := ⟨fun b => F.F b ∧ ¬ D b, F.O, F.W⟩
  have hle : Cx.Le w F F1 := ⟨fun b hb => .inl hb.1, fun _ _ h => h, fun _ _ h => h⟩
  have hne : ∀ k ob g, Hget s.h k = some ob → F.blk k ob = some g → F1.F g := fun k ob g hk hg => ⟨blk_F hs hk hg, fun h => (hD g h).1 ⟨k, ob, hk, hg⟩⟩
  have hx : ∀ b, x.F b → ¬ D b → F1.F b ∧ ¬ Blk F s.h b := fun b hb hd => ⟨⟨hs.fold b hb, hd⟩, fun ⟨k, ob, hk, hgk⟩ => hs.own3 k ob b hk hgk hb⟩
  refine ⟨⟨x.J, w, fun b => F1.F b ∧ ¬ Blk F s.h b, x.n, Blk F s.h, F1⟩, F1, ⟨r.j, r.n, h0.ev, fun b ⟨k, ob, hk, hgk⟩ => h0.own2 k ob b hk hgk, fun b hb => hx b (r.F b hb) fun hd => (hD b hd).2 hb, h0.le.trans hle h0.ev.size⟩, ?_, rfl, fun b => Iff.rfl, hx⟩
  refine ⟨Ev.refl _ _, fun t v ht => ⟨(hs.env t v ht).1, (hs.env t v ht).2.le hle⟩, hs.df, hs.sz, fun b hb => hb.1, fun b hb => hs.flt b hb.1, hs.nx, fun k ob hk => ?_, fun k ob g hk hg => .inr ⟨k, ob, hk, hg⟩, fun k ob g hk hg hF => hF.2 ⟨k, ob, hk, hg⟩, hs.sep, hs.wsl, Cx.Le.refl _ _, x.J.out hs.inv (Nat.le_refl _) (fun _ _ _ => rfl) fun b hb => .inl hb.1⟩
  have hok := hs.own k ob hk
  have hn := hne k ob
  cases ob with
  | box ty v =>
    obtain ⟨b, cs, u, q1, q2, q3, q4, q5, q6⟩ := hok
    exact ⟨b, cs, u, q1, q2, q3, q4, fun j hj => (q5 j hj).le hle, hn b hk q1⟩
  | row ty v =>
    obtain ⟨z', sz', n', c', u', xs', q1, q2, q3, q4, q5, q6, q7⟩ := hok
    exact ⟨z', sz', n', c', u', xs', q1, q2, q3, q4, fun i hi j hj => (q5 i hi j hj).le hle, q6, fun g hg => hn g hk (by simp [Cx.blk, q1, hg])⟩
end
end Go.Proofs.Ytelaolingpbnfaa
