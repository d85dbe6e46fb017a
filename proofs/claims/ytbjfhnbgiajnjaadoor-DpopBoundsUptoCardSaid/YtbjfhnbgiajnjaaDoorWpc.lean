/- A walk that is put together by hand out of pieces that the generator walks. -/
import Derived.Test.YtbjfhnbgiajnjaaDoorWad
namespace Go.Proofs.YtbjfhnbgiajnjaaDoor
open Go.RowKit
section
variable {P : Program} {x x0 x1 : Fx} {F : Cx} {w w' : World} {a : Act} {s : S}
/-- x' stands within x: what x' allows, x allows. -/
structure Root (x x' : Fx) : Prop where
  j : x'.J = x.J
  n : x'.n = x.n
  ev : Ev x.X x.w x'.w
  X : ∀ b, x'.X b → x.w.heap.size ≤ b ∨ x.X b
  F : ∀ b, x.F b → x'.F b
  le : Cx.Le x.w x.C x'.C
theorem Root.refl (x : Fx) : Root x x := ⟨rfl, rfl, Ev.refl _ _, fun _ h => .inr h, fun _ h => h, Cx.Le.refl _ _⟩
theorem Root.evs {X : Nat → Prop} {w2 : World} (r : Root x x1) (hX : ∀ b, X b → x1.w.heap.size ≤ b ∨ x1.X b) (h : Ev X x1.w w2) : Ev x.X x.w w2 :=
  ⟨h.os.trans r.ev.os, h.tape.trans r.ev.tape, h.output.trans r.ev.output, Nat.le_trans r.ev.size h.size, fun b hb hx => (h.block b (Nat.lt_of_lt_of_le hb r.ev.size) fun hx' => by
    rcases hX b hx' with h | h
    · have := r.ev.size; omega
    · rcases r.X b h with h | h
      · omega
      · exact hx h).trans (r.ev.block b hb hx)⟩
theorem Root.sat (r : Root x x1) (h : Sat x1 s F a w) : Sat x s F a w where
  ev := r.evs (fun _ h => .inr h) h.ev
  env := h.env
  df := h.df
  sz := h.sz.trans r.n
  fold := fun b hb => h.fold b (r.F b hb)
  flt := h.flt
  nx := h.nx
  own := h.own
  own2 := fun k ob g hk hg => by
    rcases h.own2 k ob g hk hg with h | h
    · exact .inl (Nat.le_trans r.ev.size h)
    · exact r.X g h
  own3 := fun k ob g hk hg hx => h.own3 k ob g hk hg (r.F g hx)
  sep := h.sep
  wsl := h.wsl
  le := r.le.trans h.le r.ev.size
  inv := r.j ▸ h.inv
/-- From here on: what is one's own here may be written, no more. -/
def Fx.at (x : Fx) (h : List (Nat × Ob)) (F : Cx) (w : World) : Fx := ⟨x.J, w, fun b => F.F b ∧ ¬ Blk F h b, x.n, Blk F h, F⟩
theorem Sat.root (r : Root x0 x) (hs : Sat x s F a w) : Root x0 (x.at s.h F w) ∧ Sat (x.at s.h F w) s F a w := by
  have h0 := r.sat hs
  refine ⟨⟨r.j, r.n, h0.ev, fun b ⟨k, ob, hk, hb⟩ => h0.own2 k ob b hk hb, fun b hb => ⟨h0.fold b hb, fun ⟨k, ob, hk, hg⟩ => h0.own3 k ob b hk hg hb⟩, h0.le⟩, ?_⟩
  exact ⟨Ev.refl _ _, hs.env, hs.df, hs.sz, fun b hb => hb.1, hs.flt, hs.nx, hs.own, fun k ob g hk hg => .inr ⟨k, ob, hk, hg⟩, fun k ob g hk hg hF => hF.2 ⟨k, ob, hk, hg⟩, hs.sep, hs.wsl, Cx.Le.refl _ _, hs.inv⟩
/-- A walk's piece, by the generator: what is not one's own there is as it was. -/
theorem piece {G : Sig} {c : Code} {K : Ko} {Q : Exit → Act → World → Prop} (r : Root x0 x) (hs : Sat x s F a w) (hG : SigOk P G) (hJ : x.J = G.J) (hb : G.b = s.nx) (hm : P.follows .mixedOrders = true) (ho : okC x.n c = true) (hv : vg P G c s K)
    (hK : ∀ x1, Root x0 x1 → x1.J = x.J → x1.n = x.n → x1.w = w → x1.X = Blk F s.h → x1.C = F → (∀ b, F.F b → ¬ Blk F s.h b → x1.F b) → KOk x1 K Q) : c.wp P Q a w := by
  obtain ⟨r1, h1⟩ := hs.root r
  exact vg_ok (x := x.at s.h F w) hG hJ (fun m hm' => hs.nx m (by omega)) hm c s K Q F a w ho hv (hK _ r1 rfl rfl rfl rfl rfl fun b h2 h3 => ⟨h2, h3⟩) h1
abbrev fx0 (J : Inv) (w : World) (F : Cx) (pre : List (Nat × Ob)) (n : Nat) : Fx := ⟨J, w, fun b => F.F b ∧ ¬ Blk F pre b, n, Blk F pre, F⟩
/-- A contract of a function whose walk is put together by hand. -/
theorem fnH_wp {J : Inv} {f : FuncId} {fn : Func} {c : Code} {args : List V} {pre post : List (Nat × Ob)} {nx nx' : Nat} {res : V} (hf : P.funcs[f]? = some fn) (hb : fn.body = some c) (hname : (fn.name == "runtime.NumGoroutine") = false) (hn : args.length ≤ fn.ntmps)
    (h : ∀ (w : World) (F : Cx) (a : Act) (Q : Exit → Act → World → Prop), Mem J pre nx F w → Sat (fx0 J w F pre fn.ntmps) ⟨enOf 0 args, pre, nx⟩ F a w → KOk (fx0 J w F pre fn.ntmps) ⟨RetH fn.results.toList res post nx', RetH fn.results.toList res post nx', []⟩ Q → c.wp P Q a w) : FnH P J f args pre nx res post nx' := by
  refine ⟨⟨fn, hf, by simp [hb], hname⟩, fun w F vs hM hlen hvs => ?_⟩
  refine calls_of_wp hf hb ?_
  have fin : ∀ (s : S) (F' : Cx) (a : Act) (w' : World), RetH fn.results.toList res post nx' s → Sat (fx0 J w F pre fn.ntmps) s F' a w' →
      a.defers = [] ∧ ∃ v, (results fn a.tmps).run P w' = .ok v w' ∧ ∃ v' G1, Ending.returned v = .returned v' ∧ Ev (Blk F pre) w w' ∧ Cx.Le w F G1 ∧ (∀ b, F.F b → ¬ Blk F pre b → G1.F b) ∧ Mem J post nx' G1 w' ∧ (∀ k ob g, Hget post k = some ob → G1.blk k ob = some g → Blk F pre g ∨ w.heap.size ≤ g) ∧ Rep w' G1 res v' := fun s F' a w' h hs => by
    obtain ⟨s', G', v, hs', hB, hrun, hv⟩ := RetK_ok (P := P) h hs
    refine ⟨hs.df, v, hrun, v, G', rfl, hs'.ev, hs'.le, fun b h1 h2 => hs'.fold b ⟨h1, h2⟩, ⟨hs'.flt, fun k hk => hs'.nx k (Nat.le_trans hB.2 hk), fun m o ho => hs'.own m o (subH_get hB.1 m o ho), fun m m' o o' g ho ho' => hs'.sep m m' o o' g (subH_get hB.1 m o ho) (subH_get hB.1 m' o' ho'), hs'.wsl, hs'.inv⟩, fun k ob g hk hg => (hs'.own2 k ob g (subH_get hB.1 k ob hk) hg).symm, hv⟩
  refine h w F _ _ hM ?_ ⟨fun s F' a w' h hs => fin s F' a w' h hs, fun s F' a w' h hs => fin s F' a w' h hs, fun id k hk => by simp [exGet] at hk⟩
  refine ⟨Ev.refl _ w, fun t v ht => ?_, rfl, by simp; omega, fun b hb => hb.1, hM.flt, hM.nx, hM.own, fun k ob g hk hg => .inr ⟨k, ob, hk, hg⟩, fun k ob g hk hg hF => hF.2 ⟨k, ob, hk, hg⟩, hM.sep, hM.wsl, Cx.Le.refl w _, hM.inv⟩
  obtain ⟨_, h1⟩ := enOf_get args 0 t v ht
  simp only [Nat.sub_zero] at h1
  have hlt : t < args.length := (List.getElem?_eq_some_iff.1 h1).1
  have hlt' : t < vs.length := by omega
  refine ⟨by simp; omega, ?_⟩
  have hg : vs[t]? = some vs[t] := List.getElem?_eq_getElem hlt'
  have := hvs t v _ h1 hg
  simpa [Array.getD_eq_getD_getElem?, Array.getElem?_append, hlt'] using this
/-- What follows, whatever the memory. -/
def Nxt (x : Fx) (R : Cx → Act → World → Prop) : S → Prop := fun s => ∀ F a w, Sat x s F a w → R F a w
theorem dsts_of {n : Nat} {l : List Oper} (h : (l.all fun o => match o.dst with | some d => decide (d < n) | none => true) = true) : dstsOk n l := by
  intro o hoo d hd
  have := List.all_eq_true.1 h o hoo
  rw [hd] at this
  simpa using this
theorem Sat.slot (hs : Sat x s F a w) {t : Nat} {v v' : V} (ht : s.e.get t = some v) (hr : ∀ y, Rep w F v y → Rep w F v' y) : Sat x ⟨(t, v') :: s.e, s.h, s.nx⟩ F a w := by
  refine ⟨hs.ev, fun t' u hu => ?_, hs.df, hs.sz, hs.fold, hs.flt, hs.nx, hs.own, hs.own2, hs.own3, hs.sep, hs.wsl, hs.le, hs.inv⟩
  simp only [En.get] at hu
  split at hu
  · rename_i e; subst e
    obtain rfl := Option.some.inj hu
    obtain ⟨h1, h2⟩ := hs.env _ _ ht
    exact ⟨h1, hr _ h2⟩
  · exact hs.env _ _ hu
/-- A statement by the generator, then the rest by hand. -/
theorem wp_pc {G : Sig} {c d : Code} {R Kr : S → Prop} {ex : List (Nat × (S → Prop))} {Q : Exit → Act → World → Prop} (hG : SigOk P G) (hJ : x.J = G.J) (hb : ∀ m : Nm, G.b ≤ m.root → x.C.O m = none ∧ x.C.W m = none) (hm : P.follows .mixedOrders = true) (ho : okC x.n c = true)
    (hv : vg P G c s ⟨R, Kr, ex⟩) (hs : Sat x s F a w) (hR : ∀ s F a w, R s → Sat x s F a w → d.wp P Q a w) (hKr : ∀ s F a w, Kr s → Sat x s F a w → Q .ret a w) (hex : ∀ id k, exGet ex id = some k → ∀ s F a w, k s → Sat x s F a w → Q (.exit id) a w) : (Code.seq c d).wp P Q a w :=
  wp_seq (vg_ok hG hJ hb hm c s _ _ F a w ho hv ⟨hR, hKr, hex⟩ hs)
/-- An operation on two values, by hand. -/
theorem wp_bin {w1 : World} {o : Oper} {op : BinOp} {T U : TypeId} {X Y : Operand} {y : Value} {K : Act → World → Prop} {Q : Exit → Act → World → Prop} (hop : o.op = .binOp op T X Y U) (hg : (eqGuard op T X Y (a.eval X) (a.eval Y)).run P w1 = .ok () w1) (hrun : (binOp op T (a.eval X) (a.eval Y)).run P w1 = .ok y w1) (h : K (a.put o.dst y) w1) : o.wp P a w1 K Q := by
  unfold Oper.wp execOp
  simp only [hop, Sem.run_bind, Sem.run_pure, hg, Result.andThen_ok, hrun]
  exact h
end
end Go.Proofs.YtbjfhnbgiajnjaaDoor
