/- Results that stand in a variable. -/
import Derived.Test.YtbjfhnbgiajnjaaDoorWgc5
namespace Go.Proofs.YtbjfhnbgiajnjaaDoor
open Go.RowKit
set_option linter.unusedSimpArgs false
def retW (v : V) (s : S) (res : V) (K : S → Prop) : Prop :=
  match res.cl with
  | true => obs (fz s.h v).2 (Veq (fz s.h v).1 res ∧ K { s with h := HdelK s.h (rts v) })
  | false => v = res ∧ K s
/-- What stands in the result's variable. -/
def cellR (P : Program) (s : S) (t : Nat) (ty : TypeId) : Option (V × List Prop) :=
  match s.e.get t with
  | some (.op k j) => vload P s.h ty (.op k j)
  | _ => none
def RetC (P : Program) (rs : List ResultVar) (res : V) (K : S → Prop) (s : S) : Prop :=
  match rs with
  | [.cell t ty] => match cellR P s t ty with
    | some (v, l) => obs l (retW v s res K)
    | none => False
  | [.cell t ty, .tmp u] => match res with
    | .tu [r1, r2] => match cellR P s t ty with
      | some (v, l) => obs l (retW v s r1 fun s' => retOne s' u r2 K)
      | none => False
    | _ => False
  | rs => RetK rs res K s
section
variable {P : Program} {G : Sig}
theorem retW_ok {x : Fx} {F : Cx} {w : World} {a : Act} {s : S} {v res : V} {y : Value} {K : S → Prop} (h : retW v s res K) (hs : Sat x s F a w) (hr : Rep w F v y) :
    ∃ s' G, Sat x s' G a w ∧ K s' ∧ Rep w G res y ∧ ∀ v y, Rep w F v y → Rep w G v y := by
  unfold retW at h
  split at h
  · rw [obs_iff] at h
    obtain ⟨hl, hq, hK⟩ := h
    exact ⟨_, _, hs.less (rts v), hK, veq_rep hq (fz_ok hs hr hl fun k hk => hk), fun v y h => h.le (less_le F s.h _ w)⟩
  · obtain ⟨rfl, hK⟩ := h
    exact ⟨s, F, hs, hK, hr, fun _ _ h => h⟩
theorem cellR_ok {x : Fx} {F : Cx} {w : World} {a : Act} {s : S} {t : Nat} {ty : TypeId} {v : V} {l : List Prop} (h : cellR P s t ty = some (v, l)) (hl : AllP l) (hs : Sat x s F a w) :
    ∃ b j z, a.tmps.getD t undef = .pointer (some ⟨b, j, none⟩) ∧ (loadVar ty ⟨b, j, none⟩).run P w = .ok z w ∧ Rep w F v z := by
  unfold cellR at h
  split at h
  · rename_i k j hk
    have hp := (hs.env t _ hk).2
    obtain ⟨b, hO, hb⟩ := rep_op hp
    obtain ⟨z, hz, hr⟩ := vload_ok (P := P) (rw := true) (js := []) hs.own h hl (ldOk_all _ _ _) hp
    have := hr w (Kp.of_ext hs.own (Ext.refl w))
    rw [hb] at this
    refine ⟨b, j, z, hb, ?_, hz⟩
    simpa [Instr.loadAt, Instr.sureAddr] using this
  · cases h
theorem RetC_ok {x : Fx} {F : Cx} {w : World} {a : Act} {s : S} {fn : Func} {res : V} {K : S → Prop} (h : RetC P fn.results.toList res K s) (hs : Sat x s F a w) :
    ∃ s' G v, Sat x s' G a w ∧ K s' ∧ (results fn a.tmps).run P w = .ok v w ∧ Rep w G res v := by
  have hres : ∀ (l : List ResultVar), fn.results.toList = l → fn.results = l.toArray := fun l hl => by rw [← hl]
  unfold RetC at h
  split at h
  · rename_i t ty hr
    have hrr := hres _ hr
    split at h
    · rename_i v l hv
      rw [obs_iff] at h
      obtain ⟨b, j, z, hb, hz, hrep⟩ := cellR_ok hv h.1 hs
      obtain ⟨s', G', hs', hB, hv', _⟩ := retW_ok h.2 hs hrep
      refine ⟨s', G', z, hs', hB, ?_, hv'⟩
      rw [Array.getD_eq_getD_getElem?] at hb
      simp [results, hrr, hb, asAddr, hz]
    · exact h.elim
  · rename_i t ty u hr
    have hrr := hres _ hr
    split at h
    · rename_i r1 r2
      split at h
      · rename_i v l hv
        rw [obs_iff] at h
        obtain ⟨b, j, z, hb, hz, hrep⟩ := cellR_ok hv h.1 hs
        obtain ⟨s1, G1, hs1, hK, hv1, hm1⟩ := retW_ok h.2 hs hrep
        obtain ⟨s2, G2, hs2, hK2, hv2, hm2⟩ := retOne_ok hK hs1
        refine ⟨s2, G2, .tuple #[z, a.tmps.getD u undef], hs2, hK2, ?_, .tu _ _ (fun j => if j = 0 then z else a.tmps.getD u undef) rfl (fun j hj => ?_) (fun j hj => ?_)⟩
        · rw [Array.getD_eq_getD_getElem?] at hb
          simp [results, hrr, hb, asAddr, hz]
        · have : j = 0 ∨ j = 1 := by simp at hj; omega
          rcases this with rfl | rfl <;> rfl
        · have : j = 0 ∨ j = 1 := by simp at hj; omega
          rcases this with rfl | rfl
          · exact hm2 _ _ hv1
          · exact hv2
      · exact h.elim
    · exact h.elim
  · exact RetK_ok h hs
theorem fnH_introR {f : FuncId} {fn : Func} {c : Code} {args : List V} {pre post : List (Nat × Ob)} {nx nx' : Nat} {res : V} (R : S → Prop) (hR : ∀ (x : Fx) (s : S) (F : Cx) (a : Act) (w : World), R s → Sat x s F a w → ∃ s' G v, Sat x s' G a w ∧ Back post nx' s' ∧ (results fn a.tmps).run P w = .ok v w ∧ Rep w G res v) (hf : P.funcs[f]? = some fn) (hb : fn.body = some c) (hname : (fn.name == "runtime.NumGoroutine") = false) (hn : args.length ≤ fn.ntmps)
    (ho : okC fn.ntmps c = true) (hm : P.follows .mixedOrders = true) (hG : SigOk P G) (hGb : G.b = nx)
    (h : vg P G c ⟨enOf 0 args, pre, nx⟩ ⟨RenC G.b R, RenC G.b R, []⟩) : FnH P G.J f args pre nx res post nx' := by
  refine ⟨⟨fn, hf, by simp [hb], hname⟩, fun w F vs hM hlen hvs => ?_⟩
  refine calls_of_wp hf hb ?_
  have fin : ∀ (s : S) (F' : Cx) (a : Act) (w' : World), RenC G.b R s → Sat ⟨G.J, w, fun b => F.F b ∧ ¬ Blk F pre b, fn.ntmps, Blk F pre, F⟩ s F' a w' →
      a.defers = [] ∧ ∃ v, (results fn a.tmps).run P w' = .ok v w' ∧ ∃ v' G1, Ending.returned v = .returned v' ∧ Ev (Blk F pre) w w' ∧ Cx.Le w F G1 ∧ (∀ b, F.F b → ¬ Blk F pre b → G1.F b) ∧ Mem G.J post nx' G1 w' ∧ (∀ k ob g, Hget post k = some ob → G1.blk k ob = some g → Blk F pre g ∨ w.heap.size ≤ g) ∧ Rep w' G1 res v' := fun s F' a w' h hs => by
    obtain ⟨s, F', hs, h⟩ : ∃ s F', Sat ⟨G.J, w, fun b => F.F b ∧ ¬ Blk F pre b, fn.ntmps, Blk F pre, F⟩ s F' a w' ∧ R s := by
      rcases h with h | ⟨σ, t, h1, h2⟩
      · exact ⟨s, F', hs, h⟩
      · obtain ⟨F2, hs2⟩ := hs.ren (fun k hk => hM.nx k (by omega)) h1
        exact ⟨t, F2, hs2, h2⟩
    obtain ⟨s', G', v, hs', hB, hrun, hv⟩ := hR _ _ _ _ _ h hs
    refine ⟨hs.df, v, hrun, v, G', rfl, hs'.ev, hs'.le, fun b h1 h2 => hs'.fold b ⟨h1, h2⟩, ⟨hs'.flt, fun k hk => hs'.nx k (Nat.le_trans hB.2 hk), fun m o ho => hs'.own m o (subH_get hB.1 m o ho), fun m m' o o' g ho ho' => hs'.sep m m' o o' g (subH_get hB.1 m o ho) (subH_get hB.1 m' o' ho'), hs'.wsl, hs'.inv⟩, fun k ob g hk hg => (hs'.own2 k ob g (subH_get hB.1 k ob hk) hg).symm, hv⟩
  refine vg_ok (x := ⟨G.J, w, fun b => F.F b ∧ ¬ Blk F pre b, fn.ntmps, Blk F pre, F⟩) hG rfl (fun k hk => hM.nx k (by omega)) hm c _ _ _ F _ w ho h ⟨fun s F' a w' h hs => ?_, fun s F' a w' h hs => ?_, fun id k hk => by simp [exGet] at hk⟩ ?_
  · exact fin s F' a w' h hs
  · exact fin s F' a w' h hs
  · refine ⟨Ev.refl _ w, fun t v ht => ?_, rfl, by simp; omega, fun b hb => hb.1, hM.flt, hM.nx, hM.own, fun k ob g hk hg => .inr ⟨k, ob, hk, hg⟩, fun k ob g hk hg hF => hF.2 ⟨k, ob, hk, hg⟩, hM.sep, hM.wsl, Cx.Le.refl w _, hM.inv⟩
    obtain ⟨_, h1⟩ := enOf_get args 0 t v ht
    simp only [Nat.sub_zero] at h1
    have hlt : t < args.length := (List.getElem?_eq_some_iff.1 h1).1
    have hlt' : t < vs.length := by omega
    refine ⟨by simp; omega, ?_⟩
    have hg : vs[t]? = some vs[t] := List.getElem?_eq_getElem hlt'
    have := hvs t v _ h1 hg
    simpa [Array.getD_eq_getD_getElem?, Array.getElem?_append, hlt'] using this
theorem fnH_introC {f : FuncId} {fn : Func} {c : Code} {args : List V} {pre post : List (Nat × Ob)} {nx nx' : Nat} {res : V} (hf : P.funcs[f]? = some fn) (hb : fn.body = some c) (hname : (fn.name == "runtime.NumGoroutine") = false) (hn : args.length ≤ fn.ntmps)
    (ho : okC fn.ntmps c = true) (hm : P.follows .mixedOrders = true) (hG : SigOk P G) (hGb : G.b = nx)
    (h : vg P G c ⟨enOf 0 args, pre, nx⟩ ⟨RenC G.b (RetC P fn.results.toList res (Back post nx')), RenC G.b (RetC P fn.results.toList res (Back post nx')), []⟩) : FnH P G.J f args pre nx res post nx' :=
  fnH_introR _ (fun _ _ _ _ _ h hs => RetC_ok h hs) hf hb hname hn ho hm hG hGb h
end
section
variable {P : Program} {G : Sig}
/-- A result that is to be one's own may be nil. -/
theorem fnH_introN {f : FuncId} {fn : Func} {c : Code} {args : List V} {pre post : List (Nat × Ob)} {nx nx' : Nat} {res : V} (hf : P.funcs[f]? = some fn) (hb : fn.body = some c) (hname : (fn.name == "runtime.NumGoroutine") = false) (hn : args.length ≤ fn.ntmps)
    (ho : okC fn.ntmps c = true) (hm : P.follows .mixedOrders = true) (hG : SigOk P G) (hGb : G.b = nx)
    (h : vg P G c ⟨enOf 0 args, pre, nx⟩ ⟨RenC G.b (fun s => ∃ ad t, AdSub ad s t ∧ RetH fn.results.toList res post nx' t), RenC G.b (fun s => ∃ ad t, AdSub ad s t ∧ RetH fn.results.toList res post nx' t), []⟩) : FnH P G.J f args pre nx res post nx' := by
  refine fnH_introR (fun s => ∃ ad t, AdSub ad s t ∧ RetH fn.results.toList res post nx' t) (fun x s F a w h hs => ?_) hf hb hname hn ho hm hG hGb h
  obtain ⟨ad, t, h1, h2⟩ := h
  obtain ⟨G1, hs1⟩ := hs.adsub h1
  exact RetK_ok h2 hs1
end
end Go.Proofs.YtbjfhnbgiajnjaaDoor
