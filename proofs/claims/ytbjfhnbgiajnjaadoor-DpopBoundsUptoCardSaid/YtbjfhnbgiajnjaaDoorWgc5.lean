/- A function's contract out of the conditions of its code. -/
import Derived.Test.YtbjfhnbgiajnjaaDoorWgc4
namespace Go.Proofs.YtbjfhnbgiajnjaaDoor
open Go.RowKit

/-- Is it the same? (A nil slice is an empty one.) -/
def Veq (v res : V) : Prop :=
  match v with
  | .val x => match isNil x with
    | true => match res.elems with
      | some (_, n, _) => n = 0
      | none => v = res
    | false => v = res
  | v => v = res
/-- One result: a slice of one's own stays so if the result is to be one. -/
def retOne (s : S) (t : Nat) (res : V) (K : S → Prop) : Prop :=
  match ug (s.e.get t) with
  | some (v, l) => match res.cl with
    | true => obs (l ++ (fz s.h v).2) (Veq (fz s.h v).1 res ∧ K { s with h := HdelK s.h (rts v) })
    | false => obs l (v = res ∧ K s)
  | none => False
def retL (K : S → Prop) : List ResultVar → List V → S → Prop
  | [], [], s => K s
  | .tmp t :: r, v :: vs, s => retOne s t v (retL K r vs)
  | _, _, _ => False
def RetK (rs : List ResultVar) (res : V) (K : S → Prop) (s : S) : Prop :=
  match rs with
  | [.tmp t] => retOne s t res K
  | rs => match res with
    | .tu l => l.length ≤ 7 ∧ retL K rs l s
    | _ => False
def RetP (rs : List ResultVar) (res : V) (s : S) : Prop := RetK rs res (fun _ => True) s
def Back (post : List (Nat × Ob)) (nx : Nat) (s : S) : Prop := subH s.h post ∧ s.nx ≤ nx
def RetH (rs : List ResultVar) (res : V) (post : List (Nat × Ob)) (nx : Nat) (s : S) : Prop := RetK rs res (Back post nx) s
def enOf : Nat → List V → En
  | _, [] => []
  | i, v :: r => (i, v) :: enOf (i + 1) r

section
variable {P : Program} {G : Sig}
theorem enOf_get : ∀ (l : List V) (i k : Nat) (v : V), (enOf i l).get k = some v → i ≤ k ∧ l[k - i]? = some v := by
  intro l
  induction l with
  | nil => intro i k v h; simp [enOf, En.get] at h
  | cons u r ih =>
    intro i k v h
    simp only [enOf, En.get] at h
    split at h
    · rename_i he; subst he; exact ⟨Nat.le_refl _, by simpa using h⟩
    · rename_i he
      obtain ⟨h1, h2⟩ := ih (i + 1) k v h
      refine ⟨by omega, ?_⟩
      rw [show k - i = (k - (i + 1)) + 1 from by omega]
      simpa using h2
theorem veq_rep {w : World} {F : Cx} {v res : V} {y : Value} (h : Veq v res) (hv : Rep w F v y) : Rep w F res y := by
  unfold Veq at h
  split at h
  · split at h
    · rename_i hn
      split at h
      · rename_i sz n c he
        subst h
        obtain rfl := rep_val hv
        rw [isNil_ok hn]
        exact .sl res sz 0 c none 0 0 0 (fun _ _ => undef) he (Nat.le_refl _) (fun h => by omega) (fun i hi => by omega) (fun i hi => by omega)
      · subst h; exact hv
    · subst h; exact hv
  · subst h; exact hv
theorem retOne_ok {x : Fx} {F : Cx} {w : World} {a : Act} {s : S} {t : Nat} {res : V} {K : S → Prop} (h : retOne s t res K) (hs : Sat x s F a w) :
    ∃ s' G, Sat x s' G a w ∧ K s' ∧ Rep w G res (a.tmps.getD t undef) ∧ ∀ v y, Rep w F v y → Rep w G v y := by
  unfold retOne at h
  split at h
  · rename_i v l hv
    split at h
    · rw [obs_iff] at h
      obtain ⟨hl, hq, hK⟩ := h
      obtain ⟨hl1, hl2⟩ := allP_app hl
      have hr := ug_ok hv hl1 fun v hv => (hs.env t v hv).2
      exact ⟨_, _, hs.less (rts v), hK, veq_rep hq (fz_ok hs hr hl2 fun k hk => hk), fun v y h => h.le (less_le F s.h _ w)⟩
    · rw [obs_iff] at h
      obtain ⟨hl, rfl, hK⟩ := h
      have hr := ug_ok hv hl fun v hv => (hs.env t v hv).2
      exact ⟨s, F, hs, hK, hr, fun _ _ h => h⟩
  · exact h.elim
theorem retL_ok {x : Fx} {w : World} {a : Act} {K : S → Prop} : ∀ {rs : List ResultVar} {l : List V} {s : S} {F : Cx}, retL K rs l s → Sat x s F a w →
    ∃ (s' : S) (G : Cx) (ts : List Nat), rs = ts.map ResultVar.tmp ∧ Sat x s' G a w ∧ K s' ∧ ts.length = l.length ∧ (∀ j, j < l.length → Rep w G (l.getD j .any) (a.tmps.getD (ts.getD j 0) undef)) ∧ ∀ v y, Rep w F v y → Rep w G v y
  | [], [], s, F, h, hs => ⟨s, F, [], rfl, hs, h, rfl, fun j hj => by simp at hj, fun _ _ h => h⟩
  | .tmp t :: r, v :: vs, s, F, h, hs => by
    simp only [retL] at h
    obtain ⟨s1, G1, hs1, hK, hv, hm⟩ := retOne_ok h hs
    obtain ⟨s2, G2, ts, e1, hs2, hK2, e2, hr, hm2⟩ := retL_ok hK hs1
    refine ⟨s2, G2, t :: ts, by rw [e1]; rfl, hs2, hK2, by simp [e2], fun j hj => ?_, fun v y h => hm2 _ _ (hm _ _ h)⟩
    cases j with
    | zero => simpa using hm2 _ _ hv
    | succ j => simpa using hr j (by simpa using hj)
  | [], v :: vs, s, F, h, hs => by simp [retL] at h
  | .tmp t :: r, [], s, F, h, hs => by simp [retL] at h
theorem run_results {fn : Func} {ts : List Nat} (h : fn.results.toList = ts.map ResultVar.tmp) (hn : ts.length ≠ 1) (h7 : ts.length ≤ 7) (tmps : Array Value) (w : World) :
    (results fn tmps).run P w = .ok (.tuple (ts.map fun t => tmps.getD t undef).toArray) w := by
  have h : fn.results = (ts.map ResultVar.tmp).toArray := by rw [← h]
  match ts with
  | [] => simp [results, h]
  | [_] => exact absurd rfl hn
  | [_, _] => simp [results, h]
  | [_, _, _] => simp [results, h]
  | [_, _, _, _] => simp [results, h]
  | [_, _, _, _, _] => simp [results, h]
  | [_, _, _, _, _, _] => simp [results, h]
  | [_, _, _, _, _, _, _] => simp [results, h]
  | _ :: _ :: _ :: _ :: _ :: _ :: _ :: _ :: _ => simp at h7
theorem RetK_ok {x : Fx} {F : Cx} {w : World} {a : Act} {s : S} {fn : Func} {res : V} {K : S → Prop} (h : RetK fn.results.toList res K s) (hs : Sat x s F a w) :
    ∃ s' G v, Sat x s' G a w ∧ K s' ∧ (results fn a.tmps).run P w = .ok v w ∧ Rep w G res v := by
  have hres : ∀ (l : List ResultVar), fn.results.toList = l → fn.results = l.toArray := fun l hl => by rw [← hl]
  unfold RetK at h
  split at h
  · rename_i t hr
    have hrr := hres _ hr
    obtain ⟨s', G', hs', hB, hv, _⟩ := retOne_ok h hs
    exact ⟨s', G', _, hs', hB, results_tmp hrr _ _ _, hv⟩
  · rename_i hne
    split at h
    · rename_i l
      obtain ⟨s', G, ts, e1, hs', hK, e2, hr, _⟩ := retL_ok h.2 hs
      refine ⟨s', G, _, hs', hK, run_results e1 (fun e => ?_) (by rw [e2]; exact h.1) _ _, .tu l _ (fun j => a.tmps.getD (ts.getD j 0) undef) (by simp [e2]) (fun j hj => ?_) hr⟩
      · obtain ⟨t, rfl⟩ := List.length_eq_one_iff.1 e
        exact hne t e1
      · have : j < ts.length := by omega
        simp [List.getD_eq_getElem?_getD, this]
    · exact h.elim
theorem fn_intro {f : FuncId} {fn : Func} {c : Code} {args : List V} {res : V} (hf : P.funcs[f]? = some fn) (hb : fn.body = some c) (hname : (fn.name == "runtime.NumGoroutine") = false) (hn : args.length ≤ fn.ntmps)
    (ho : okC fn.ntmps c = true) (hm : P.follows .mixedOrders = true) (hc : res.cl = true) (hG : SigOk P G)
    (h : vg P G c ⟨enOf 0 args, [], 0⟩ ⟨RetP fn.results.toList res, RetP fn.results.toList res, []⟩) : Fn P G.J f false args res := by
  refine ⟨⟨fn, hf, by simp [hb], hname⟩, fun w F vs hI hF hlen hvs => ?_⟩
  refine calls_of_wp hf hb ?_
  have fin : ∀ (s : S) (F' : Cx) (a : Act) (w' : World), RetP fn.results.toList res s → Sat ⟨G.J, w, F, fn.ntmps, fun _ => False, .bare F⟩ s F' a w' → a.defers = [] ∧ ∃ v, (results fn a.tmps).run P w' = .ok v w' ∧ ∃ v', Ending.returned v = .returned v' ∧ Ext w w' ∧ Rep w' (.bare fun b => F b ∨ (false = true ∧ b < w.heap.size)) res v' := fun s F' a w' h hs => by
    obtain ⟨s', G', v, hs', _, hrun, hv⟩ := RetK_ok (P := P) h hs
    have hext : Ext w w' := ⟨hs.ev.os, hs.ev.tape, hs.ev.output, hs.ev.size, fun b hb => hs.ev.block b hb (fun h => h)⟩
    refine ⟨hs.df, v, hrun, v, rfl, hext, (hv.bare hc).of_bare fun b hb => .inl (hs'.fold b ?_)⟩
    rcases hb with hb | ⟨hb, _⟩
    · exact hb
    · cases hb
  refine vg_ok (x := ⟨G.J, w, F, fn.ntmps, fun _ => False, .bare F⟩) hG rfl (fun _ _ => ⟨rfl, rfl⟩) hm c _ _ _ (Cx.bare F) _ w ho h ⟨fun s F' a w' h hs => ?_, fun s F' a w' h hs => ?_, fun id k hk => by simp [exGet] at hk⟩ ?_
  · exact fin s F' a w' h hs
  · exact fin s F' a w' h hs
  · refine ⟨Ev.refl _ w, fun t v ht => ?_, rfl, by simp; omega, fun b hb => hb, hF, fun k _ => ⟨rfl, rfl⟩, fun k ob hk => ?_, fun k ob g hk => ?_, fun k ob g hk => ?_, fun k k' ob ob' g hk => ?_, fun k y hk => by simp [Cx.bare] at hk, Cx.Le.refl w _, hI⟩
    · obtain ⟨_, h1⟩ := enOf_get args 0 t v ht
      simp only [Nat.sub_zero] at h1
      have hlt : t < args.length := (List.getElem?_eq_some_iff.1 h1).1
      have hlt' : t < vs.length := by omega
      refine ⟨by simp; omega, ?_⟩
      have hg : vs[t]? = some vs[t] := List.getElem?_eq_getElem hlt'
      have := hvs t v _ h1 hg
      simpa [Array.getD_eq_getD_getElem?, Array.getElem?_append, hlt'] using this
    all_goals
      cases k <;> simp [Hget, Hroot, Hchild] at hk
theorem fnH_intro {f : FuncId} {fn : Func} {c : Code} {args : List V} {pre post : List (Nat × Ob)} {nx nx' : Nat} {res : V} (hf : P.funcs[f]? = some fn) (hb : fn.body = some c) (hname : (fn.name == "runtime.NumGoroutine") = false) (hn : args.length ≤ fn.ntmps)
    (ho : okC fn.ntmps c = true) (hm : P.follows .mixedOrders = true) (hG : SigOk P G) (hGb : G.b = nx)
    (h : vg P G c ⟨enOf 0 args, pre, nx⟩ ⟨RenC G.b (RetH fn.results.toList res post nx'), RenC G.b (RetH fn.results.toList res post nx'), []⟩) : FnH P G.J f args pre nx res post nx' := by
  refine ⟨⟨fn, hf, by simp [hb], hname⟩, fun w F vs hM hlen hvs => ?_⟩
  refine calls_of_wp hf hb ?_
  have fin : ∀ (s : S) (F' : Cx) (a : Act) (w' : World), RenC G.b (RetH fn.results.toList res post nx') s → Sat ⟨G.J, w, fun b => F.F b ∧ ¬ Blk F pre b, fn.ntmps, Blk F pre, F⟩ s F' a w' →
      a.defers = [] ∧ ∃ v, (results fn a.tmps).run P w' = .ok v w' ∧ ∃ v' G1, Ending.returned v = .returned v' ∧ Ev (Blk F pre) w w' ∧ Cx.Le w F G1 ∧ (∀ b, F.F b → ¬ Blk F pre b → G1.F b) ∧ Mem G.J post nx' G1 w' ∧ (∀ k ob g, Hget post k = some ob → G1.blk k ob = some g → Blk F pre g ∨ w.heap.size ≤ g) ∧ Rep w' G1 res v' := fun s F' a w' h hs => by
    obtain ⟨s, F', hs, h⟩ : ∃ s F', Sat ⟨G.J, w, fun b => F.F b ∧ ¬ Blk F pre b, fn.ntmps, Blk F pre, F⟩ s F' a w' ∧ RetH fn.results.toList res post nx' s := by
      rcases h with h | ⟨σ, t, h1, h2⟩
      · exact ⟨s, F', hs, h⟩
      · obtain ⟨F2, hs2⟩ := hs.ren (fun k hk => hM.nx k (by omega)) h1
        exact ⟨t, F2, hs2, h2⟩
    obtain ⟨s', G', v, hs', hB, hrun, hv⟩ := RetK_ok (P := P) h hs
    refine ⟨hs.df, v, hrun, v, G', rfl, hs'.ev, hs'.le, fun b h1 h2 => hs'.fold b ⟨h1, h2⟩, ⟨hs'.flt, fun k hk => hs'.nx k (Nat.le_trans hB.2 hk), fun m o ho => hs'.own m o (subH_get hB.1 m o ho), fun m m' o o' g ho ho' => hs'.sep m m' o o' g (subH_get hB.1 m o ho) (subH_get hB.1 m' o' ho'), hs'.wsl, hs'.inv⟩, fun k ob g hk hg => (hs'.own2 k ob g (subH_get hB.1 k ob hk) hg).symm, hv⟩
  refine vg_ok (x := ⟨G.J, w, fun b => F.F b ∧ ¬ Blk F pre b, fn.ntmps, Blk F pre, F⟩) hG rfl (fun k hk => hM.nx k (by omega)) hm c _ _ _ F _ w ho h ⟨fun s F' a w' h hs => ?_, fun s F' a w' h hs => ?_, fun id k hk => by simp [exGet] at hk⟩ ?_
  · exact fin s F' a w' h hs
  · exact fin s F' a w' h hs
  · refine ⟨Ev.refl _ w, fun t v ht => ?_, rfl, by simp; omega, fun b hb => hb.1, hM.flt, hM.nx, hM.own, fun k ob g hk hg => .inr ⟨k, ob, hk, hg⟩, fun k ob g hk hg hF => hF.2 ⟨k, ob, hk, hg⟩, hM.sep, hM.wsl, Cx.Le.refl w _, hM.inv⟩
    obtain ⟨_, h1⟩ := enOf_get args 0 t v ht
    simp only [Nat.sub_zero] at h1
    have hlt : t < args.length := (List.getElem?_eq_some_iff.1 h1).1
    have hlt' : t < vs.length := by omega
    refine ⟨by simp; omega, ?_⟩
    have hg : vs[t]? = some vs[t] := List.getElem?_eq_getElem hlt'
    have := hvs t v _ h1 hg
    simpa [Array.getD_eq_getD_getElem?, Array.getElem?_append, hlt'] using this
end
end Go.Proofs.YtbjfhnbgiajnjaaDoor
