/- Contracts of functions, and calls. Generator: cells copied into a row of one's own. -/
import Derived.Test.YtmpklnhmempmgaaGreatDoorQ09
import Derived.Laws.IdiomCopy
namespace Go.Proofs.YtmpklnhmempmgaaGreatDoor
open Go.RowKit

mutual
/-- Does it speak of no memory of one's own? -/
def V.cl : V → Bool
  | .val _ => true
  | .bb _ => true
  | .str _ => true
  | .gd _ v => v.cl
  | .by _ => true
  | .sq _ _ l => clL l
  | .st l => clL l
  | .tu l => clL l
  | .pe s _ _ => s.cl
  | .op _ _ => false
  | .ro _ => false
  | .vw _ _ _ _ => false
  | .rp _ _ _ _ => false
  | .own _ _ _ => false
  | .any => true
  | .nn => true
def clL : List V → Bool
  | [] => true
  | v :: r => v.cl && clL r
end
theorem clL_all : ∀ (l : List V), clL l = l.all V.cl
  | [] => rfl
  | v :: r => by rw [clL, clL_all r]; rfl
mutual
/-- Does it lead to no memory that is read-only? -/
def V.sc : V → Bool
  | .val _ => true
  | .bb _ => true
  | .str _ => true
  | .gd _ v => v.sc
  | .st l => scL l
  | .tu l => scL l
  | .op _ _ => true
  | .ro _ => true
  | .vw _ _ _ _ => true
  | .rp _ _ _ _ => true
  | .own _ s _ => match s with
    | .by _ => true
    | _ => false
  | .any => true
  | .nn => true
  | _ => false
def scL : List V → Bool
  | [] => true
  | v :: r => v.sc && scL r
end
theorem scL_all : ∀ (l : List V), scL l = l.all V.sc
  | [] => rfl
  | v :: r => by rw [scL, scL_all r]; rfl
def scO : Ob → Bool
  | .box _ v => v.sc
  | .row _ s => match s with
    | .by _ => true
    | .sq _ _ l => scL l
    | _ => false
def scH : List (Nat × Ob) → Bool
  | [] => true
  | (_, o) :: r => scO o && scH r
/-- The value, if there is just one. -/
def V.ex0 : V → Option Value
  | .val x => some x
  | .bb b => some (.bool b)
  | .str l => some (.string ⟨l.toArray⟩)
  | _ => none
def exL : List V → Option (List Value)
  | [] => some []
  | v :: r => match v.ex0, exL r with
    | some x, some xs => some (x :: xs)
    | _, _ => none
def V.exact (v : V) : Option Value :=
  match v with
  | .tu l => match exL l with
    | some xs => some (.tuple xs.toArray)
    | none => none
  | v => v.ex0
def Cx.bare (F : Nat → Prop) : Cx := ⟨F, fun _ => none, fun _ => none⟩

/-- The function has a text of its own. -/
def Bodied (P : Program) (f : FuncId) : Prop := ∃ fn, P.funcs[f]? = some fn ∧ fn.body.isNone = false ∧ (fn.name == "runtime.NumGoroutine") = false
/-- A contract: called with values that read as 'args' it returns one that reads as 'res' (fr: and leads to new memory alone), and only makes new memory. -/
def Fn (P : Program) (J : Inv) (f : FuncId) (fr : Bool) (args : List V) (res : V) : Prop :=
  Bodied P f ∧ ∀ (w : World) (F : Nat → Prop) (vs : List Value), J.I w F → (∀ b, F b → b < w.heap.size) → vs.length = args.length → (∀ (i : Nat) (v : V) (x : Value), args[i]? = some v → vs[i]? = some x → Rep w (.bare F) v x) →
    Calls P f vs.toArray w fun e w' => ∃ v, e = .returned v ∧ Ext w w' ∧ Rep w' (.bare fun b => F b ∨ (fr = true ∧ b < w.heap.size)) res v
/-- The blocks of what is handed over. -/
def Blk (F : Cx) (h : List (Nat × Ob)) (g : Nat) : Prop := ∃ k ob, Hget h k = some ob ∧ F.blk k ob = some g
structure Mem (J : Inv) (h : List (Nat × Ob)) (nx : Nat) (F : Cx) (w : World) : Prop where
  flt : ∀ b, F.F b → b < w.heap.size
  nx : ∀ m : Nm, nx ≤ m.root → F.O m = none ∧ F.W m = none
  own : HOk w F h
  sep : ∀ k k' ob ob' g, Hget h k = some ob → Hget h k' = some ob' → F.blk k ob = some g → F.blk k' ob' = some g → k = k'
  wsl : ∀ k y, F.W k = some y → ∃ A n c, y = .slice A n c
  inv : J.I w F.F
/-- A contract with memory handed over: h (numbers below nx) comes back as h' (below nx'). -/
def FnH (P : Program) (J : Inv) (f : FuncId) (args : List V) (h : List (Nat × Ob)) (nx : Nat) (res : V) (h' : List (Nat × Ob)) (nx' : Nat) : Prop :=
  Bodied P f ∧ ∀ (w : World) (F : Cx) (vs : List Value), Mem J h nx F w → vs.length = args.length → (∀ (i : Nat) (v : V) (x : Value), args[i]? = some v → vs[i]? = some x → Rep w F v x) →
    Calls P f vs.toArray w fun e w' => ∃ v G, e = .returned v ∧ Ev (Blk F h) w w' ∧ Cx.Le w F G ∧ (∀ b, F.F b → ¬ Blk F h b → G.F b) ∧ Mem J h' nx' G w' ∧
      (∀ k ob g, Hget h' k = some ob → G.blk k ob = some g → Blk F h g ∨ w.heap.size ≤ g) ∧ Rep w' G res v
/-- A call with memory handed over: what must hold, which arguments are lent, what is handed over, the result, what comes back. -/
structure CallH where
  l : List Prop
  bw : List Bool
  pre : List (Nat × Ob)
  res : V
  post : List (Nat × Ob)
  nx : Nat
def fzA (h : List (Nat × Ob)) : List V → List V × List Prop
  | [] => ([], [])
  | v :: r => ((fz h v).1 :: (fzA h r).1, (fz h v).2 ++ (fzA h r).2)
/-- The arguments: those that are lent as they read. -/
def mixA (h : List (Nat × Ob)) : List Bool → List V → List V × List Prop
  | true :: b, v :: r => ((fz h v).1 :: (mixA h b r).1, (fz h v).2 ++ (mixA h b r).2)
  | false :: b, v :: r => (v :: (mixA h b r).1, (mixA h b r).2)
  | [], r => (r, [])
  | _, [] => ([], [])
def mixK : List Bool → List V → List Nat
  | true :: b, v :: r => rts v ++ mixK b r
  | false :: b, _ :: r => mixK b r
  | _, _ => []
/-- Contracts by a function's number and its arguments: what must hold, and the result. -/
structure Sig where
  J : Inv
  df : TypeId → V
  f : FuncId → List V → Option (List Prop × Bool × V)
  h : FuncId → List V → List (Nat × Ob) → Nat → Option CallH
  b : Nat := 0
def SigOk (P : Program) (G : Sig) : Prop := (∀ f args l fr r, G.f f args = some (l, fr, r) → AllP l → Fn P G.J f fr args r) ∧
  ∀ f args h nx c, G.h f args h nx = some c → AllP c.l → FnH P G.J f (mixA h c.bw args).1 c.pre nx c.res c.post c.nx
def noH : FuncId → List V → List (Nat × Ob) → Nat → Option CallH := fun _ _ _ _ => none
theorem SigOk.plain {P : Program} {J : Inv} {df : TypeId → V} {b : Nat} {g : FuncId → List V → Option (List Prop × Bool × V)} (h : ∀ f args l fr r, g f args = some (l, fr, r) → AllP l → Fn P J f fr args r) : SigOk P ⟨J, df, g, noH, b⟩ := ⟨h, fun _ _ _ _ _ h => by cases h⟩
def subH (h : List (Nat × Ob)) : List (Nat × Ob) → Prop
  | [] => True
  | (k, v) :: r => Hroot h k = some v ∧ subH h r
def keysH : List (Nat × Ob) → List Nat
  | [] => []
  | (k, _) :: r => k :: keysH r

def ninL : List Nat → Nat → Prop
  | [], _ => True
  | a :: r, k => a ≠ k ∧ ninL r k
theorem ninL_ok : ∀ {l : List Nat} {k : Nat}, ninL l k → k ∉ l
  | [], _, _, h => by simp at h
  | a :: r, k, h, hm => by
    rcases List.mem_cons.1 hm with rfl | hm
    · exact h.1 rfl
    · exact ninL_ok h.2 hm
def uargs (gl : Gl) (e : En) : List Operand → (List V → R) → R
  | [], f => f []
  | x :: r, f => u1 (e.ev gl x) fun v => uargs gl e r fun vs => f (v :: vs)
/-- A call: the result, what must hold, what is lent, whether it may be lent. -/
def vcall (G : Sig) (h : List (Nat × Ob)) (f : FuncId) (vs : List V) : Option (V × List Prop × List Nat × Bool) :=
  match clL (fzA h vs).1 with
  | true => match G.f f (fzA h vs).1 with
    | some (l, fr, r) => match r.cl with
      | true => some (r, (fzA h vs).2 ++ l, vs.flatMap rts, fr || r.sc || (vs.flatMap rts).isEmpty)
      | false => none
    | none => none
  | false => none
def vq (P : Program) (G : Sig) (s : S) : Op → R
  | .call c => match c.callee with
    | .value (.func f) => uargs G.J.gl s.e c.args.toList fun vs => match vcall G s.h f vs with
      | some (r, l, _, true) => some (r, l)
      | _ => none
    | _ => vop P G.J.gl s.e s.h (.call c)
  | o => vop P G.J.gl s.e s.h o
def addL (l : List Prop) : Option (List Prop × S) → Option (List Prop × S)
  | some (l', s) => some (l ++ l', s)
  | none => none
/-- What speaks of what is given out of hand, as it reads. -/
def frz1 (h : List (Nat × Ob)) (ks : List Nat) (v : V) : V :=
  match rts v with
  | [] => v
  | k :: r => match (k :: r).all (memN ks) with
    | true => match (fz h v).2 with
      | [] => (fz h v).1
      | _ :: _ => v
    | false => v
def frzE (h : List (Nat × Ob)) (ks : List Nat) : En → En
  | [] => []
  | (t, v) :: r => (t, frz1 h ks v) :: frzE h ks r
def vcallF (G : Sig) (s : S) (d : Option Nat) (f : FuncId) (args : List Operand) : Option (List Prop × S) :=
  match uls G.J.gl s.e args with
  | some (vs, l) => match vcall G s.h f vs with
    | some (r, l2, ks, ok) => match ok with
      | true => some (l ++ l2, { s with e := s.e.put d r })
      | false => if noBox s.h ks = true then some (l ++ l2, ⟨En.put (frzE s.h ks s.e) d r, HdelK s.h ks, s.nx⟩) else none
    | none => none
  | none => none
def rowsH : List (Nat × Ob) → Bool
  | [] => true
  | (_, .row _ _) :: r => rowsH r
  | (_, .box _ _) :: _ => false
def seqN : Nat → List Nat → Bool
  | _, [] => true
  | i, a :: r => a == i && seqN (i + 1) r
theorem seqN_ok : ∀ {js : List Nat} {i j : Nat}, seqN i js = true → i ≤ j → j < i + js.length → js.contains j = true
  | [], i, j, _, h1, h2 => by simp at h2; omega
  | a :: r, i, j, h, h1, h2 => by
    simp only [seqN, Bool.and_eq_true] at h
    have ha : a = i := by simpa using h.1
    simp only [List.contains_cons, Bool.or_eq_true, beq_iff_eq]
    by_cases e : j = a
    · exact .inl e
    · exact .inr (seqN_ok h.2 (by omega) (by simp at h2; omega))
def sameBox (post : List (Nat × Ob)) (k : Nat) (ty : TypeId) (n : Nat) : Bool := match Hroot post k with
  | some (.box ty' v) => ty' == ty && v.csize == n
  | _ => false
/-- Variables that are handed over come back as variables of the same size; n: what is written to lies below. -/
def boxJs (n : Nat) (post : List (Nat × Ob)) : List (Nat × Ob) → Bool
  | [] => true
  | (_, .row _ _) :: r => boxJs n post r
  | (k, .box ty v) :: r => decide (v.csize ≤ n) && sameBox post k ty v.csize && boxJs n post r
theorem boxJs_ok {n : Nat} {post : List (Nat × Ob)} : ∀ {pre : List (Nat × Ob)} {k : Nat} {ty : TypeId} {v : V}, boxJs n post pre = true → Hroot pre k = some (.box ty v) → v.csize ≤ n ∧ ∃ v', Hroot post k = some (.box ty v') ∧ v'.csize = v.csize
  | [], _, _, _, _, h => by cases h
  | (k', .row ty' s) :: r, k, ty, v, h, hk => by
    simp only [Hroot] at hk
    split at hk
    · cases hk
    · exact boxJs_ok (pre := r) (by simpa only [boxJs] using h) hk
  | (k', .box ty' v') :: r, k, ty, v, h, hk => by
    simp only [boxJs, Bool.and_eq_true] at h
    simp only [Hroot] at hk
    split at hk
    · rename_i e; subst e
      obtain ⟨rfl, rfl⟩ : ty' = ty ∧ v' = v := by simpa using hk
      refine ⟨by simpa using h.1.1, ?_⟩
      have h2 := h.1.2
      unfold sameBox at h2
      split at h2
      · rename_i t2 v2 e2
        simp only [Bool.and_eq_true] at h2
        obtain rfl : t2 = ty' := by simpa using h2.1
        exact ⟨v2, e2, by simpa using h2.2⟩
      · cases h2
    · exact boxJs_ok (pre := r) h.2 hk
/-- Where the order is open, slices of one's own may be handed over; variables, if all their cells are among the offsets. -/
def jsOk (js : Option (List Nat)) (pre post : List (Nat × Ob)) : Bool := match js with
  | none => true
  | some l => rowsH pre || (seqN 0 l && boxJs l.length post pre)
def jsCo (js : Option (List Nat)) (nx : Nat) (pre post : List (Nat × Ob)) : List Prop := match js with
  | none => []
  | some _ => (keysH post).map fun k => nx ≤ k ∨ (keysH pre).contains k = true
def vcallH (js : Option (List Nat)) (G : Sig) (s : S) (d : Option Nat) (f : FuncId) (args : List Operand) : Option (List Prop × S) :=
  match uls G.J.gl s.e args with
    | some (vs, l) => match G.h f vs s.h s.nx with
      | some c => if ((mixK c.bw vs).isEmpty || (c.res.sc && scH c.post)) = true ∧ jsOk js c.pre c.post = true then
          some (l ++ (mixA s.h c.bw vs).2 ++ c.l ++ (subH s.h c.pre :: (mixK c.bw vs).map (ninL (keysH c.pre))) ++ jsCo js s.nx c.pre c.post, ⟨s.e.put d c.res, c.post ++ HdelK s.h (keysH c.pre), c.nx⟩)
          else none
      | none => none
    | none => none
/-- A call with memory handed over that comes back as it was, perhaps not carried out. -/
def vgcH (G : Sig) (g : Option (Option Bool)) (s : S) (d : Option Nat) (f : FuncId) (args : List Operand) : Option (Bool × List Prop × S) :=
  match g with
  | some (some b) => match uls G.J.gl s.e args with
    | some (vs, l) => match G.h f vs s.h s.nx with
      | some c => match c.bw with
        | [] => if c.nx = s.nx then some (b, l ++ c.l ++ [subH s.h c.pre, c.post = c.pre], ⟨s.e.put d (.gd b c.res), s.h, s.nx⟩) else none
        | _ :: _ => none
      | none => none
    | none => none
  | _ => none

section
variable {P : Program} {G : Sig} {x : Fx} {F : Cx} {w w' : World} {a : Act} {s : S}
/-- What speaks of no memory of one's own says the same without it. -/
theorem Rep.bare {v : V} {y : Value} (h : Rep w F v y) : v.cl = true → Rep w (.bare F.F) v y := by
  induction h with
  | val x => exact fun _ => .val x
  | bb b => exact fun _ => .bb b
  | str l => exact fun _ => .str l
  | any x => exact fun _ => .any x
  | nn t x => exact fun _ => .nn t x
  | gd g v x _ hu ih => exact fun hc => .gd g v x (fun hg => ih hg hc) hu
  | sl s sz n c A cap b off u he hcap hA hc _ ih =>
    refine fun hcl => .sl s sz n c A cap b off u he hcap hA hc fun i hi j hj => ih i hi j hj ?_
    have hcl : s.cl = true := hcl
    cases s with
    | «by» l =>
      simp only [V.elems, Option.some.injEq, Prod.mk.injEq] at he
      obtain ⟨_, _, rfl⟩ := he
      rfl
    | sq sz' d l =>
      simp only [V.elems] at he
      split at he
      · cases he
      · simp only [Option.some.injEq, Prod.mk.injEq] at he
        obtain ⟨_, rfl, rfl⟩ := he
        simp only [V.cl, clL_all] at hcl
        have h1 : (l.getD i d).cl = true := List.all_eq_true.1 hcl _ (by simp [List.getD_eq_getElem?_getD, hi])
        show ((l.getD i d).cell j).cl = true
        generalize l.getD i d = v at h1
        cases v with
        | st q =>
          simp only [V.cl, clL_all] at h1
          show (q.getD j .any).cl = true
          by_cases hq : j < q.length
          · exact List.all_eq_true.1 h1 _ (by simp [List.getD_eq_getElem?_getD, hq])
          · rw [List.getD_eq_getElem?_getD, List.getElem?_eq_none (by omega)]; rfl
        | _ => exact h1
    | _ => simp [V.elems] at he
  | pe s sz n c i j b off u he hi hb hF hc _ ih =>
    refine fun hcl => .pe s sz n c i j b off u he hi hb hF hc fun i hi j hj => ih i hi j hj ?_
    have hcl : s.cl = true := hcl
    cases s with
    | «by» l =>
      simp only [V.elems, Option.some.injEq, Prod.mk.injEq] at he
      obtain ⟨_, _, rfl⟩ := he
      rfl
    | sq sz' d l =>
      simp only [V.elems] at he
      split at he
      · cases he
      · simp only [Option.some.injEq, Prod.mk.injEq] at he
        obtain ⟨_, rfl, rfl⟩ := he
        simp only [V.cl, clL_all] at hcl
        have h1 : (l.getD i d).cl = true := List.all_eq_true.1 hcl _ (by simp [List.getD_eq_getElem?_getD, hi])
        show ((l.getD i d).cell j).cl = true
        generalize l.getD i d = v at h1
        cases v with
        | st q =>
          simp only [V.cl, clL_all] at h1
          show (q.getD j .any).cl = true
          by_cases hq : j < q.length
          · exact List.all_eq_true.1 h1 _ (by simp [List.getD_eq_getElem?_getD, hq])
          · rw [List.getD_eq_getElem?_getD, List.getElem?_eq_none (by omega)]; rfl
        | _ => exact h1
    | _ => simp [V.elems] at he
  | op k j b hk => exact fun hc => by simp [V.cl] at hc
  | ro k x hk => exact fun hc => by simp [V.cl] at hc
  | vw m sz a n N cap A B hk hn => exact fun hc => by simp [V.cl] at hc
  | rp k sz i j g n cap hk => exact fun hc => by simp [V.cl] at hc
  | st l cs u hs hc _ ih =>
    refine fun hcl => .st l cs u hs hc fun j hj => ih j hj ?_
    simp only [V.cl, clL_all] at hcl
    exact List.all_eq_true.1 hcl _ (by simp [List.getD_eq_getElem?_getD, hj])
  | tu l cs u hs hc _ ih =>
    refine fun hcl => .tu l cs u hs hc fun j hj => ih j hj ?_
    simp only [V.cl, clL_all] at hcl
    exact List.all_eq_true.1 hcl _ (by simp [List.getD_eq_getElem?_getD, hj])
theorem Rep.of_bare {F0 : Nat → Prop} {v : V} {y : Value} (h : Rep w (.bare F0) v y) (hF : ∀ b, F.F b → F0 b ∨ w.heap.size ≤ b) : Rep w F v y :=
  h.le ⟨hF, fun k b hk => by simp [Cx.bare] at hk, fun k b hk => by simp [Cx.bare] at hk⟩
/-- What leads to no read-only memory is so whatever memory is. -/
theorem Rep.free {v : V} {y : Value} {G : Cx} (h : Rep w F v y) (hO : ∀ m b, F.O m = some b → G.O m = some b) (hW : ∀ m b, F.W m = some b → G.W m = some b) : v.sc = true → Rep w' G v y := by
  induction h with
  | val x => exact fun _ => .val x
  | bb b => exact fun _ => .bb b
  | str l => exact fun _ => .str l
  | any x => exact fun _ => .any x
  | nn t x => exact fun _ => .nn t x
  | gd g v x _ hu ih => exact fun hc => .gd g v x (fun hg => ih hg hc) hu
  | sl s _ _ _ _ _ _ _ _ he _ _ _ _ _ =>
    intro hc
    cases s <;> simp only [V.elems, reduceCtorEq] at he <;> simp [V.sc] at hc
  | pe s _ _ _ _ _ _ _ _ he _ _ _ _ _ _ => intro hc; simp [V.sc] at hc
  | op k j b hk => exact fun _ => .op k j b (hO _ _ hk)
  | ro k x hk => exact fun _ => .ro k x (hW _ _ hk)
  | vw m sz a n N cap A B hk hn => exact fun _ => .vw m sz a n N cap A B (hW _ _ hk) hn
  | rp k sz i j g n cap hk => exact fun _ => .rp k sz i j g n cap (hW _ _ hk)
  | st l cs u hs hc _ ih =>
    refine fun hcl => .st l cs u hs hc fun j hj => ih j hj ?_
    simp only [V.sc, scL_all] at hcl
    exact List.all_eq_true.1 hcl _ (by simp [List.getD_eq_getElem?_getD, hj])
  | tu l cs u hs hc _ ih =>
    refine fun hcl => .tu l cs u hs hc fun j hj => ih j hj ?_
    simp only [V.sc, scL_all] at hcl
    exact List.all_eq_true.1 hcl _ (by simp [List.getD_eq_getElem?_getD, hj])

theorem uargs_ok {J : Inv} {e : En} {f : List V → R} {r : V} {l : List Prop} (he : EnvOk w F e a) (hi : J.I w F.F) : ∀ {ops : List Operand}, uargs J.gl e ops f = some (r, l) → AllP l →
    ∃ vs l', f vs = some (r, l') ∧ AllP l' ∧ vs.length = ops.length ∧ ∀ (i : Nat) (v : V) (y : Value), vs[i]? = some v → (ops.map a.eval)[i]? = some y → Rep w F v y := by
  intro ops
  induction ops generalizing f l with
  | nil => exact fun h hl => ⟨[], l, h, hl, rfl, fun i v y hv => by simp at hv⟩
  | cons o ops ih =>
    intro h hl
    obtain ⟨v, l1, h1, hl1, hv⟩ := u1_ok h hl (fun v hv => he.ev hi hv)
    obtain ⟨vs, l2, h2, hl2, hlen, hvs⟩ := ih h1 hl1
    refine ⟨v :: vs, l2, h2, hl2, by simp [hlen], fun i v' y hv' hy => ?_⟩
    cases i with
    | zero =>
      simp only [List.getElem?_cons_zero, Option.some.injEq, List.map_cons] at hv' hy
      subst hv' hy; exact hv
    | succ i => exact hvs i v' y (by simpa using hv') (by simpa using hy)
theorem fzA_ok (hs : Sat x s F a w) {ks : List Nat} : ∀ {vs : List V} {ys : List Value}, AllP (fzA s.h vs).2 → (∀ k, k ∈ vs.flatMap rts → k ∈ ks) → (∀ (i : Nat) (v : V) (y : Value), vs[i]? = some v → ys[i]? = some y → Rep w F v y) →
    (fzA s.h vs).1.length = vs.length ∧ ∀ (i : Nat) (v : V) (y : Value), (fzA s.h vs).1[i]? = some v → ys[i]? = some y → Rep w (F.less s.h ks) v y
  | [], ys, _, _, _ => ⟨rfl, fun i v y hv => by simp [fzA] at hv⟩
  | v :: r, ys, hl, hm, hvs => by
    simp only [fzA] at hl ⊢
    obtain ⟨hl1, hl2⟩ := allP_app hl
    simp only [List.flatMap_cons, List.mem_append] at hm
    cases ys with
    | nil =>
      refine ⟨?_, fun i v y _ hy => by simp at hy⟩
      have := (fzA_ok hs (ks := ks) (vs := r) (ys := []) hl2 (fun k hk => hm k (.inr hk)) (fun i v y _ hy => by simp at hy)).1
      simp [this]
    | cons y0 ys =>
      obtain ⟨q1, q2⟩ := fzA_ok hs (ks := ks) (vs := r) (ys := ys) hl2 (fun k hk => hm k (.inr hk)) (fun i v y hv hy => hvs (i + 1) v y (by simpa using hv) (by simpa using hy))
      refine ⟨by simp [q1], fun i u y hu hy => ?_⟩
      cases i with
      | zero =>
        simp only [List.getElem?_cons_zero, Option.some.injEq] at hu hy
        subst hu hy
        exact fz_ok hs (hvs 0 v y0 rfl rfl) hl1 (fun k hk => hm k (.inl hk))
      | succ i => exact q2 i u y (by simpa using hu) (by simpa using hy)
/-- A call of what is contracted for. -/
theorem vcall_ok (hG : SigOk P G) {f : FuncId} {vs : List V} {ys : List Value} {r : V} {l : List Prop} {ks : List Nat} {ok : Bool} (h : vcall G s.h f vs = some (r, l, ks, ok)) (hl : AllP l) (hJ : x.J = G.J) (hs : Sat x s F a w) (hx : Ext w w') (hlen : vs.length = ys.length)
    (hvs : ∀ (i : Nat) (v : V) (y : Value), vs[i]? = some v → ys[i]? = some y → Rep w F v y) :
    Bodied P f ∧ Calls P f ys.toArray w' fun e w'' => ∃ v, e = .returned v ∧ Ext w' w'' ∧ (ok = true → Rep w'' F r v) ∧ Rep w'' (F.less s.h ks) r v := by
  unfold vcall at h
  split at h
  · rename_i hcl
    split at h
    · rename_i l2 fr r2 hg
      split at h
      · rename_i hrc
        simp only [Option.some.injEq, Prod.mk.injEq] at h
        obtain ⟨rfl, rfl, rfl, rfl⟩ := h
        obtain ⟨hl1, hl2⟩ := allP_app hl
        obtain ⟨hb, hfn⟩ := hG.1 f _ _ _ _ hg hl2
        obtain ⟨q1, q2⟩ := fzA_ok hs (ks := vs.flatMap rts) hl1 (fun k hk => hk) hvs
        have hinv : G.J.I w' (F.less s.h (vs.flatMap rts)).F := by
          rw [← hJ]
          exact x.J.out hs.inv hx.size (fun b hb _ => hx.block b hb) fun b hb => .inl hb.1
        refine ⟨hb, (hfn w' (F.less s.h (vs.flatMap rts)).F ys hinv (fun b hb => Nat.lt_of_lt_of_le (hs.flt b hb.1) hx.size) (by rw [q1]; exact hlen.symm) (fun i v y hv hy => ?_)).mono fun e w'' ⟨v, he, hxx, hr⟩ => ⟨v, he, hxx, fun hok => ?_, ?_⟩⟩
        · refine ((q2 i v y hv hy).ext hx).bare ?_
          rw [clL_all] at hcl
          exact List.all_eq_true.1 hcl v (List.mem_of_getElem? hv)
        · simp only [Bool.or_eq_true, List.isEmpty_iff] at hok
          rcases hok with (hfr | hsc) | hem
          · exact hr.of_bare fun b hb => .inl (.inr ⟨hfr, Nat.lt_of_lt_of_le (hs.flt b hb) hx.size⟩)
          · exact hr.free (fun m b hb => by simp [Cx.bare] at hb) (fun m b hb => by simp [Cx.bare] at hb) hsc
          · refine hr.of_bare fun b hb => .inl (.inl ⟨hb, fun ⟨m, ob, hm, _⟩ => ?_⟩)
            rw [hem] at hm; simp at hm
        · exact hr.of_bare fun b hb => .inl (.inl hb)
      · cases h
    · cases h
  · cases h
theorem cvOk_all (v : V) : cvOk true v = true := by cases v <;> rfl
theorem ldq_all {gl : Gl} {o : Op} {e : En} {h0 : List (Nat × Ob)} {q : V × List Prop} (h : vop P gl e h0 o = some q) : ldq P gl true [] e o = true := by
  cases o <;> first | rfl | skip
  all_goals
    simp only [vop, u1] at h
    simp only [ldq]
    split <;> rename_i hev <;> rw [hev] at h
    · first | exact ldOk_all _ _ _ | exact cvOk_all _
    · first | exact ldOk_all _ _ _ | exact cvOk_all _
    · exact absurd h (by simp)
theorem vop_ext (hs : Sat x s F a w) {o : Oper} {r : V} {l : List Prop} (h : vop P x.J.gl s.e s.h o.op = some (r, l)) (hl : AllP l) : ∃ z, Rep w F r z ∧ ∀ w', Ext w w' → (execOp a.eval o).run P w' = .ok (.value z) w' := by
  obtain ⟨z, hz, hr⟩ := vop_ok hs.own h hl (ldq_all h) hs.env hs.inv
  exact ⟨z, hz, fun w' hx => hr w' (.of_ext hs.own hx)⟩
theorem run_enter {o : Oper} {c : Call} {f : FuncId} (hop : o.op = .call c) (hcal : c.callee = .value (.func f)) (hb : Bodied P f) (w' : World) : (execOp a.eval o).run P w' = .ok (.enter f (c.args.map a.eval)) w' := by
  obtain ⟨fn, hf, hbody, hname⟩ := hb
  simp only [execOp, hop, resolve, hcal, Act.eval, Deferred.ofValue, Sem.run_bind, Sem.run_pure, Result.andThen_ok, invoke, callFunc, run_program, hf, hname, hbody]
  simp
/-- One operation: it yields its value, in whatever world has only grown. -/
theorem vq_ok (hG : SigOk P G) {o : Oper} {r : V} {l : List Prop} (h : vq P G s o.op = some (r, l)) (hl : AllP l) (hJ : x.J = G.J) (hs : Sat x s F a w) :
    (∃ z, Rep w F r z ∧ ∀ w', Ext w w' → (execOp a.eval o).run P w' = .ok (.value z) w') ∨
    ((∃ c, o.op = .call c) ∧ ∃ f args, ∀ w', Ext w w' → (execOp a.eval o).run P w' = .ok (.enter f args) w' ∧ Calls P f args w' fun e w'' => ∃ v, e = .returned v ∧ Ext w' w'' ∧ Rep w'' F r v) := by
  unfold vq at h
  split at h
  · rename_i c hop
    split at h
    · rename_i f hcal
      right
      rw [← hJ] at h
      obtain ⟨vs, l', h, hl, hlen, hvs⟩ := uargs_ok hs.env hs.inv h hl
      split at h
      · rename_i r2 l2 ks hc
        obtain ⟨rfl, rfl⟩ := some_pair h
        refine ⟨⟨c, hop⟩, f, c.args.map a.eval, fun w' hx => ?_⟩
        obtain ⟨hb, hcalls⟩ := vcall_ok hG hc hl hJ hs hx (ys := c.args.toList.map a.eval) (by simp [hlen]) hvs
        refine ⟨run_enter hop hcal hb w', ?_⟩
        have e : (c.args.toList.map a.eval).toArray = c.args.map a.eval := by
          rw [← Array.toList_map]
        rw [e] at hcalls
        exact hcalls.mono fun e w'' ⟨v, he, hxx, hr, _⟩ => ⟨v, he, hxx, hr rfl⟩
      · cases h
    · rename_i hne
      left
      rw [← hJ] at h
      exact vop_ext hs (by rw [hop]; exact h) hl
  · left
    rw [← hJ] at h
    exact vop_ext hs h hl
end
set_option linter.unusedSimpArgs false
set_option maxRecDepth 100000
/-- The row that is written: from which cell on, and how much. -/
def cdst : V → Option (Nat × Nat × Option Nat)
  | .ro (.r k) => some (k, 0, none)
  | .vw (.r k) sz a n => if sz = 1 then some (k, a, some n) else none
  | _ => none
def cpN : Option Nat → Nat → Nat → Nat
  | none, L, m => Nat.min m L
  | some n, _, m => Nat.min m n
def cpV (c : V) (a : Nat) (m : Option Nat) (q : V) : Option (Nat × V) :=
  match c with
  | .sq sz dd l => match q with
    | .sq sz2 _ l2 => if sz = 1 ∧ sz2 = 1 then some (cpN m l.length l2.length, .sq 1 dd (setMany l a (l2.take (cpN m l.length l2.length)))) else none
    | _ => none
  | _ => none
def vcopy (P : Program) (s : S) (d : Option Nat) (t : TypeId) (p q : V) : Option (List Prop × S) :=
  match P.underlying t with
  | some (.slice el) => match rowInfo P el with
    | some (sz, _) => match cdst p with
      | some (k, a, m) => match Hroot s.h k with
        | some (.row ty c) => match cpV c a m q with
          | some (n, c') => if sz = 1 then some ([], ⟨s.e.put d (.i n), (k, .row ty c') :: s.h, s.nx⟩) else none
          | none => none
        | _ => none
      | none => none
    | none => none
  | _ => none
section
variable {P : Program} {x : Fx} {F : Cx} {w w' : World} {a : Act} {s : S}
theorem addr_at0 (g o i : Nat) : (⟨g, o, none⟩ : Addr).add i = ⟨g, o + i, none⟩ := by unfold Addr.add; split <;> simp_all
theorem Hget_congr {h h' : List (Nat × Ob)} (e : ∀ k, Hroot h' k = Hroot h k) (m : Nm) : Hget h' m = Hget h m := by cases m <;> simp only [Hget, e]
theorem Sat.heq (hs : Sat x s F a w) {h' : List (Nat × Ob)} (e : ∀ k, Hroot h' k = Hroot s.h k) : Sat x { s with h := h' } F a w := by
  have e := Hget_congr e
  exact ⟨hs.ev, hs.env, hs.df, hs.sz, hs.fold, hs.flt, hs.nx, fun m o hm => hs.own m o ((e m) ▸ hm), fun m o g h1 h2 => hs.own2 m o g ((e m) ▸ h1) h2, fun m o g h1 h2 => hs.own3 m o g ((e m) ▸ h1) h2, fun k1 k2 o1 o2 g h1 h2 e1 e2 => hs.sep k1 k2 o1 o2 g ((e k1) ▸ h1) ((e k2) ▸ h2) e1 e2, hs.wsl, hs.le, hs.inv⟩
theorem vcopy_ok (hs : Sat x s F a w) {d : Option Nat} {t t2 ty' : TypeId} {p q : V} {y z : Value} {l : List Prop} {s' : S} (h : vcopy P s d t p q = some (l, s')) (hd : ∀ k, d = some k → k < x.n) (hp : Rep w F p y) (hq : Rep w F q z) :
    ∃ r w', (Builtin.copy_ #[t, t2] ty' #[y, z]).run P w = .ok r w' ∧ Sat x s' F (a.put d r) w' ∧ ∀ js, Stp js s.h s'.h F F w w' := by
  unfold vcopy at h
  split at h
  rotate_left
  · cases h
  rename_i el ht
  split at h
  rotate_left
  · cases h
  rename_i sz bs hri
  obtain ⟨i, zz, hi, hz, hsz, hby, hzs, hszp⟩ := rowInfo_ok hri
  split at h
  rotate_left
  · cases h
  rename_i k a0 m hc
  split at h
  rotate_left
  · cases h
  rename_i ty c hk
  split at h
  rotate_left
  · cases h
  rename_i n c' hcp
  split at h
  rotate_left
  · cases h
  rename_i hs1
  subst hs1
  obtain ⟨rfl, rfl⟩ := some_pair h
  unfold cpV at hcp
  split at hcp
  rotate_left
  · cases hcp
  rename_i sz1 dd L
  split at hcp
  rotate_left
  · cases hcp
  rename_i sz2 d2 L2
  split at hcp
  rotate_left
  · cases hcp
  rename_i hcc
  obtain ⟨rfl, rfl⟩ := hcc
  obtain ⟨rfl, rfl⟩ : cpN m L.length L2.length = n ∧ V.sq 1 dd (setMany L a0 (L2.take (cpN m L.length L2.length))) = c' := by simpa using hcp
  have hkk : Hget s.h (.r k) = some (.row ty (.sq 1 dd L)) := hk
  obtain ⟨x1, szr, nr, cc, u, xs, hW, he, hown, hcs, hr, hone, hF⟩ := hs.own (.r k) _ hkk
  obtain ⟨rfl, rfl, rfl⟩ : 1 = szr ∧ L.length = nr ∧ (fun i => L.getD i dd) = cc := by simpa [V.elems] using he
  obtain ⟨A2, cap2, b2, off2, u2, rfl, hcap2, hA2, hcell2, hr2⟩ := rep_sl (x := .sq 1 d2 L2) (sz := 1) (n := L2.length) (c := fun i => L2.getD i d2) (by simp [V.elems]) hq
  have hsz1 : (P.info? el).map (·.size) = some 1 := by rw [hi]; simp [hsz]
  -- the destination's header
  obtain ⟨B, dLen, dCap, rfl, hdl, hB, hfit⟩ : ∃ B dLen dCap, y = .slice B dLen dCap ∧ Nat.min L2.length dLen = cpN m L.length L2.length ∧ (0 < dLen → ∃ g cap cur, x1 = .slice (some ⟨g, 0, none⟩) L.length cap ∧ B = some ⟨g, a0, none⟩ ∧ w.heap[g]? = some (.cells cur ty (0, 0)) ∧ L.length ≤ cap ∧ cap ≤ maxLen ∧ cur.size = cap ∧ cur.toList.take L.length = xs) ∧ a0 + cpN m L.length L2.length ≤ L.length := by
    obtain ⟨hxl, hv⟩ := hown
    unfold cdst at hc
    split at hc
    · obtain ⟨rfl, rfl, rfl⟩ : _ = k ∧ 0 = a0 ∧ none = m := by simpa using hc
      have hy := rep_ro hp
      rw [hW] at hy
      obtain rfl : x1 = y := by simpa using hy
      rcases hv with ⟨rfl, h0⟩ | ⟨g, cap, cur, rfl, _, h1, h2, h3, h4, h5⟩
      · exact ⟨none, 0, 0, rfl, by simp [cpN, h0], fun h => by omega, by simp [cpN, h0]⟩
      · exact ⟨_, _, _, rfl, rfl, fun _ => ⟨g, cap, cur, rfl, rfl, h1, h2, h3, by simpa using h4, by simpa using h5⟩, by simp only [cpN]; have : Nat.min L2.length L.length ≤ L.length := Nat.min_le_right _ _; omega⟩
    · rename_i k3 sz3 a3 n3
      have hm3 : Nat.min L2.length n3 ≤ n3 := Nat.min_le_right _ _
      split at hc
      · rename_i hsz3
        subst hsz3
        obtain ⟨rfl, rfl, rfl⟩ : _ = k ∧ _ = a0 ∧ some _ = m := by simpa using hc
        obtain ⟨A, N, cap, B, hW2, ⟨hb1, hb2, hb3⟩, hb4, rfl⟩ := rep_vw hp
        rw [hW] at hW2
        obtain rfl : x1 = _ := by simpa using hW2
        rcases hv with ⟨e0, h0⟩ | ⟨g, cap', cur, e1, _, h1, h2, h3, h4, h5⟩
        · obtain ⟨rfl, rfl, rfl⟩ : A = none ∧ N = 0 ∧ cap = 0 := by simpa using e0
          refine ⟨_, _, _, rfl, rfl, fun h => by omega, ?_⟩
          simp only [cpN]
          omega
        · obtain ⟨rfl, rfl, rfl⟩ : A = some ⟨g, 0, none⟩ ∧ N = L.length ∧ cap = cap' := by simpa using e1
          refine ⟨_, _, _, rfl, rfl, fun h => ⟨g, _, cur, rfl, ?_, h1, h2, h3, by simpa using h4, by simpa using h5⟩, ?_⟩
          · rw [hb4 (by omega), Nat.mul_one, Option.map_some, addr_at0, Nat.zero_add]
          · simp only [cpN]
            omega
      · cases hc
    · cases hc
  have hxl : xs.length = L.length := by simpa using hown.1
  generalize hn : cpN m L.length L2.length = n at *
  have hn2 : n ≤ L2.length := by rw [← hdl]; exact Nat.min_le_left _ _
  have hnd : n ≤ dLen := by rw [← hdl]; exact Nat.min_le_right _ _
  have hlen' : (setMany L a0 (L2.take n)).length = L.length := setMany_length _ _ _
  have hltl : (L2.take n).length = n := by rw [List.length_take]; omega
  rcases Nat.eq_zero_or_pos n with h0 | hpos
  · -- nothing goes over
    subst h0
    have hrun := run_copy_none (P := P) w t t2 ty' el B A2 dLen dCap L2.length cap2 ht hsz1 hdl
    have e : setMany L a0 (L2.take 0) = L := by simp [setMany]
    rw [e]
    have hsame : ∀ k', Hroot ((k, Ob.row ty (.sq 1 dd L)) :: s.h) k' = Hroot s.h k' := fun k' => by
      simp only [Hroot]
      split
      · rename_i hkq; subst hkq; rw [hk]
      · rfl
    refine ⟨_, w, hrun, (hs.heq hsame).put hd (.val _), fun js => ⟨⟨Nat.le_refl _, fun _ _ _ => rfl, fun k' ty' v' b2 hk' hO j' hj' => rfl, fun h => by cases h⟩, (Cx.Le.refl w F).lo, fun k' ty' v' hk' => ⟨v', ?_⟩⟩⟩
    show Hget ((k, Ob.row ty (.sq 1 dd L)) :: s.h) (.r k') = _
    rw [Hget_congr hsame]; exact hk'
  · obtain ⟨g, cap, cur, rfl, rfl, hheap, hncap, hmax, hcsz, htake⟩ := hB (by omega)
    obtain ⟨hA2e, hb2, hb2F⟩ := hA2 (by omega)
    subst hA2e
    obtain ⟨cs, hcs2, hcl, hcg⟩ : ∃ cs : List Value, cs = (List.range n).map (fun j => u2 j 0) ∧ cs.length = n ∧ ∀ j, j < n → cs[j]? = some (u2 j 0) := ⟨_, rfl, by simp, fun j hj => by simp [hj]⟩
    have hcm : ∀ v ∈ cs, ∃ j, j < n ∧ v = u2 j 0 := fun v hv => by
      rw [hcs2] at hv
      obtain ⟨j, hj, rfl⟩ := List.mem_map.1 hv
      exact ⟨j, List.mem_range.1 hj, rfl⟩
    have hone2 : ∀ v ∈ cs, v.oneCell' = true := fun v hv => by
      obtain ⟨j, hj, rfl⟩ := hcm v hv
      exact (hcell2 j (by omega) 0 (by omega)).2
    have hrun := run_copy_cells (P := P) w t t2 ty' el g a0 dLen dCap ⟨b2, off2, none⟩ L2.length cap2 cs ht hsz1 (by rw [hcl, hdl]) (fun j v hj => by
      have hjn : j < n := by have := (List.getElem?_eq_some_iff.1 hj).1; omega
      rw [hcg j hjn] at hj
      rw [addr_at0, ← Option.some.inj hj]
      have := (hcell2 j (by omega) 0 (by omega)).1
      rwa [Nat.mul_one, Nat.add_zero] at this) (fun j hj => by
      rw [cell0 hheap, Array.getElem?_eq_getElem (by omega)]; rfl) (fun j hj => frozen_no hheap) hone2
    have hFg : F.F g := hF g rfl
    have hblk : ∀ c, F.blk (.r k) (.row ty c) = some g := fun c => by simp [Cx.blk, hW, Value.ownBlock]
    have hw := Ev.setCells g cs a0 w
    have hout : Out F w (w.setCells g a0 cs) := ⟨by rw [setCells_size]; exact Nat.le_refl _, fun b hb hn => hw.block b hb fun e => hn (by rw [e]; exact hFg)⟩
    obtain ⟨cur', hheap', hcur'⟩ := heap_setCells_at cs a0 w cur hheap
    have hsz' : cur'.size = cap := by
      have : cur'.toList.length = cur.toList.length := by rw [hcur', setMany_length]
      simp only [Array.length_toList] at this
      omega
    have hob : ObOk (w.setCells g a0 cs) F (.r k) (.row ty (.sq 1 dd (setMany L a0 (L2.take n)))) := by
      refine ⟨_, 1, L.length, fun i => (setMany L a0 (L2.take n)).getD i dd, fun i j => if a0 ≤ i ∧ i < a0 + n then u2 (i - a0) 0 else u i j, setMany xs a0 cs, hW, by simp [V.elems, hlen'], ⟨by rw [setMany_length]; omega, .inr ⟨g, cap, cur', rfl, Nat.zero_le _, hheap', hncap, hmax, by omega, ?_⟩⟩, fun i hi j hj => ?_, fun i hi j hj => ?_, fun y hy => ?_, hF⟩
      · rw [hcur', Nat.mul_one, setMany_take _ _ _ _ (by omega) (by simp; omega), htake]
      · obtain rfl : j = 0 := by omega
        show _ = some (if a0 ≤ i ∧ i < a0 + n then u2 (i - a0) 0 else u i 0)
        rw [setMany_get _ _ _ _ (by omega), hcl, Nat.mul_one, Nat.add_zero]
        split
        · rename_i hin; exact hcg _ (by omega)
        · have := hcs i hi 0 (by omega)
          rwa [Nat.mul_one, Nat.add_zero] at this
      · obtain rfl : j = 0 := by omega
        show Rep _ _ (refV (.r k) i 0 (((setMany L a0 (L2.take n)).getD i dd).cell 0)) (if a0 ≤ i ∧ i < a0 + n then u2 (i - a0) 0 else u i 0)
        rw [List.getD_eq_getElem?_getD, setMany_get _ _ _ _ (by omega), hltl]
        split
        · rename_i hin
          have h5 := hr2 (i - a0) (by omega) 0 (by omega)
          rw [List.getElem?_take, if_pos (by omega), ← List.getD_eq_getElem?_getD]
          have e5 : L2.getD (i - a0) dd = L2.getD (i - a0) d2 := by rw [List.getD_eq_getElem?_getD, List.getD_eq_getElem?_getD, List.getElem?_eq_getElem (by omega)]; rfl
          rw [e5, refV_of_rep h5]
          exact h5.out hout
        · rw [← List.getD_eq_getElem?_getD]
          exact (hr i hi 0 (by omega)).out hout
      · obtain ⟨i, hi, rfl⟩ := List.getElem_of_mem hy
        rw [setMany_length] at hi
        have := setMany_get cs xs a0 i (by omega)
        rw [List.getElem?_eq_getElem (by rw [setMany_length]; exact hi)] at this
        split at this
        · exact hone2 _ (List.mem_of_getElem? this.symm)
        · exact hone _ (List.mem_of_getElem? this.symm)
    rw [hcl] at hrun
    have hup : Sat x { s with h := (k, .row ty (.sq 1 dd (setMany L a0 (L2.take n)))) :: s.h } F a (w.setCells g a0 cs) := by
      refine hs.upd (k := .r k) hkk (hblk _) hw (fun m o' hm => ?_)
      rw [Hget_cons] at hm
      split at hm
      · rename_i hroot
        cases m with
        | r q =>
          simp only [Nm.root] at hroot
          subst hroot
          simp only [Hget, Hroot, if_true, Option.some.injEq] at hm
          subst hm
          exact .inl ⟨rfl, hblk _, hob⟩
        | c q i' j' =>
          simp only [Nm.root] at hroot
          subst hroot
          obtain ⟨ty0, s0, sz0, n0, cc, ty', s'', q', hr', he0, hi', hj', hcell, rfl⟩ := Hget_c hm
          simp only [Hroot, if_true, Option.some.injEq, Ob.row.injEq] at hr'
          obtain ⟨rfl, rfl⟩ := hr'
          obtain ⟨rfl, rfl, rfl⟩ : 1 = sz0 ∧ (setMany L a0 (L2.take n)).length = n0 ∧ (fun i => (setMany L a0 (L2.take n)).getD i dd) = cc := by simpa [V.elems] using he0
          obtain rfl : j' = 0 := by omega
          refine .inr ⟨fun e => (by cases e), .row ty' s'', ?_, rfl, fun _ h => h⟩
          rw [hlen'] at hi'
          have hold : (L.getD i' dd).cell 0 = .own ty' s'' q' := by
            simp only at hcell
            rw [List.getD_eq_getElem?_getD, setMany_get _ _ _ _ (by omega), hltl] at hcell
            split at hcell
            · rename_i hin
              have h5 := hr2 (i' - a0) (by omega) 0 (by omega)
              have e5 : ((L2.take n)[i' - a0]?).getD dd = L2.getD (i' - a0) d2 := by rw [List.getElem?_take, if_pos (by omega), List.getD_eq_getElem?_getD, List.getElem?_eq_getElem (by omega)]; rfl
              rw [e5] at hcell
              rw [hcell] at h5
              exact (rep_own h5).elim
            · rw [List.getD_eq_getElem?_getD]; exact hcell
          simp only [Hget, hk, Hchild, V.elems, if_neg (show ¬ (1 : Nat) = 0 by omega), hold, if_pos (And.intro hi' hj')]
      · rename_i hroot
        exact .inr ⟨fun e => hroot (by rw [e]; rfl), o', hm, rfl, fun _ h => h⟩
    refine ⟨_, _, hrun, hup.put hd (.val _), fun js => stp_upd hs (m := .r k) hkk (hblk _) hFg hw (fun _ _ h => by cases h) fun k' ty' v' hk' => ?_⟩
    have hne : k ≠ k' := by rintro rfl; rw [hkk] at hk'; cases hk'
    simp only [Hget, Hroot] at hk' ⊢; rw [if_neg hne]; exact hk'
end
end Go.Proofs.YtmpklnhmempmgaaGreatDoor
