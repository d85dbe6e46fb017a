/- Maps from texts to numbers, beside one's own memory: what is taken for granted of them; levels as slices. -/
import Derived.Test.YtbjfhnbgiajnjaaDoorJPlain
import Derived.Test.YtbjfhnbgiajnjaaDoorWpc
import Derived.Maps.OwnSet
import Derived.Maps.Views
import Derived.StringKeys
namespace Go.Proofs.YtbjfhnbgiajnjaaDoor
open Go.RowKit
set_option linter.unusedSimpArgs false
set_option maxRecDepth 100000
abbrev MD := DataW Unit
/-- A set of texts as a map: each stands at 1. -/
def mapD (ks : List (List UInt8)) : MD := Maps.setOf (.lit (.int .i64 1)) (ks.map Lit.string)
theorem keyLits (ks : List (List UInt8)) : ∀ x ∈ ks.map Lit.string, WideAt.IsKeyLit x := by
  intro x hx
  obtain ⟨k, _, rfl⟩ := List.mem_map.1 hx
  trivial
theorem mapD_snoc (ks : List (List UInt8)) (k : List UInt8) : mapD (ks ++ [k]) = (mapD ks).put (.string k) (.lit (.int .i64 1)) := by
  unfold mapD
  rw [List.map_append]
  exact Maps.setOf_snoc _ _ _
theorem mapD_at (k : List UInt8) (z : MD) : ∀ ks : List (List UInt8), (mapD ks.reverse).atKey (.string k) z = if k ∈ ks.reverse then .lit (.int .i64 1) else z
  | [] => rfl
  | x :: r => by
    rw [List.reverse_cons, mapD_snoc]
    by_cases h : k = x
    · subst h
      have hM : Maps.IsMap (mapD r.reverse) := (Maps.tidy_setOf _ _ (keyLits _)).isMap
      rw [Maps.atKey_put_same hM (show WideAt.IsKeyLit (.string k) from trivial), if_pos (by simp)]
    · rw [Maps.atKey_put_other (fun e => h (by simpa using e)), mapD_at k z r]
      simp [h]
theorem mapD_get (k : List UInt8) (ks : List (List UInt8)) (z : MD) : (mapD ks).atKey (.string k) z = if k ∈ ks then .lit (.int .i64 1) else z := by
  have := mapD_at k z ks.reverse
  rwa [List.reverse_reverse] at this
abbrev Names := Nat → Option (List (List UInt8))
/-- Block b holds the names ks. -/
abbrev Holds (w : World) (b : Nat) (ks : List (List UInt8)) : Prop := w.ownsMap (H := Unit) Tryd.prog 9 (plainElem Tryd.prog 3) b ks.length (mapD ks)
def lkM (M : Names) (t : TypeId) (m : Value) (s : List UInt8) : Option Int :=
  if t = 40 ∧ s.length ≤ 1073741824 then match m with
    | .map none => some 0
    | .map (some b) => match M b with
      | some ks => some (if ks.contains s then 1 else 0)
      | none => none
    | _ => none
  else none
theorem zero_int (w : World) : (zeroValue 3).run Tryd.prog w = .ok (.int .i64 0) w := by
  kernel_rfl
noncomputable def JM (base : Nat) (M : Names) : Inv where
  I := fun w F => JU.I w F ∧ ∀ b ks, M b = some ks → base ≤ b ∧ ¬ F b ∧ Holds w b ks
  out := fun {w w' F F'} h hs hb hF => ⟨JU.out h.1 hs hb hF, fun b ks hm => by
    obtain ⟨h1, h2, h3⟩ := h.2 b ks hm
    have hlt := h3.lt
    refine ⟨h1, fun hf => (hF b hf).elim h2 fun h => by omega, ?_⟩
    obtain ⟨es, clock, e1, e2⟩ := h3
    exact ⟨es, clock, (hb b hlt h2).trans e1, e2⟩⟩
  gl := ⟨fun _ => none, some Tryd.prog, lkM M⟩
  lkOk := fun {w F} P t m s z hP h hI => by
    obtain rfl := Option.some.inj hP
    replace h : lkM M t m s = some z := h
    unfold lkM at h
    split at h
    · rename_i ht
      obtain ⟨rfl, hl⟩ := ht
      have hT : Tryd.prog.underlying 40 = some (.map 9 3) := Tryd.underlying40
      have K : Maps.Keyed Tryd.prog 9 := Maps.string_keyed Tryd.underlying9
      have hk : keyOf Tryd.prog 9 (.string ⟨s.toArray⟩) = some (.string s) := by
        have := WideMaps.keyOf_string_mk (P := Tryd.prog) Tryd.underlying9 (s := ⟨s.toArray⟩) (by simp [ByteArray.size, Go.maxLen]; omega)
        simpa using this
      split at h
      · obtain rfl := Option.some.inj h
        have := Maps.look_nil false K hT (zero_int w) hk
        simpa using this
      · rename_i b
        split at h
        · rename_i ks hm
          obtain rfl := Option.some.inj h
          obtain ⟨c, hrun, hat, _⟩ := (hI.2 b ks hm).2.2.lookup_int K hT Tryd.underlying3 (zero_int w) hk
          rw [mapD_get] at hat
          rw [hrun]
          by_cases hc : s ∈ ks
          · rw [if_pos hc] at hat
            rw [if_pos (by simpa using hc)]
            simp at hat
            rw [hat]
          · rw [if_neg hc] at hat
            rw [if_neg (by simpa using hc)]
            simp at hat
            rw [← hat]
        · cases h
      · cases h
    · cases h
  glOk := fun _ _ h => by cases h
theorem JM_JU (base : Nat) (M : Names) : ∀ w F, (JM base M).I w F → JU.I w F := fun _ _ h => h.1
/-! ## A map's block is written -/
structure Mapd (g : Nat) (w w' : World) : Prop where
  os : w'.os = w.os
  tape : w'.tape = w.tape
  output : w'.output = w.output
  size : w.heap.size ≤ w'.heap.size
  block : ∀ b, b < w.heap.size → b ≠ g → w'.heap[b]? = w.heap[b]?
  map : ∃ es c, w.heap[g]? = some (.map es c)
theorem Mapd.cell {g : Nat} {w w' : World} (h : Mapd g w w') {b o : Nat} {v : Value} (hc : w.cell? ⟨b, o, none⟩ = some v) : w'.cell? ⟨b, o, none⟩ = some v := by
  have hb := World.block_lt_of_cell? w ⟨b, o, none⟩ hc
  have hne : b ≠ g := by
    rintro rfl
    obtain ⟨es, c, hm⟩ := h.map
    simp [World.cell?, hm] at hc
  exact (World.cell?_of_block (a := ⟨b, o, none⟩) (h.block b hb hne)).trans hc
theorem Rep.mapd {g : Nat} {w w' : World} {F : Cx} {v : V} {y : Value} (h : Rep w F v y) (hm : Mapd g w w') : Rep w' F v y := by
  induction h with
  | val x => exact .val x
  | bb b => exact .bb b
  | str l => exact .str l
  | any x => exact .any x
  | nn t x => exact .nn t x
  | gd g v x _ hu ih => exact .gd g v x ih hu
  | sl s sz n c A cap b off u he hcap hA hc _ ih =>
    exact .sl s sz n c A cap b off u he hcap (fun hn => ⟨(hA hn).1, Nat.lt_of_lt_of_le (hA hn).2.1 hm.size, (hA hn).2.2⟩) (fun i hi j hj => ⟨hm.cell (hc i hi j hj).1, (hc i hi j hj).2⟩) ih
  | pe s sz n c i j b off u he hi hb hF hc _ ih =>
    exact .pe s sz n c i j b off u he hi (Nat.lt_of_lt_of_le hb hm.size) hF (fun i hi j hj => ⟨hm.cell (hc i hi j hj).1, (hc i hi j hj).2⟩) ih
  | op k j b hk => exact .op k j b hk
  | ro k x hk => exact .ro k x hk
  | vw m sz a n N cap A B hk hn => exact .vw m sz a n N cap A B hk hn
  | rp k sz i j g n cap hk => exact .rp k sz i j g n cap hk
  | st l cs u hs hc _ ih => exact .st l cs u hs hc ih
  | tu l cs u hs hc _ ih => exact .tu l cs u hs hc ih
def Fx.withJ (x : Fx) (J : Inv) : Fx := ⟨J, x.w, x.F, x.n, x.X, x.C⟩
section
variable {x : Fx} {F : Cx} {w w' : World} {a : Act} {s : S}
theorem Sat.withJ (hs : Sat x s F a w) {J : Inv} (h : J.I w F.F) : Sat (x.withJ J) s F a w :=
  ⟨hs.ev, hs.env, hs.df, hs.sz, hs.fold, hs.flt, hs.nx, hs.own, hs.own2, hs.own3, hs.sep, hs.wsl, hs.le, h⟩
theorem Sat.mapd (hs : Sat x s F a w) {g : Nat} (hm : Mapd g w w') (hg : x.w.heap.size ≤ g) {J : Inv} (h : J.I w' F.F) : Sat (x.withJ J) s F a w' where
  ev := ⟨hm.os.trans hs.ev.os, hm.tape.trans hs.ev.tape, hm.output.trans hs.ev.output, Nat.le_trans hs.ev.size hm.size, fun b hb hn => (hm.block b (Nat.lt_of_lt_of_le hb hs.ev.size) (fun e => by subst e; have : b < x.w.heap.size := hb; omega)).trans (hs.ev.block b hb hn)⟩
  env := fun t v ht => ⟨(hs.env t v ht).1, (hs.env t v ht).2.mapd hm⟩
  df := hs.df
  sz := hs.sz
  fold := hs.fold
  flt := fun b hb => Nat.lt_of_lt_of_le (hs.flt b hb) hm.size
  nx := hs.nx
  own := fun m ob hk => by
    have h0 := hs.own m ob hk
    obtain ⟨es, c, hmap⟩ := hm.map
    cases ob with
    | box ty v =>
      obtain ⟨b, cs, u, h1, h2, h3, h4, h5, h6⟩ := h0
      have hb : b ≠ g := fun e => by subst e; rw [hmap] at h2; cases h2
      exact ⟨b, cs, u, h1, (hm.block b (heap_lt h2) hb).trans h2, h3, h4, fun j hj => (h5 j hj).mapd hm, h6⟩
    | row ty v =>
      obtain ⟨y, sz, n, c, u, xs, h1, h2, h3, h4, h5, h6, h7⟩ := h0
      refine ⟨y, sz, n, c, u, xs, h1, h2, ⟨h3.1, ?_⟩, h4, fun i hi j hj => (h5 i hi j hj).mapd hm, h6, h7⟩
      rcases h3.2 with h | ⟨b, cap, cur, e1, e2, e3, e4⟩
      · exact .inl h
      · have hb : b ≠ g := fun e => by subst e; rw [hmap] at e3; cases e3
        exact .inr ⟨b, cap, cur, e1, e2, (hm.block b (heap_lt e3) hb).trans e3, e4⟩
  own2 := hs.own2
  own3 := hs.own3
  sep := hs.sep
  wsl := hs.wsl
  le := hs.le
  inv := h
end
/-! ## Levels -/
/-- A level as it lies there: what is still to come, its map's block. -/
structure Lw where
  left : Int
  blk : Option Nat
instance : Inhabited Lw := ⟨⟨0, none⟩⟩
def lwV (l : Lw) : V := .st [.val (.int .i64 l.left), .val (.map l.blk)]
def lws (ls : List Lw) : List V := ls.map lwV
section
variable (ns ms : List Lw) (i : Nat) (a : Int) (b : Option Nat)
theorem lws_len : (lws ns).length = ns.length := by simp [lws]
theorem lws_get : (lws ns).getD i (.st [.val (.int .i64 0), .val (.map none)]) = .st [.val (.int .i64 (ns.getD i default).left), .val (.map (ns.getD i default).blk)] := by
  simp only [lws, List.getD_eq_getElem?_getD, List.getElem?_map]; cases ns[i]? <;> rfl
theorem lws_app : lws ns ++ [.st [.val (.int .i64 a), .val (.map b)]] = lws (ns ++ [⟨a, b⟩]) := by simp [lws, lwV]
theorem lws_set : (lws ns).set i (.st [.val (.int .i64 a), .val (.map b)]) = lws (ns.set i ⟨a, b⟩) := by simp [lws, List.map_set, lwV]
theorem lws_take : (lws ns).take i = lws (ns.take i) := by simp [lws, List.map_take]
theorem lws_drop : (lws ns).drop i = lws (ns.drop i) := by simp [lws, List.map_drop]
theorem lws_er : (lws ns).map er2 = lws ns := by simp [lws, er2, er1, lwV]
theorem lws_cl : clL (lws ns) = true := by simp [clL_all, lws, V.cl, lwV, clL]
theorem lws_sc : scL (lws ns) = true := by simp [scL_all, lws, V.sc, lwV, scL]
theorem lws_ct : (lws ns).all ct2 = true := by simp [lws, ct2, ct1, V.cl, lwV]
theorem lws_no : (lws ns).all V.noOwn = true := by simp [lws, V.noOwn, V.isOwn, lwV]
end
theorem lwB : type_of% (And.intro @lws_len (And.intro @lws_get (And.intro @lws_app (And.intro @lws_set (And.intro @lws_take (And.intro @lws_drop (And.intro @lws_er (And.intro @lws_cl (And.intro @lws_sc (And.intro @lws_ct @lws_no)))))))))) := And.intro @lws_len (And.intro @lws_get (And.intro @lws_app (And.intro @lws_set (And.intro @lws_take (And.intro @lws_drop (And.intro @lws_er (And.intro @lws_cl (And.intro @lws_sc (And.intro @lws_ct @lws_no)))))))))
def ldf (t : TypeId) : V := if t = 42 then .st [.val (.int .i64 0), .val (.map none)] else jdf t
end Go.Proofs.YtbjfhnbgiajnjaaDoor
