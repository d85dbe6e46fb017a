/- Nodes as data; numbers as texts: what reading one comes to. -/
import Derived.Test.YtbjfhnbgiajnjaaDoorWT
import Derived.Test.YtbjfhnbgiajnjaaDoorWad
import Derived.Test.YtbjfhnbgiajnjaaDoorJPl
import Derived.Lib.TrimByte
import Derived.Lib.Strings
namespace Go.Proofs.YtbjfhnbgiajnjaaDoor
def ndV (n : Nd) : V := .st [.val (.int .i64 n.kind), .str n.key, .str n.text, .bb n.whole, .val (.int .i64 n.int), .val (.int .i64 n.kids)]
def ndD : V := .st [.val (.int .i64 0), .str [], .str [], .bb false, .val (.int .i64 0), .val (.int .i64 0)]
def nds (ns : List Nd) : List V := ns.map ndV
def ndsV (ns : List Nd) : V := .sq 6 ndD (nds ns)
section
variable (ns ms : List Nd) (i : Nat) (a b c : Int) (k t : List UInt8) (w : Bool)
theorem nds_len : (nds ns).length = ns.length := by simp [nds]
theorem nds_get : (nds ns).getD i (.st [.val (.int .i64 0), .str [], .str [], .bb false, .val (.int .i64 0), .val (.int .i64 0)]) = .st [.val (.int .i64 (ns.getD i default).kind), .str (ns.getD i default).key, .str (ns.getD i default).text, .bb (ns.getD i default).whole, .val (.int .i64 (ns.getD i default).int), .val (.int .i64 (ns.getD i default).kids)] := by
  simp only [nds, List.getD_eq_getElem?_getD, List.getElem?_map]; cases ns[i]? <;> rfl
theorem nds_app : nds ns ++ [.st [.val (.int .i64 a), .str k, .str t, .bb w, .val (.int .i64 b), .val (.int .i64 c)]] = nds (ns ++ [⟨a, k, t, w, b, c⟩]) := by simp [nds, ndV]
theorem nds_apps : nds ns ++ nds ms = nds (ns ++ ms) := by simp [nds]
theorem nds_set : (nds ns).set i (.st [.val (.int .i64 a), .str k, .str t, .bb w, .val (.int .i64 b), .val (.int .i64 c)]) = nds (ns.set i ⟨a, k, t, w, b, c⟩) := by simp [nds, List.map_set, ndV]
theorem nds_take : (nds ns).take i = nds (ns.take i) := by simp [nds, List.map_take]
theorem nds_drop : (nds ns).drop i = nds (ns.drop i) := by simp [nds, List.map_drop]
theorem nds_er : (nds ns).map er2 = nds ns := by simp [nds, er2, er1, ndV]
theorem nds_cl : clL (nds ns) = true := by simp [clL_all, nds, V.cl, ndV, clL]
theorem nds_sc : scL (nds ns) = true := by simp [scL_all, nds, V.sc, ndV, scL]
theorem nds_ct : (nds ns).all ct2 = true := by simp [nds, ct2, ct1, V.cl, ndV]
theorem nds_no : (nds ns).all V.noOwn = true := by simp [nds, V.noOwn, V.isOwn, ndV]
theorem nds_nil : ([] : List V) = nds [] := rfl
end
theorem jsB : type_of% (And.intro @nds_len (And.intro @nds_get (And.intro @nds_app (And.intro @nds_apps (And.intro @nds_set (And.intro @nds_take (And.intro @nds_drop (And.intro @nds_er (And.intro @nds_cl (And.intro @nds_sc (And.intro @nds_ct @nds_no))))))))))) := And.intro @nds_len (And.intro @nds_get (And.intro @nds_app (And.intro @nds_apps (And.intro @nds_set (And.intro @nds_take (And.intro @nds_drop (And.intro @nds_er (And.intro @nds_cl (And.intro @nds_sc (And.intro @nds_ct @nds_no))))))))))
/-- Elements as slices hold them where nothing is said. -/
def jdf (t : TypeId) : V := if t = 3 then .val (.int .i64 0) else if t = 36 then ndD else if t = 9 then .str [] else .any
def J0f : FuncId → List V → Option (List Prop × Bool × V) := fun _ _ => none
def J0 (J : Inv) : Sig := ⟨J, jdf, J0f, noH, 0⟩
theorem J0_ok (J : Inv) : SigOk Tryd.prog (J0 J) := .plain fun _ _ _ _ _ h => by simp [J0f] at h
theorem jsome_tri {α β γ : Type} {a d : α} {b e : β} {c f : γ} (h : some (a, b, c) = some (d, e, f)) : a = d ∧ b = e ∧ c = f := by simpa using h
/-! ## Numbers -/
def dg (b : Int) : Prop := 48 ≤ b ∧ b ≤ 57
instance (b : Int) : Decidable (dg b) := by unfold dg; infer_instance
/-- How many digits stand at the beginning. -/
def runF : List UInt8 → Nat
  | [] => 0
  | c :: r => if dg (c.toNat : Int) then runF r + 1 else 0
theorem runF_le : ∀ l, runF l ≤ l.length
  | [] => Nat.le_refl _
  | c :: r => by unfold runF; split; have := runF_le r; simp; omega; simp
theorem runF_is : ∀ {l : List UInt8} {i : Nat}, i ≤ l.length → (∀ k, k < i → dg (byteAt l k)) → (i < l.length → ¬ dg (byteAt l i)) → runF l = i
  | [], i, h, _, _ => by simp at h; subst h; rfl
  | c :: r, 0, _, _, h2 => by
    have : ¬ dg (c.toNat : Int) := h2 (by simp)
    unfold runF
    rw [if_neg this]
  | c :: r, i + 1, h, h1, h2 => by
    have h0 : dg (byteAt (c :: r) 0) := h1 0 (by omega)
    have hs : ∀ k, byteAt (c :: r) (k + 1) = byteAt r k := fun k => by unfold byteAt; simp
    unfold runF
    rw [if_pos (show dg (c.toNat : Int) from h0), runF_is (l := r) (i := i) (by simp at h; omega) (fun k hk => by rw [← hs]; exact h1 (k + 1) (by omega)) (fun hi => by rw [← hs]; exact h2 (by simp; omega))]
theorem runF_dg : ∀ {l : List UInt8} {k : Nat}, k < runF l → dg (byteAt l k)
  | [], k, h => by simp [runF] at h
  | c :: r, k, h => by
    unfold runF at h
    split at h
    · rename_i h0
      cases k with
      | zero => exact h0
      | succ k =>
        have hs : byteAt (c :: r) (k + 1) = byteAt r k := by unfold byteAt; simp
        rw [hs]; exact runF_dg (by omega)
    · omega
theorem runF_end : ∀ {l : List UInt8}, runF l < l.length → ¬ dg (byteAt l (runF l))
  | [], h => by simp at h
  | c :: r, h => by
    unfold runF at h ⊢
    split
    · rename_i h0
      rw [if_pos h0] at h
      have hs : byteAt (c :: r) (runF r + 1) = byteAt r (runF r) := by unfold byteAt; simp
      rw [hs]; exact runF_end (by simpa using h)
    · rename_i h0; exact h0
/-- What a text says as a number. -/
structure NumR where
  minus : Bool
  whole : List UInt8
  digits : List UInt8
  point : Int
  plain : Bool
  down : Bool
  exp : List UInt8
def numV (n : NumR) : V := .st [.bb n.minus, .str n.whole, .str n.digits, .i n.point, .bb n.plain, .bb n.down, .str n.exp]
def rd3 (n : NumR) (behind s : List UInt8) : NumR × Bool :=
  (⟨n.minus, n.whole, Lib.trimRightB (Lib.trimLeftB (n.whole ++ behind) 48) 48, (n.whole.length : Int) - (((n.whole ++ behind).length : Int) - (Lib.trimLeftB (n.whole ++ behind) 48).length), n.plain, if n.exp = [] then false else n.down, n.exp⟩, decide (s = []))
def rd2 (n : NumR) (behind s : List UInt8) : NumR × Bool :=
  if s ≠ [] ∧ (byteAt s 0 = 101 ∨ byteAt s 0 = 69) then
    if s.drop 1 ≠ [] ∧ (byteAt (s.drop 1) 0 = 43 ∨ byteAt (s.drop 1) 0 = 45) then
      (if s.drop 2 = [] ∨ runF (s.drop 2) ≠ (s.drop 2).length then (⟨n.minus, n.whole, n.digits, n.point, n.plain, byteAt (s.drop 1) 0 == 45, n.exp⟩, false)
       else rd3 ⟨n.minus, n.whole, n.digits, n.point, false, byteAt (s.drop 1) 0 == 45, Lib.trimLeftB (s.drop 2) 48⟩ behind [])
    else (if s.drop 1 = [] ∨ runF (s.drop 1) ≠ (s.drop 1).length then (n, false)
       else rd3 ⟨n.minus, n.whole, n.digits, n.point, false, n.down, Lib.trimLeftB (s.drop 1) 48⟩ behind [])
  else rd3 n behind s
def rd1 (n : NumR) (s : List UInt8) : NumR × Bool :=
  if Lib.hasPrefix s [46] = true then
    (if runF (s.drop 1) = 0 then (n, false) else rd2 ⟨n.minus, n.whole, n.digits, n.point, false, n.down, n.exp⟩ ((s.drop 1).take (runF (s.drop 1))) ((s.drop 1).drop (runF (s.drop 1))))
  else rd2 n [] s
def rd0 (m : Bool) (s : List UInt8) : NumR × Bool :=
  if runF s = 0 ∨ (1 < runF s ∧ byteAt s 0 = 48) then (⟨m, [], [], 0, true, false, []⟩, false) else rd1 ⟨m, s.take (runF s), [], 0, true, false, []⟩ (s.drop (runF s))
def readF (s : List UInt8) : NumR × Bool := rd0 (Lib.hasPrefix s [45]) (Lib.trimPrefix s [45])
end Go.Proofs.YtbjfhnbgiajnjaaDoor
