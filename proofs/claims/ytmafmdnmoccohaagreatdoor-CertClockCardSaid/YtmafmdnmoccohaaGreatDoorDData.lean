/- The elements of DER as data. -/
import Derived.Test.YtmafmdnmoccohaaGreatDoorWT
namespace Go.Proofs.YtmafmdnmoccohaaGreatDoor
structure Tlv where
  tag : Int
  data : List UInt8
  kids : Int
instance : Inhabited Tlv := ⟨⟨0, [], 0⟩⟩
def tlvV (t : Tlv) : V := .st [.val (.int .i64 t.tag), .by t.data, .val (.int .i64 t.kids)]
def tlvD : V := .st [.val (.int .i64 0), .by [], .val (.int .i64 0)]
/-- One's own: its contents are, too. -/
def tlvO (t : Tlv) : V := .st [.val (.int .i64 t.tag), .own 5 (.by t.data) none, .val (.int .i64 t.kids)]
def tlvOD : V := .st [.val (.int .i64 0), .own 5 (.by []) none, .val (.int .i64 0)]
def tls (ts : List Tlv) : List V := ts.map tlvV
def tlo (ts : List Tlv) : List V := ts.map tlvO
def tlsV (ts : List Tlv) : V := .sq 3 tlvD (tls ts)
def tloV (ts : List Tlv) : V := .sq 3 tlvOD (tlo ts)
section
variable (ts us : List Tlv) (i : Nat) (a k : Int) (d : List UInt8)
theorem tls_len : (tls ts).length = ts.length := by simp [tls]
theorem tls_get : (tls ts).getD i (.st [.val (.int .i64 0), .by [], .val (.int .i64 0)]) = .st [.val (.int .i64 (ts.getD i default).tag), .by (ts.getD i default).data, .val (.int .i64 (ts.getD i default).kids)] := by
  simp only [tls, List.getD_eq_getElem?_getD, List.getElem?_map]; cases ts[i]? <;> rfl
theorem tls_app : tls ts ++ [.st [.val (.int .i64 a), .by d, .val (.int .i64 k)]] = tls (ts ++ [⟨a, d, k⟩]) := by simp [tls, tlvV]
theorem tls_apps : tls ts ++ tls us = tls (ts ++ us) := by simp [tls]
theorem tls_set : (tls ts).set i (.st [.val (.int .i64 a), .by d, .val (.int .i64 k)]) = tls (ts.set i ⟨a, d, k⟩) := by simp [tls, List.map_set, tlvV]
theorem tls_take : (tls ts).take i = tls (ts.take i) := by simp [tls, List.map_take]
theorem tls_drop : (tls ts).drop i = tls (ts.drop i) := by simp [tls, List.map_drop]
theorem tls_er : (tls ts).map er2 = tls ts := by simp [tls, er2, er1, tlvV]
theorem tls_cl : clL (tls ts) = true := by simp [clL_all, tls, V.cl, tlvV, clL]
theorem tls_ct : (tls ts).all ct2 = true := by simp [tls, ct2, ct1, V.cl, tlvV]
theorem tlo_len : (tlo ts).length = ts.length := by simp [tlo]
theorem tlo_get : (tlo ts).getD i (.st [.val (.int .i64 0), .own 5 (.by []) none, .val (.int .i64 0)]) = .st [.val (.int .i64 (ts.getD i default).tag), .own 5 (.by (ts.getD i default).data) none, .val (.int .i64 (ts.getD i default).kids)] := by
  simp only [tlo, List.getD_eq_getElem?_getD, List.getElem?_map]; cases ts[i]? <;> rfl
theorem tlo_app : tlo ts ++ [.st [.val (.int .i64 a), .own 5 (.by d) none, .val (.int .i64 k)]] = tlo (ts ++ [⟨a, d, k⟩]) := by simp [tlo, tlvO]
theorem tlo_apps : tlo ts ++ tlo us = tlo (ts ++ us) := by simp [tlo]
theorem tlo_set : (tlo ts).set i (.st [.val (.int .i64 a), .own 5 (.by d) none, .val (.int .i64 k)]) = tlo (ts.set i ⟨a, d, k⟩) := by simp [tlo, List.map_set, tlvO]
theorem tlo_er : (tlo ts).map er2 = tls ts := by simp [tls, tlo, er2, er1, tlvV, tlvO]
theorem tlo_sc : scL (tlo ts) = true := by simp [scL_all, tlo, V.sc, tlvO, scL]
theorem tlo_ct : (tlo ts).all ct2 = true := by simp [tlo, ct2, ct1, V.cl, tlvO]
theorem tlo_nil : ([] : List V) = tlo [] := rfl
end
/-- Elements as slices hold them where nothing is said. -/
def df (t : TypeId) : V := if t = 3 then .val (.int .i64 0) else if t = 29 then tlvD else .any
def G0f : FuncId → List V → Option (List Prop × Bool × V) := fun _ _ => none
def G0 (J : Inv) : Sig := ⟨J, df, G0f, noH, 0⟩
theorem G0_ok (J : Inv) : SigOk Tryz.prog (G0 J) := .plain fun _ _ _ _ _ h => by simp [G0f] at h
def unTlv : V → Tlv
  | .st [.val (.int .i64 a), .own _ (.by d) _, .val (.int .i64 k)] => ⟨a, d, k⟩
  | .st [.val (.int .i64 a), .by d, .val (.int .i64 k)] => ⟨a, d, k⟩
  | _ => default
def unT (l : List V) : List Tlv := l.map unTlv
theorem unT_tlo (ts : List Tlv) : unT (tlo ts) = ts := by
  induction ts with
  | nil => rfl
  | cons t r ih => simp only [unT, tlo, List.map_cons] at ih ⊢; rw [ih]; rfl
theorem unT_tls (ts : List Tlv) : unT (tls ts) = ts := by
  induction ts with
  | nil => rfl
  | cons t r ih => simp only [unT, tls, List.map_cons] at ih ⊢; rw [ih]; rfl
def Small (ts : List Tlv) : Prop := ts.length ≤ 3518437208883 ∧ ∀ t ∈ ts, t.data.length ≤ 140737488355328
theorem Small.at {ts : List Tlv} (h : Small ts) {i : Nat} (hi : i < ts.length) : (ts.getD i default).data.length ≤ 140737488355328 := by
  rw [List.getD_eq_getElem?_getD, List.getElem?_eq_getElem hi]
  exact h.2 _ (List.getElem_mem hi)
theorem getD_at {ts : List Tlv} {a : Nat} (h : a < ts.length) : ts.getD a default = ts[a] := by
  rw [List.getD_eq_getElem?_getD, List.getElem?_eq_getElem h]; rfl
def Tiny (ts : List Tlv) : Prop := ts.length ≤ 1048576 ∧ ∀ t ∈ ts, t.data.length ≤ 1048576
theorem Tiny.small {ts : List Tlv} (h : Tiny ts) : Small ts := ⟨by have := h.1; omega, fun t ht => by have := h.2 t ht; omega⟩
theorem Tiny.at {ts : List Tlv} (h : Tiny ts) {i : Nat} (hi : i < ts.length) : (ts.getD i default).data.length ≤ 1048576 := by
  rw [getD_at hi]; exact h.2 _ (List.getElem_mem hi)
theorem bnB : type_of% ((And.intro (And.intro (And.intro (And.intro @tls_len @tls_get) (And.intro @tls_app (And.intro @tls_apps @tls_set))) (And.intro (And.intro @tls_take @tls_drop) (And.intro @tls_er (And.intro @tls_cl @tls_ct)))) (And.intro (And.intro (And.intro @tlo_len @tlo_get) (And.intro @tlo_app (And.intro @tlo_apps @tlo_set))) (And.intro (And.intro @tlo_er @tlo_sc) (And.intro @tlo_ct (And.intro @unT_tls @unT_tlo)))))) := (And.intro (And.intro (And.intro (And.intro @tls_len @tls_get) (And.intro @tls_app (And.intro @tls_apps @tls_set))) (And.intro (And.intro @tls_take @tls_drop) (And.intro @tls_er (And.intro @tls_cl @tls_ct)))) (And.intro (And.intro (And.intro @tlo_len @tlo_get) (And.intro @tlo_app (And.intro @tlo_apps @tlo_set))) (And.intro (And.intro @tlo_er @tlo_sc) (And.intro @tlo_ct (And.intro @unT_tls @unT_tlo)))))
end Go.Proofs.YtmafmdnmoccohaaGreatDoor
