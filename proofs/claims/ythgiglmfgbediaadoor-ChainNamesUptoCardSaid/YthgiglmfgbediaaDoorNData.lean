/- Hosts' names: the program's answer and the document's are one. Plain Lean. -/
import Derived.Test.YthgiglmfgbediaaDoorSpl
import Derived.Lib.TrimAscii
import Derived.Lib.MapLaws
import Derived.Lib.SlTrimSet
import Derived.Lib.IndexLaws
namespace Go.Proofs.YthgiglmfgbediaaDoor
set_option linter.unusedSimpArgs false
def low (b : UInt8) : UInt8 := if 65 ≤ b.toNat ∧ b.toNat ≤ 90 then u8 ((b.toNat : Int) + 32) else b
def lowL (l : List UInt8) : List UInt8 := l.map low
/-- What the program's small letters do with a rune. -/
def lowR (x : Int) : Int := if 65 ≤ x ∧ x ≤ 90 then x + 32 else x
def lowC (l : List UInt8) : List UInt8 := Lib.mapD lowR l
def letr (b : UInt8) : Bool := decide (97 ≤ b.toNat ∧ b.toNat ≤ 122 ∨ 65 ≤ b.toNat ∧ b.toNat ≤ 90 ∨ 48 ≤ b.toNat ∧ b.toNat ≤ 57 ∨ b.toNat = 45)
def scan : Nat → List UInt8 → Bool
  | n, [] => decide (0 < n)
  | n, b :: r => if (!letr b && decide (b.toNat ≠ 46)) = true ∨ (b.toNat = 46 ∧ (if letr b then n + 1 else n) = 0) ∨ 63 < (if letr b then n + 1 else n) then false
    else scan (if b.toNat = 46 then 0 else if letr b then n + 1 else n) r
def hostR (l : List UInt8) : Bool := decide (1 ≤ l.length ∧ l.length ≤ 253) && scan 0 l
def lab (x : List UInt8) : Bool := decide (1 ≤ x.length ∧ x.length ≤ 63) && x.all letr
def named (l : List UInt8) : Bool := decide (l.length ≤ 253) && (spl 46 l).all lab
def labN (n : Nat) (x : List UInt8) : Bool := decide (1 ≤ n + x.length ∧ n + x.length ≤ 63) && x.all letr
theorem scan_spl : ∀ (l : List UInt8) (n : Nat), n ≤ 63 → scan n l = match spl 46 l with | x :: r => labN n x && r.all lab | [] => false
  | [], n, h => by
    simp only [scan, spl, labN, List.length_nil, List.all_nil, Nat.add_zero, Bool.and_true]
    by_cases h0 : 0 < n <;> simp [h0] <;> omega
  | b :: l, n, h => by
    have hx : ∀ n, n ≤ 63 → _ := fun n h => scan_spl l n h
    rw [scan, spl]
    cases hs : spl 46 l with
    | nil => exact absurd hs (spl_ne 46 l)
    | cons x r =>
      rw [hs] at hx
      simp only at hx
      by_cases h46 : b = 46
      · subst h46
        have hl : letr 46 = false := by decide
        have ht : (46 : UInt8).toNat = 46 := rfl
        simp only [hl, ht, if_true, labN, List.length_nil, List.all_nil, List.all_cons, Nat.add_zero, Bool.and_true, Bool.false_eq_true, if_false, ne_eq, not_true_eq_false, decide_false, Bool.and_false, true_and, false_or]
        by_cases h0 : n = 0
        · simp [h0]
        · rw [if_neg (by omega), hx 0 (by omega)]
          have : (1 ≤ n ∧ n ≤ 63) := by omega
          simp [this, labN, lab]
      · have hb : b.toNat ≠ 46 := fun e => h46 (UInt8.toNat_inj.1 (by rw [e]; rfl))
        rw [if_neg h46]
        simp only [hb, if_false, false_and, false_or, labN, List.length_cons, List.all_cons, ne_eq, not_false_eq_true, decide_true, Bool.and_true]
        cases hl : letr b with
        | false => simp
        | true =>
          simp only [Bool.not_true, Bool.false_eq_true, false_or, if_true, Bool.true_and]
          by_cases h63 : 63 < n + 1
          · rw [if_pos h63]
            have : ¬ (1 ≤ n + (x.length + 1) ∧ n + (x.length + 1) ≤ 63) := by omega
            simp [this]
          · rw [if_neg h63, hx (n + 1) (by omega)]
            simp only [labN]
            rw [show n + 1 + x.length = n + (x.length + 1) from by omega]
theorem named_host (l : List UInt8) : named l = hostR l := by
  unfold named hostR
  rw [scan_spl l 0 (by omega)]
  cases l with
  | nil => rfl
  | cons b r =>
    cases hs : spl 46 (b :: r) with
    | nil => exact absurd hs (spl_ne 46 _)
    | cons x t =>
      simp only [List.all_cons, labN, lab, Nat.zero_add, List.length_cons]
      have : 1 ≤ r.length + 1 := by omega
      simp [this]
theorem scan_cons {n : Nat} {b : UInt8} {r : List UInt8} (h : scan n (b :: r) = true) : (letr b = true ∨ b.toNat = 46) ∧ ∃ m, scan m r = true := by
  rw [scan] at h
  generalize (if letr b = true then n + 1 else n) = m at h
  by_cases hc : (!letr b && decide (b.toNat ≠ 46)) = true ∨ (b.toNat = 46 ∧ m = 0) ∨ 63 < m
  · rw [if_pos hc] at h; cases h
  · rw [if_neg hc] at h
    refine ⟨?_, _, h⟩
    by_cases hl : letr b = true
    · exact .inl hl
    · by_cases h46 : b.toNat = 46
      · exact .inr h46
      · exact absurd (Or.inl (by rw [Bool.eq_false_iff.2 hl]; simp [h46])) hc
theorem hostR_bytes {l : List UInt8} (h : hostR l = true) : ∀ b ∈ l, b.toNat < 128 := by
  unfold hostR at h
  rw [Bool.and_eq_true] at h
  have key : ∀ (l : List UInt8) n, scan n l = true → ∀ b ∈ l, b.toNat < 128 := by
    intro l
    induction l with
    | nil => intro n _ b hb; cases hb
    | cons c r ih =>
      intro n hs b hb
      obtain ⟨h1, m, h2⟩ := scan_cons hs
      rcases List.mem_cons.1 hb with rfl | hb
      · rcases h1 with hl | h46
        · unfold letr at hl; rw [decide_eq_true_eq] at hl; omega
        · omega
      · exact ih _ h2 b hb
  exact key l 0 h.2
theorem dropWhile_nil {p : UInt8 → Bool} : ∀ {l : List UInt8}, l.dropWhile p = [] ↔ l.all p = true
  | [] => by simp
  | b :: r => by
    rw [List.dropWhile_cons, List.all_cons]
    by_cases h : p b = true
    · rw [if_pos h, h, Bool.true_and, dropWhile_nil]
    · simp [h]
theorem trimS_nil (l cs : List UInt8) : Lib.trimS l cs = [] ↔ l.all (cs.contains ·) = true := by
  unfold Lib.trimS Lib.trimLeftS
  rw [dropWhile_nil]
  constructor
  · intro h
    have : ∀ b ∈ l.reverse, cs.contains b = true := by
      intro b hb
      by_cases hd : b ∈ (l.reverse.dropWhile (cs.contains ·))
      · exact (List.all_eq_true.1 h) b (by unfold Lib.trimRightS; exact List.mem_reverse.2 hd)
      · have e := List.takeWhile_append_dropWhile (p := (cs.contains ·)) (l := l.reverse)
        rw [← e] at hb
        rcases List.mem_append.1 hb with h1 | h1
        · have := List.all_takeWhile (p := (cs.contains ·)) (l := l.reverse)
          exact List.all_eq_true.1 this b h1
        · exact absurd h1 hd
    exact List.all_eq_true.2 fun b hb => this b (List.mem_reverse.2 hb)
  · intro h
    refine List.all_eq_true.2 fun b hb => List.all_eq_true.1 h b ?_
    unfold Lib.trimRightS at hb
    have := List.mem_reverse.1 hb
    exact List.mem_reverse.1 ((List.dropWhile_suffix _).subset this)
theorem lowR_nonneg {x : Int} (h : 0 ≤ x) : 0 ≤ lowR x := by unfold lowR; split <;> omega
theorem low_small (b : UInt8) (h : b.toNat < 128) : (low b).toNat < 128 ∧ ((low b).toNat : Int) = lowR b.toNat := by
  unfold low lowR
  by_cases h1 : 65 ≤ b.toNat ∧ b.toNat ≤ 90
  · rw [if_pos h1, if_pos (by omega)]
    have := u8_toNat ((b.toNat : Int) + 32) (by omega) (by omega)
    omega
  · rw [if_neg h1, if_neg (by omega)]; omega
theorem low_high (b : UInt8) (h : 128 ≤ b.toNat) : low b = b := by
  unfold low; rw [if_neg (by omega)]
theorem lowC_cons (b : UInt8) (t : List UInt8) (h : b.toNat < 128) : lowC (b :: t) = low b :: lowC t := by
  unfold lowC
  obtain ⟨h1, h2⟩ := low_small b h
  rw [Lib.mapD_step lowR (b :: t) (by simp), Lib.decodeL_ascii b t h]
  simp only [List.drop_succ_cons, List.drop_zero]
  rw [if_pos (lowR_nonneg (by omega)), ← h2]
  have : Lib.encodeRune ((low b).toNat : Int) = [low b] := by
    unfold Lib.encodeRune
    rw [Lib.encodeRuneZ_one (by omega) (by omega)]
    simp
  rw [this]; rfl
theorem lowC_high (b : UInt8) (t : List UInt8) (h : 128 ≤ b.toNat) : ∃ x ∈ lowC (b :: t), 128 ≤ x.toNat := by
  unfold lowC
  rw [Lib.mapD_step lowR (b :: t) (by simp)]
  by_cases hv : (Lib.decodeL (b :: t)).1 = 65533 ∧ (Lib.decodeL (b :: t)).2 = 1
  · rw [hv.1]
    refine ⟨239, List.mem_append_left _ ?_, by decide⟩
    rw [show lowR ((65533 : Nat) : Int) = 65533 from by decide, if_pos (by decide)]
    decide
  · have he := Lib.encode_decode (b :: t) (by simp) hv
    have hw := Lib.decodeL_width (b :: t)
    obtain ⟨w, hw'⟩ : ∃ w, (Lib.decodeL (b :: t)).2 = w + 1 := ⟨(Lib.decodeL (b :: t)).2 - 1, by omega⟩
    rw [hw', List.take_succ_cons] at he
    have hr : 128 ≤ (Lib.decodeL (b :: t)).1 := by
      by_cases hlt : (Lib.decodeL (b :: t)).1 < 128
      · exfalso
        unfold Lib.encodeRune at he
        rw [Lib.encodeRuneZ_one (by omega) (by omega)] at he
        simp only [List.map_cons, List.map_nil, List.cons.injEq] at he
        have := congrArg UInt8.toNat he.1
        rw [Nat.toUInt8_eq, UInt8.toNat_ofNat', Int.toNat_natCast] at this
        omega
      · omega
    have e : lowR ((Lib.decodeL (b :: t)).1 : Int) = ((Lib.decodeL (b :: t)).1 : Int) := by unfold lowR; rw [if_neg (by omega)]
    rw [e, if_pos (by omega), he]
    exact ⟨b, by simp, h⟩
theorem lowC_cases : ∀ l : List UInt8, (lowC l = lowL l ∧ ∀ b ∈ lowL l, b.toNat < 128) ∨ ((∃ x ∈ lowC l, 128 ≤ x.toNat) ∧ ∃ x ∈ lowL l, 128 ≤ x.toNat)
  | [] => .inl ⟨rfl, by simp [lowL]⟩
  | b :: t => by
    by_cases h : b.toNat < 128
    · rw [lowC_cons b t h]
      rcases lowC_cases t with ⟨h1, h2⟩ | ⟨⟨x, hx, h1⟩, y, hy, h2⟩
      · refine .inl ⟨by rw [h1]; rfl, fun c hc => ?_⟩
        rcases List.mem_cons.1 hc with rfl | hc
        · exact (low_small b h).1
        · exact h2 c hc
      · exact .inr ⟨⟨x, List.mem_cons_of_mem _ hx, h1⟩, y, List.mem_cons_of_mem _ hy, h2⟩
    · refine .inr ⟨lowC_high b t (by omega), b, ?_, by omega⟩
      unfold lowL
      rw [List.map_cons, low_high b (by omega)]
      exact List.mem_cons_self ..
theorem lowC_low {l : List UInt8} (h : ∀ b ∈ l, b.toNat < 128) : lowC l = lowL l := by
  induction l with
  | nil => rfl
  | cons b t ih => rw [lowC_cons b t (h b (by simp)), ih fun c hc => h c (by simp [hc])]; rfl
theorem lowL_small {l : List UInt8} (h : ∀ b ∈ l, b.toNat < 128) : ∀ b ∈ lowL l, b.toNat < 128 := by
  intro b hb
  obtain ⟨c, hc, rfl⟩ := List.mem_map.1 hb
  exact (low_small c (h c hc)).1
theorem low_eq {h : List UInt8} (hh : ∀ b ∈ h, b.toNat < 128) (d : List UInt8) : (lowC d = lowC h) ↔ (lowL d = lowL h) := by
  rw [lowC_low hh]
  rcases lowC_cases d with ⟨h1, -⟩ | ⟨⟨x, hx, h1⟩, y, hy, h2⟩
  · rw [h1]
  · constructor
    · intro e; rw [e] at hx; have := lowL_small hh x hx; omega
    · intro e; rw [e] at hy; have := lowL_small hh y hy; omega
/-- The program's answer. -/
def oneC (h d : List UInt8) : Bool := decide (lowC d = lowC h) || (Lib.hasPrefix d [42, 46] && named (Lib.trimPrefix d [42, 46]) && Lib.contains (Lib.trimPrefix d [42, 46]) [46] && decide (lowC (Lib.trimPrefix d [42, 46]) = lowC (Lib.cut h [46]).2.1))
def namesC (ds : List (List UInt8)) (h : List UInt8) : Bool := named h && ds.any (oneC h)
/-- The document's. -/
def oneR (h d : List UInt8) : Bool := decide (lowL d = lowL h) || (decide (3 ≤ d.length ∧ d.getD 0 0 = 42 ∧ d.getD 1 0 = 46 ∧ 0 ≤ Lib.index h [46]) && hostR (d.drop 2) && decide (0 ≤ Lib.index (d.drop 2) [46]) && decide (lowL (d.drop 2) = lowL (h.drop (Lib.index h [46] + 1).toNat)))
def namesR (ds : List (List UInt8)) (h : List UInt8) : Bool := hostR h && ds.any (oneR h)
theorem oneC_R (h d : List UInt8) (hh : hostR h = true) : oneC h d = oneR h d := by
  have hb := hostR_bytes hh
  unfold oneC oneR
  rw [decide_eq_decide.2 (low_eq hb d)]
  congr 1
  by_cases hp : Lib.hasPrefix d [42, 46] = true
  · obtain ⟨r, rfl⟩ : ∃ r, d = 42 :: 46 :: r := by
      unfold Lib.hasPrefix at hp
      obtain ⟨r, hr⟩ := List.isPrefixOf_iff_prefix.1 hp
      exact ⟨r, hr.symm⟩
    have et : Lib.trimPrefix (42 :: 46 :: r) [42, 46] = r := by unfold Lib.trimPrefix; rw [if_pos hp]; rfl
    rw [et, hp, named_host]
    simp only [Bool.true_and, List.drop_succ_cons, List.drop_zero, List.getD_cons_zero, List.getD_cons_succ, List.length_cons, true_and]
    by_cases hr : hostR r = true
    · have hl : 1 ≤ r.length := by unfold hostR at hr; simp at hr; omega
      by_cases hd : 0 ≤ Lib.index h [46]
      · have ec : (Lib.cut h [46]).2.1 = h.drop (Lib.index h [46] + 1).toNat := by
          unfold Lib.cut
          rw [if_pos hd]
          simp only [List.length_cons, List.length_nil]
          congr 1
          omega
        have hbd : ∀ b ∈ h.drop (Lib.index h [46] + 1).toNat, b.toNat < 128 := fun b hx => hb b (List.mem_of_mem_drop hx)
        rw [ec, show decide (lowC r = lowC (h.drop (Lib.index h [46] + 1).toNat)) = decide (lowL r = lowL (h.drop (Lib.index h [46] + 1).toNat)) from decide_eq_decide.2 (low_eq hbd r)]
        have h3 : 3 ≤ r.length + 1 + 1 := by omega
        simp [hr, hd, h3, Lib.contains]
      · have ec : (Lib.cut h [46]).2.1 = [] := by unfold Lib.cut; rw [if_neg hd]
        rw [ec]
        have hne : ¬ (lowC r = lowC []) := by
          cases r with
          | nil => simp at hl
          | cons b t => rw [lowC_cons b t (hostR_bytes hr b (by simp))]; simp [lowC, Lib.mapD_nil]
        simp [hne, hd]
    · simp [hr]
  · have hn : ¬ (3 ≤ d.length ∧ d.getD 0 0 = 42 ∧ d.getD 1 0 = 46 ∧ 0 ≤ Lib.index h [46]) := by
      intro ⟨h1, h2, h3, _⟩
      refine hp ?_
      match d, h1 with
      | a :: b :: r, _ =>
        simp only [List.getD_cons_zero, List.getD_cons_succ] at h2 h3
        subst h2 h3
        simp [Lib.hasPrefix, List.isPrefixOf]
    rw [show decide (3 ≤ d.length ∧ d.getD 0 0 = 42 ∧ d.getD 1 0 = 46 ∧ 0 ≤ Lib.index h [46]) = false from decide_eq_false hn]
    simp [hp]
theorem names_CR (ds : List (List UInt8)) (h : List UInt8) : namesC ds h = namesR ds h := by
  unfold namesC namesR
  rw [named_host]
  by_cases hh : hostR h = true
  · rw [hh, show oneC h = oneR h from funext fun d => oneC_R h d hh]
  · simp [hh]
end Go.Proofs.YthgiglmfgbediaaDoor
