/- What the law TagOnce computes, in plain Lean: the words that are given out, which of them are live. -/
import Derived.Test.YtbbhhlnbjgigaaaTag2
namespace Go.Proofs.Ytbbhhlnbjgigaaa.TagOnceP
open TagP

def sl (zs : List Int) (j : Nat) : Int := zs.getD j 0 % 8
theorem sl_bd (zs : List Int) (j : Nat) : 0 ≤ sl zs j ∧ sl zs j < 8 := by unfold sl; omega
/-- The word that is given out in round j, the last stamp ahead of all being l. -/
def wd (zs : List Int) (l : Int) (j : Nat) : Int := (l + 1 + j) * 256 + sl zs j
/-- The book's words behind i rounds. -/
def fN (zs : List Int) (l : Int) : Nat → Nat → Int
  | 0 => fun _ => 0
  | i + 1 => setF (fN zs l i) (sl zs i).toNat (wd zs l i)
theorem wd_div (zs : List Int) (l : Int) (j : Nat) : wd zs l j / 256 = l + 1 + j ∧ wd zs l j % 256 = sl zs j := by
  have := sl_bd zs j
  unfold wd
  omega
theorem wd_good (zs : List Int) (l : Int) (j : Nat) (h0 : 0 ≤ l) (h : l + 1 + j ≤ 72057594037927935) : goodB (l + 1 + j) (sl zs j) = true := by
  have := sl_bd zs j
  rw [good_iff]
  omega
theorem wd_word (zs : List Int) (l : Int) (j : Nat) (h0 : 0 ≤ l) (h : l + 1 + j ≤ 72057594037927935) : wordI (l + 1 + j) (sl zs j) = wd zs l j := by
  unfold wordI
  rw [if_pos (wd_good zs l j h0 h)]
  rfl
theorem wd_lt (zs : List Int) (l : Int) (j : Nat) : wd zs l j < wd zs l (j + 1) := by
  have := sl_bd zs j
  have := sl_bd zs (j + 1)
  unfold wd
  omega
theorem wd_bd (zs : List Int) (l : Int) (j : Nat) (h0 : 0 ≤ l) (h : l + 1 + j ≤ 72057594037927935) : 0 ≤ wd zs l j ∧ wd zs l j ≤ 18446744073709551615 := by
  have := sl_bd zs j
  unfold wd
  omega
/-- Was a place that had its word in round k given another one in a round below m? -/
def later (zs : List Int) (k : Nat) : Nat → Bool
  | 0 => false
  | m + 1 => later zs k m || (decide (k < m) && decide (sl zs m = sl zs k))
theorem later_le (zs : List Int) (k m : Nat) (h : m ≤ k + 1) : later zs k m = false := by
  induction m with
  | zero => rfl
  | succ m ih =>
    unfold later
    rw [ih (by omega)]
    have : ¬ k < m := by omega
    simp [this]
theorem later_step (zs : List Int) (k m : Nat) (h : k < m) : later zs k (m + 1) = (later zs k m || decide (sl zs m = sl zs k)) := by
  rw [later]
  simp [h]
theorem toNat_inj {a b : Int} (ha : 0 ≤ a) (hb : 0 ≤ b) (h : a.toNat = b.toNat) : a = b := by omega
theorem fN_zero (zs : List Int) (l : Int) (p : Nat) (i : Nat) : fN zs l i p = 0 ∨ ∃ j, j < i ∧ fN zs l i p = wd zs l j := by
  induction i with
  | zero => exact .inl rfl
  | succ i ih =>
    unfold fN setF
    split
    · exact .inr ⟨i, by omega, rfl⟩
    · rcases ih with h | ⟨j, hj, h⟩
      · exact .inl h
      · exact .inr ⟨j, by omega, h⟩
theorem wd_inj (zs : List Int) (l : Int) (j k : Nat) (h : wd zs l j = wd zs l k) : j = k := by
  have h1 := wd_div zs l j
  have h2 := wd_div zs l k
  rw [h] at h1
  omega
/-- The word of round k is live behind i rounds just if its place had no later one. -/
theorem fN_live (zs : List Int) (l : Int) (k i : Nat) (h : k < i) : (fN zs l i (sl zs k).toNat = wd zs l k) ↔ later zs k i = false := by
  induction i with
  | zero => omega
  | succ i ih =>
    by_cases hk : k = i
    · subst hk
      rw [later_le zs k (k + 1) (Nat.le_refl _)]
      simp [fN, setF]
    · have hlt : k < i := by omega
      rw [later_step zs k i hlt]
      unfold fN setF
      by_cases he : sl zs i = sl zs k
      · rw [if_pos (by rw [he])]
        simp only [he, decide_true, Bool.or_true]
        constructor
        · intro h1; exact absurd (wd_inj zs l i k h1) (by omega)
        · intro h1; cases h1
      · have hne : ¬ (sl zs k).toNat = (sl zs i).toNat := fun e => he (toNat_inj (sl_bd zs i).1 (sl_bd zs k).1 e.symm)
        rw [if_neg hne, ih hlt]
        simp [he]
def given (zs : List Int) (l : Int) (i : Nat) : List Int := (List.range i).map (wd zs l)
theorem given_snoc (zs : List Int) (l : Int) (i : Nat) : given zs l (i + 1) = given zs l i ++ [wd zs l i] := by simp [given, List.range_succ]
theorem given_length (zs : List Int) (l : Int) (i : Nat) : (given zs l i).length = i := by simp [given]
theorem given_get (zs : List Int) (l : Int) (i j : Nat) (h : j < i) : (given zs l i).getD j 0 = wd zs l j := by simp [given, h]
end Go.Proofs.Ytbbhhlnbjgigaaa.TagOnceP
