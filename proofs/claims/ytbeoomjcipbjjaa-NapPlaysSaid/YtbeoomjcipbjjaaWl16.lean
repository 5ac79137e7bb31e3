/- The law WheelJust in plain Lean: timers one a place, and what rings at each tick. -/
import Derived.Test.YtbeoomjcipbjjaaWl15
namespace Go.Proofs.Ytbeoomjcipbjjaa
open Go.RowKit
set_option linter.unusedVariables false

/-- i timers are set, one a place, none has rung. -/
def sJ (a : Int) (kk : Nat → Int) (i : Nat) : TS := ⟨a, i, fun p => if p < i then a + kk p else 0, fun p => if p < i then (p : Int) + 1 else 0⟩
theorem sJ_zero (a : Int) (kk : Nat → Int) : newS a = sJ a kk 0 := by
  unfold newS sJ; congr 1
theorem sJ_set (a : Int) (kk : Nat → Int) (hk : ∀ p, 1 ≤ kk p ∧ kk p ≤ 9000) (i : Nat) (hi : i < 64) : setE (sJ a kk i) i (a + kk i) = 0 ∧ setS (sJ a kk i) i (a + kk i) = sJ a kk (i + 1) := by
  have h1 : hasB (sJ a kk i) i = false := by
    rw [hasB_at _ _ hi]
    have : (sJ a kk i).no i = 0 := if_neg (by omega)
    simp [this]
  have h2 : setE (sJ a kk i) i (a + kk i) = 0 := by
    unfold setE
    rw [if_pos (by omega), if_neg (by show ¬ a + kk i ≤ a; have := hk i; omega), h1]; rfl
  refine ⟨h2, ?_⟩
  unfold setS
  rw [if_pos h2]
  unfold setT sJ
  congr 1
  · funext p
    show updT _ i (a + kk i) p = _
    unfold updT
    by_cases e : p = i
    · subst e; simp
    · rw [if_neg e]
      show (if p < i then a + kk p else 0) = _
      by_cases h : p < i
      · rw [if_pos h, if_pos (by omega)]
      · rw [if_neg h, if_neg (by omega)]
  · funext p
    show updT _ i ((i : Int) + 1) p = _
    unfold updT
    by_cases e : p = i
    · subst e; simp
    · rw [if_neg e]
      show (if p < i then (p : Int) + 1 else 0) = _
      by_cases h : p < i
      · rw [if_pos h, if_pos (by omega)]
      · rw [if_neg h, if_neg (by omega)]
/-- Behind t turns. -/
def TJ (a : Int) (kk : Nat → Int) (n : Nat) (t : Int) : TS := ⟨a + t, n, fun p => if p < n ∧ t < kk p then a + kk p else 0, fun p => if p < n ∧ t < kk p then (p : Int) + 1 else 0⟩
theorem TJ_zero (a : Int) (kk : Nat → Int) (hk : ∀ p, 1 ≤ kk p ∧ kk p ≤ 9000) (n : Nat) : sJ a kk n = TJ a kk n 0 := by
  unfold sJ TJ
  congr 1
  · omega
  · funext p; have := hk p; simp only [show (0 : Int) < kk p by omega, and_true]
  · funext p; have := hk p; simp only [show (0 : Int) < kk p by omega, and_true]
theorem TJ_turn (a : Int) (ha : 0 ≤ a) (kk : Nat → Int) (n : Nat) (t : Int) (ht : 0 ≤ t) : turnT (TJ a kk n t) = TJ a kk n (t + 1) := by
  have hd : ∀ p, ((TJ a kk n t).du p = a + t + 1) ↔ (p < n ∧ kk p = t + 1) := fun p => by
    show (if p < n ∧ t < kk p then a + kk p else 0) = _ ↔ _
    by_cases h : p < n ∧ t < kk p
    · rw [if_pos h]
      exact ⟨fun e => ⟨h.1, by omega⟩, fun e => by omega⟩
    · rw [if_neg h]
      exact ⟨fun e => by omega, fun e => absurd ⟨e.1, by omega⟩ h⟩
  have key : ∀ (p : Nat) (x : Int), (if (TJ a kk n t).du p = a + t + 1 then 0 else (if p < n ∧ t < kk p then x else 0)) = if p < n ∧ t + 1 < kk p then x else 0 := fun p x => by
    by_cases h : p < n ∧ kk p = t + 1
    · rw [if_pos ((hd p).2 h), if_neg (by omega)]
    · rw [if_neg (fun e => h ((hd p).1 e))]
      by_cases h2 : p < n ∧ t < kk p
      · rw [if_pos h2, if_pos ⟨h2.1, by have := fun e => h ⟨h2.1, e⟩; omega⟩]
      · rw [if_neg h2, if_neg (fun e => h2 ⟨e.1, by omega⟩)]
  unfold turnT
  show TS.mk (a + t + 1) n _ _ = TS.mk (a + (t + 1)) n _ _
  congr 1
  · omega
  · funext p; exact key p _
  · funext p; exact key p _
/-- What rings next, in plain words. -/
structure DueJ (kk : Nat → Int) (n : Nat) (t : Int) (l : List Int) : Prop where
  at_ : ∀ i, i < l.length → ∃ p : Nat, l.getD i 0 = p ∧ p < n ∧ kk p = t + 1
  up : ∀ i j, i < j → j < l.length → l.getD i 0 < l.getD j 0
  all : ∀ p : Nat, p < n → kk p = t + 1 → (p : Int) ∈ l
theorem TJ_due (a : Int) (ha : 0 ≤ a) (kk : Nat → Int) (n : Nat) (hn : n ≤ 64) (t : Int) (ht : 0 ≤ t) (l : List Int) (h : IsDue (TJ a kk n t) l) : DueJ kk n t l := by
  have hno : ∀ p, (TJ a kk n t).no p = if p < n ∧ t < kk p then (p : Int) + 1 else 0 := fun _ => rfl
  have hdu : ∀ p, (TJ a kk n t).du p = if p < n ∧ t < kk p then a + kk p else 0 := fun _ => rfl
  have hnow : (TJ a kk n t).now = a + t := rfl
  have hm : ∀ x ∈ l, ∃ p : Nat, x = p ∧ p < n ∧ kk p = t + 1 := fun x hx => by
    obtain ⟨p, h1, h2, h3, h4⟩ := (h.2 x).1 hx
    rw [hno] at h3
    rw [hdu, hnow] at h4
    by_cases hq : p < n ∧ t < kk p
    · rw [if_pos hq] at h4; exact ⟨p, h1, hq.1, by omega⟩
    · rw [if_neg hq] at h3; exact absurd rfl h3
  refine ⟨fun i hi => ?_, fun i j hij hj => ?_, fun p hp hk => ?_⟩
  · have : l.getD i 0 = l[i] := by simp [List.getD, hi]
    rw [this]
    exact hm _ (List.getElem_mem hi)
  · have hi : i < l.length := by omega
    have e1 : l.getD i 0 = l[i] := by simp [List.getD, hi]
    have e2 : l.getD j 0 = l[j] := by simp [List.getD, hj]
    have hp := List.pairwise_iff_getElem.1 h.1 i j hi hj hij
    obtain ⟨p, h1, h2, h3⟩ := hm _ (List.getElem_mem hi)
    obtain ⟨q, k1, k2, k3⟩ := hm _ (List.getElem_mem hj)
    rw [e1, e2]
    rw [h1, k1] at hp ⊢
    rw [hno, hno, if_pos (by simp; omega), if_pos (by simp; omega)] at hp
    simp at hp
    omega
  · refine (h.2 p).2 ⟨p, rfl, by omega, ?_, ?_⟩
    · rw [hno, if_pos ⟨hp, by omega⟩]; omega
    · rw [hdu, if_pos ⟨hp, by omega⟩, hnow]; omega
/-- Which places have rung: those of the first t ticks, and the first i of l. -/
def RJ (kk : Nat → Int) (n : Nat) (t : Int) (l : List Int) (i p : Nat) : Bool := decide (p < n ∧ (kk p ≤ t ∨ (p : Int) ∈ l.take i))
theorem RJ_no {kk : Nat → Int} {n : Nat} {t : Int} {l : List Int} (h : DueJ kk n t l) {i p : Nat} (hi : i < l.length) (hp : l.getD i 0 = p) : RJ kk n t l i p = false := by
  obtain ⟨q, h1, h2, h3⟩ := h.at_ i hi
  have : q = p := by rw [hp] at h1; omega
  subst this
  simp only [RJ, decide_eq_false_iff_not, not_and, not_or]
  refine fun _ => ⟨by omega, fun hm => ?_⟩
  obtain ⟨j, hj, e⟩ := List.mem_iff_getElem.1 hm
  have hj' : j < i ∧ j < l.length := by rw [List.length_take] at hj; omega
  have := h.up j i hj'.1 hi
  rw [hp] at this
  have e2 : l.getD j 0 = q := by
    rw [← e]; simp [List.getD, hj'.2]
  omega
theorem RJ_step {kk : Nat → Int} {n : Nat} {t : Int} {l : List Int} (h : DueJ kk n t l) {i p : Nat} (hi : i < l.length) (hp : l.getD i 0 = p) (q : Nat) : (if q = p then true else RJ kk n t l i q) = RJ kk n t l (i + 1) q := by
  obtain ⟨r, h1, h2, h3⟩ := h.at_ i hi
  have : r = p := by rw [hp] at h1; omega
  subst this
  unfold RJ
  rw [take_snoc l i hi, hp]
  by_cases e : q = r
  · subst e; simp [h2]
  · rw [if_neg e]
    have e' : ¬ ((q : Int) = r) := by omega
    simp [e']
theorem RJ_end {kk : Nat → Int} {n : Nat} {t : Int} {l : List Int} (h : DueJ kk n t l) (q : Nat) : RJ kk n t l l.length q = RJ kk n (t + 1) [] 0 q := by
  unfold RJ
  rw [List.take_length]
  simp only [List.take_nil, List.not_mem_nil, or_false, decide_eq_decide]
  refine ⟨fun ⟨h1, h2⟩ => ⟨h1, ?_⟩, fun ⟨h1, h2⟩ => ⟨h1, ?_⟩⟩
  · rcases h2 with h2 | h2
    · omega
    · obtain ⟨j, hj, e⟩ := List.mem_iff_getElem.1 h2
      obtain ⟨p, e1, _, e3⟩ := h.at_ j hj
      have e2 : l.getD j 0 = q := by rw [← e]; simp [List.getD, hj]
      have : p = q := by omega
      subst this; omega
  · by_cases h3 : kk q ≤ t
    · exact .inl h3
    · exact .inr (h.all q h1 (by omega))
def mxJ (kk : Nat → Int) : Nat → Int
  | 0 => 0
  | i + 1 => max (mxJ kk i) (kk i)
theorem mxJ_b (kk : Nat → Int) (hk : ∀ p, 1 ≤ kk p ∧ kk p ≤ 9000) : ∀ i, 0 ≤ mxJ kk i ∧ mxJ kk i ≤ 9000 ∧ ∀ p, p < i → kk p ≤ mxJ kk i
  | 0 => ⟨Int.le_refl _, by show (0 : Int) ≤ _; omega, fun p hp => by omega⟩
  | i + 1 => by
    obtain ⟨h1, h2, h3⟩ := mxJ_b kk hk i
    have := hk i
    show 0 ≤ max (mxJ kk i) (kk i) ∧ max (mxJ kk i) (kk i) ≤ 9000 ∧ ∀ p, p < i + 1 → kk p ≤ max (mxJ kk i) (kk i)
    refine ⟨by omega, by omega, fun p hp => ?_⟩
    by_cases e : p = i
    · subst e; omega
    · have := h3 p (by omega); omega
theorem TJ_all (a : Int) (kk : Nat → Int) (n : Nat) (t : Int) (ht : ∀ p, p < n → kk p ≤ t) (l : List Int) (h : IsAll (TJ a kk n t) l) : l = [] := by
  cases l with
  | nil => rfl
  | cons x r =>
    obtain ⟨p, h1, h2, h3⟩ := (h.2 x).1 (by simp)
    have : (if p < n ∧ t < kk p then (p : Int) + 1 else 0) ≠ 0 := h3
    rw [if_neg (fun e => by have := ht p e.1; omega)] at this
    exact absurd rfl this
/-- The number of ticks of a place. -/
def kkT (zs : List Int) (p : Nat) : Int := zs.getD p 0 % 9000 + 1
theorem kkT_b (zs : List Int) (p : Nat) : 1 ≤ kkT zs p ∧ kkT zs p ≤ 9000 := by unfold kkT; omega
end Go.Proofs.Ytbeoomjcipbjjaa
