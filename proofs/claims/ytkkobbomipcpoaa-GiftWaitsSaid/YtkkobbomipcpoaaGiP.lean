/- Plain laws of chapter 25 (gift): a road goes through each thread once; who is on it is who is reached. -/
import Derived.Test.YtkkobbomipcpoaaGi
namespace Go.Proofs.Ytkkobbomipcpoaa
set_option linter.unusedVariables false
def road (f : Int → Int) (t : Int) (k : Nat) : List Int := (List.range k).map (it f t)
/-- Behind k threads the road ends. -/
def End (n : Nat) (f : Int → Int) (t : Int) (k : Nat) : Prop := ¬ (0 ≤ it f t k ∧ it f t k < (n : Int)) ∨ it f t k ∈ road f t k
def NoEnd (n : Nat) (f : Int → Int) (t : Int) (k : Nat) : Prop := ∀ j, j < k → ¬ End n f t j
structure Full (n : Nat) (f : Int → Int) (t : Int) (k : Nat) : Prop where
  stop : End n f t k
  no : NoEnd n f t k
section
variable {n : Nat} {f : Int → Int} {t : Int}
theorem road_succ (k : Nat) : road f t (k + 1) = road f t k ++ [it f t k] := by simp [road, List.range_succ]
theorem road_length (k : Nat) : (road f t k).length = k := by simp [road]
theorem mem_road {x : Int} {k : Nat} : x ∈ road f t k ↔ ∃ i, i < k ∧ it f t i = x := by simp [road]
theorem NoEnd.up {k : Nat} (h : NoEnd n f t k) (h' : ¬ End n f t k) : NoEnd n f t (k + 1) := fun j hj => by
  by_cases hk : j = k
  · rw [hk]; exact h'
  · exact h j (by omega)
theorem NoEnd.down {k : Nat} (h : NoEnd n f t (k + 1)) : NoEnd n f t k := fun j hj => h j (by omega)
theorem NoEnd.bd {k : Nat} (h : NoEnd n f t k) {j : Nat} (hj : j < k) : 0 ≤ it f t j ∧ it f t j < (n : Int) := Classical.byContradiction fun hn => h j hj (.inl hn)
theorem NoEnd.nodup : ∀ {k : Nat}, NoEnd n f t k → (road f t k).Nodup
  | 0, _ => by simp [road]
  | k + 1, h => by
    rw [road_succ, List.nodup_append]
    refine ⟨h.down.nodup, by simp, fun x hx y hy e => ?_⟩
    simp at hy
    subst hy
    subst e
    exact h k (by omega) (.inr hx)
theorem NoEnd.le {k : Nat} (h : NoEnd n f t k) : k ≤ n := by
  have := pigeon n _ h.nodup (fun x hx => by
    obtain ⟨i, hi, rfl⟩ := mem_road.1 hx
    exact h.bd hi)
  rwa [road_length] at this
theorem noEnd_or (k : Nat) : NoEnd n f t k ∨ ∃ j, Full n f t j := by
  induction k with
  | zero => exact .inl fun j hj => by omega
  | succ k ih =>
    rcases ih with h | h
    · by_cases hs : End n f t k
      · exact .inr ⟨k, hs, h⟩
      · exact .inl (h.up hs)
    · exact .inr h
theorem exists_full (n : Nat) (f : Int → Int) (t : Int) : ∃ k, k ≤ n ∧ Full n f t k := by
  rcases noEnd_or (n := n) (f := f) (t := t) (n + 1) with h | ⟨j, h⟩
  · have := h.le; omega
  · exact ⟨j, h.no.le, h⟩
theorem Full.uniq {k k' : Nat} (h : Full n f t k) (h' : Full n f t k') : k = k' := by
  rcases Nat.lt_trichotomy k k' with hl | hl | hl
  · exact absurd h.stop (h'.no k hl)
  · exact hl
  · exact absurd h'.stop (h.no k' hl)
/-- All that is reached is on the road. -/
theorem Full.closed (hf : ∀ x, ¬ (0 ≤ x ∧ x < (n : Int)) → f x = -1) {k : Nat} (h : Full n f t k) (j : Nat) : ¬ (0 ≤ it f t j ∧ it f t j < (n : Int)) ∨ it f t j ∈ road f t k := by
  induction j with
  | zero =>
    by_cases hk : k = 0
    · subst hk
      rcases h.stop with e | e
      · exact .inl e
      · simp [road] at e
    · exact .inr (mem_road.2 ⟨0, by omega, rfl⟩)
  | succ j ih =>
    rcases ih with e | e
    · left
      show ¬ (0 ≤ f (it f t j) ∧ f (it f t j) < (n : Int))
      rw [hf _ e]
      omega
    · obtain ⟨i, hi, e⟩ := mem_road.1 e
      have e2 : it f t (i + 1) = it f t (j + 1) := by show f (it f t i) = f (it f t j); rw [e]
      by_cases hk : i + 1 < k
      · exact .inr (mem_road.2 ⟨i + 1, hk, e2⟩)
      · have : i + 1 = k := by omega
        rw [← e2, this]
        exact h.stop
/-- A thread gives to another one. -/
def gives (n : Nat) (f : Int → Int) (u t : Int) : Bool := decide (∃ j, j < n + 1 ∧ it f u j = t)
theorem gives_iff (hf : ∀ x, ¬ (0 ≤ x ∧ x < (n : Int)) → f x = -1) (u : Int) (ht : 0 ≤ t ∧ t < (n : Int)) : gives n f u t = true ↔ ∃ j, it f u j = t := by
  simp only [gives, decide_eq_true_eq]
  constructor
  · rintro ⟨j, _, h⟩; exact ⟨j, h⟩
  · rintro ⟨j, h⟩
    obtain ⟨k, hk, F⟩ := exists_full n f u
    rcases F.closed hf j with e | e
    · rw [h] at e; exact absurd ht e
    · obtain ⟨i, hi, e2⟩ := mem_road.1 e
      exact ⟨i, by omega, e2.trans h⟩
theorem Full.gives (hf : ∀ x, ¬ (0 ≤ x ∧ x < (n : Int)) → f x = -1) {k : Nat} {u : Int} (F : Full n f u k) (ht : 0 ≤ t ∧ t < (n : Int)) : Proofs.Ytkkobbomipcpoaa.gives n f u t = decide (t ∈ road f u k) := by
  rw [Bool.eq_iff_iff, gives_iff hf u ht, decide_eq_true_eq, mem_road]
  constructor
  · rintro ⟨j, h⟩
    rcases F.closed hf j with e | e
    · rw [h] at e; exact absurd ht e
    · obtain ⟨i, hi, e2⟩ := mem_road.1 e
      exact ⟨i, hi, e2.trans h⟩
  · rintro ⟨i, _, h⟩; exact ⟨i, h⟩
end
theorem GS.next_out (s : GS) (x : Int) (h : ¬ (0 ≤ x ∧ x < (s.n : Int))) : s.next x = -1 := by
  unfold GS.next
  rw [if_neg h]
end Go.Proofs.Ytkkobbomipcpoaa
