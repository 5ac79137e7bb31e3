/- Plain laws of chapter 24 (web): a chain is followed till it stops; it stops soon; what is reached is met before. -/
import Derived.Test.YtkkobbomipcpoaaWeb5
namespace Go.Proofs.Ytkkobbomipcpoaa
set_option linter.unusedVariables false
def it (f : Int → Int) (t : Int) : Nat → Int
  | 0 => t
  | k + 1 => f (it f t k)
def trail (f : Int → Int) (t : Int) (k : Nat) : List Int := (List.range k).map fun i => it f t (i + 1)
/-- Behind k threads of the chain it goes no further. -/
def Stop (f : Int → Int) (t : Int) (k : Nat) : Prop := it f t (k + 1) = -1 ∨ it f t (k + 1) = t ∨ it f t (k + 1) ∈ trail f t k
def NoStop (f : Int → Int) (t : Int) (k : Nat) : Prop := ∀ j, j < k → ¬ Stop f t j
structure First (f : Int → Int) (t : Int) (k : Nat) : Prop where
  stop : Stop f t k
  no : NoStop f t k
section
variable {f : Int → Int} {t : Int}
theorem trail_succ (k : Nat) : trail f t (k + 1) = trail f t k ++ [it f t (k + 1)] := by simp [trail, List.range_succ]
theorem trail_length (k : Nat) : (trail f t k).length = k := by simp [trail]
theorem mem_trail {x : Int} {k : Nat} : x ∈ trail f t k ↔ ∃ i, i < k ∧ it f t (i + 1) = x := by simp [trail]
theorem First.uniq {k k' : Nat} (h : First f t k) (h' : First f t k') : k = k' := by
  rcases Nat.lt_trichotomy k k' with hl | hl | hl
  · exact absurd h.stop (h'.no k hl)
  · exact hl
  · exact absurd h'.stop (h.no k' hl)
theorem NoStop.up {k : Nat} (h : NoStop f t k) (h' : ¬ Stop f t k) : NoStop f t (k + 1) := fun j hj => by
  by_cases hk : j = k
  · rw [hk]; exact h'
  · exact h j (by omega)
theorem NoStop.down {k : Nat} (h : NoStop f t (k + 1)) : NoStop f t k := fun j hj => h j (by omega)
theorem NoStop.nodup : ∀ {k : Nat}, NoStop f t k → (trail f t k).Nodup
  | 0, _ => by simp [trail]
  | k + 1, h => by
    rw [trail_succ, List.nodup_append]
    refine ⟨h.down.nodup, by simp, fun x hx y hy e => ?_⟩
    simp at hy
    subst hy
    subst e
    exact h k (by omega) (.inr (.inr hx))
theorem pigeon : ∀ (n : Nat) (l : List Int), l.Nodup → (∀ x ∈ l, 0 ≤ x ∧ x < (n : Int)) → l.length ≤ n
  | 0, [], _, _ => by simp
  | 0, x :: _, _, h => by have := h x (by simp); omega
  | n + 1, l, hd, h => by
    by_cases hm : (n : Int) ∈ l
    · have := pigeon n (l.erase (n : Int)) (hd.erase _) (fun x hx => by
        have h1 := (hd.mem_erase_iff).1 hx
        have h2 := h x h1.2
        have h3 := h1.1
        omega)
      rw [List.length_erase_of_mem hm] at this
      omega
    · have := pigeon n l hd (fun x hx => by
        have h2 := h x hx
        have h3 : x ≠ (n : Int) := fun e => hm (e ▸ hx)
        omega)
      omega
variable {n : Nat}
theorem it_bd (hf : ∀ x, -1 ≤ f x ∧ f x < (n : Int)) (k : Nat) : -1 ≤ it f t (k + 1) ∧ it f t (k + 1) < (n : Int) := hf _
theorem NoStop.le (hf : ∀ x, -1 ≤ f x ∧ f x < (n : Int)) {k : Nat} (h : NoStop f t k) : k ≤ n := by
  have := pigeon n _ h.nodup (fun x hx => by
    obtain ⟨i, hi, rfl⟩ := mem_trail.1 hx
    have h1 := it_bd (t := t) hf i
    have h2 : it f t (i + 1) ≠ -1 := fun e => h i hi (.inl e)
    omega)
  rwa [trail_length] at this
theorem noStop_or (k : Nat) : NoStop f t k ∨ ∃ j, First f t j := by
  induction k with
  | zero => exact .inl fun j hj => by omega
  | succ k ih =>
    rcases ih with h | h
    · by_cases hs : Stop f t k
      · exact .inr ⟨k, hs, h⟩
      · exact .inl (h.up hs)
    · exact .inr h
theorem exists_first (hf : ∀ x, -1 ≤ f x ∧ f x < (n : Int)) : ∃ k, k ≤ n ∧ First f t k := by
  rcases noStop_or (f := f) (t := t) (n + 1) with h | ⟨j, h⟩
  · have := h.le hf
    omega
  · exact ⟨j, h.no.le hf, h⟩
theorem First.closed (h1 : f (-1) = -1) {k : Nat} (h : First f t k) (j : Nat) : it f t (j + 1) = -1 ∨ ∃ i, i ≤ k ∧ it f t (i + 1) = it f t (j + 1) := by
  induction j with
  | zero => exact .inr ⟨0, by omega, rfl⟩
  | succ j ih =>
    rcases ih with e | ⟨i, hi, e⟩
    · exact .inl (by show f (it f t (j + 1)) = -1; rw [e, h1])
    · have e2 : it f t (i + 1 + 1) = it f t (j + 1 + 1) := by show f (it f t (i + 1)) = f (it f t (j + 1)); rw [e]
      by_cases hk : i = k
      · subst hk
        rcases h.stop with s | s | s
        · exact .inl (by rw [← e2]; show f (it f t (i + 1)) = -1; rw [s, h1])
        · exact .inr ⟨0, by omega, by rw [← e2]; show f t = f (it f t (i + 1)); rw [s]⟩
        · obtain ⟨q, hq, e3⟩ := mem_trail.1 s
          exact .inr ⟨q + 1, by omega, by rw [← e2]; show f (it f t (q + 1)) = f (it f t (i + 1)); rw [e3]⟩
      · exact .inr ⟨i + 1, by omega, e2⟩
/-- A thread is reached from another one. -/
def reach (f : Int → Int) (n : Nat) (u t : Int) : Bool := decide (∃ j, j < n + 1 ∧ it f u (j + 1) = t)
theorem reach_iff (hf : ∀ x, -1 ≤ f x ∧ f x < (n : Int)) (h1 : f (-1) = -1) (u : Int) (ht : t ≠ -1) : reach f n u t = true ↔ ∃ j, it f u (j + 1) = t := by
  simp only [reach, decide_eq_true_eq]
  constructor
  · rintro ⟨j, _, h⟩; exact ⟨j, h⟩
  · rintro ⟨j, h⟩
    obtain ⟨k, hk, F⟩ := exists_first (t := u) hf
    rcases F.closed h1 j with e | ⟨i, hi, e⟩
    · exact absurd (h.symm.trans e) ht
    · exact ⟨i, by omega, e.trans h⟩
theorem First.reach (hf : ∀ x, -1 ≤ f x ∧ f x < (n : Int)) (h1 : f (-1) = -1) {k : Nat} {u : Int} (F : First f u k) (ht : t ≠ -1) : reach f n u t = decide (t ∈ trail f u (k + 1)) := by
  rw [Bool.eq_iff_iff, reach_iff hf h1 u ht, decide_eq_true_eq, mem_trail]
  constructor
  · rintro ⟨j, h⟩
    rcases F.closed h1 j with e | ⟨i, hi, e⟩
    · exact absurd (h.symm.trans e) ht
    · exact ⟨i, by omega, e.trans h⟩
  · rintro ⟨i, _, h⟩; exact ⟨i, h⟩
/-- It comes back to itself. -/
theorem First.self (hf : ∀ x, -1 ≤ f x ∧ f x < (n : Int)) (h1 : f (-1) = -1) {k : Nat} (F : First f t k) (ht : t ≠ -1) : Proofs.Ytkkobbomipcpoaa.reach f n t t = decide (it f t (k + 1) = t) := by
  rw [F.reach hf h1 ht, trail_succ]
  have hno : t ∉ trail f t k := fun hm => by
    obtain ⟨i, hi, e⟩ := mem_trail.1 hm
    exact F.no i hi (.inr (.inl e))
  rw [decide_eq_decide]
  constructor
  · intro hm
    rcases List.mem_append.1 hm with hm | hm
    · exact absurd hm hno
    · simp at hm; exact hm.symm
  · intro e
    simp [e]
/-- A thread that is not the first is reached before the chain stops. -/
theorem First.other (hf : ∀ x, -1 ≤ f x ∧ f x < (n : Int)) (h1 : f (-1) = -1) {k : Nat} {u : Int} (F : First f u k) (ht : t ≠ -1) (hu : t ≠ u) : Proofs.Ytkkobbomipcpoaa.reach f n u t = decide (t ∈ trail f u k) := by
  rw [F.reach hf h1 ht, trail_succ, decide_eq_decide]
  constructor
  · intro hm
    rcases List.mem_append.1 hm with hm | hm
    · exact hm
    · simp at hm
      rcases F.stop with s | s | s
      · exact absurd (hm.trans s) ht
      · exact absurd (hm.trans s) hu
      · exact hm ▸ s
  · intro hm
    exact List.mem_append_left _ hm
end
namespace WebS
theorem next_bd {s : WebS} (h : s.Ok) (t : Int) : -1 ≤ s.next t ∧ s.next t < (s.n : Int) := by
  unfold next
  split
  · unfold owner
    split
    · exact h.ow _
    · omega
  · unfold jnOf
    split
    · exact h.jn _
    · omega
theorem next_neg (s : WebS) : s.next (-1) = -1 := by simp [next, lkOf, jnOf, th]
end WebS
end Go.Proofs.Ytkkobbomipcpoaa
