/- Plain laws of chapter 24 (web): a wait that closes no ring makes none; where there is none each chain ends. -/
import Derived.Test.YtkkobbomipcpoaaWebE
namespace Go.Proofs.Ytkkobbomipcpoaa
set_option linter.unusedVariables false
/-- There is no ring. -/
def Open (f : Int → Int) : Prop := ∀ t, t ≠ -1 → ∀ j, it f t (j + 1) ≠ t
section
variable {f f' : Int → Int}
theorem it_add (f : Int → Int) (t : Int) (a : Nat) : ∀ b, it f t (a + b) = it f (it f t a) b
  | 0 => rfl
  | b + 1 => by show f (it f t (a + b)) = f (it f (it f t a) b); rw [it_add f t a b]
theorem it_one (f : Int → Int) (k : Nat) (h1 : f (-1) = -1) : it f (-1) k = -1 := by
  induction k with
  | zero => rfl
  | succ k ih => show f (it f (-1) k) = -1; rw [ih, h1]
/-- Some nexts become c, none of them one that is reached from c. -/
theorem Open.turn (h : Open f) (h1 : f (-1) = -1) (c : Int) (hf : ∀ x, f' x = f x ∨ f' x = c) (hc : ∀ k, f' (it f c k) = f (it f c k)) : Open f' := by
  have ec : ∀ k, it f' c k = it f c k := by
    intro k
    induction k with
    | zero => rfl
    | succ k ih => show f' (it f' c k) = f (it f c k); rw [ih, hc k]
  intro t ht j e
  by_cases hall : ∀ i, i ≤ j → f' (it f' t i) = f (it f' t i)
  · have : ∀ i, i ≤ j + 1 → it f' t i = it f t i := by
      intro i
      induction i with
      | zero => intro _; rfl
      | succ i ih => intro hi; show f' (it f' t i) = f (it f t i); rw [hall i (by omega), ih (by omega)]
    rw [this (j + 1) (by omega)] at e
    exact h t ht j e
  · have : ∃ i, i ≤ j ∧ f' (it f' t i) ≠ f (it f' t i) := by
      refine Classical.byContradiction fun hn => hall fun i hi => ?_
      exact Classical.byContradiction fun hne => hn ⟨i, hi, hne⟩
    obtain ⟨i, hi, hne⟩ := this
    have e1 : it f' t (i + 1) = c := (hf _).resolve_left hne
    have e2 : it f c (j - i) = t := by
      rw [← ec, ← e1, ← it_add, show i + 1 + (j - i) = j + 1 by omega, e]
    have e3 : it f c (j + 1) = c := by
      rw [← ec, show j + 1 = (j - i) + (i + 1) by omega, it_add, ec (j - i), e2, e1]
    by_cases hcn : c = -1
    · rw [hcn, it_one f _ h1] at e2
      exact ht e2.symm
    · exact h c hcn j e3
/-- Where there is no ring a chain ends with one that waits for nothing. -/
theorem First.open {t : Int} {k : Nat} (F : First f t k) (h : Open f) (ht : t ≠ -1) : it f t (k + 1) = -1 := by
  rcases F.stop with e | e | e
  · exact e
  · exact absurd e (h t ht k)
  · obtain ⟨i, hi, e2⟩ := mem_trail.1 e
    refine absurd ?_ (h (it f t (i + 1)) (fun en => F.no i hi (.inl en)) (k - i - 1))
    rw [← it_add, show i + 1 + (k - i - 1 + 1) = k + 1 by omega, e2]
end
namespace WebS
theorem ring_open {s : WebS} (h : Open s.next) : s.ring = -1 := by
  unfold ring
  refine ringI_no fun j hj => reach_no fun i hi => h _ (by omega) i
theorem closes_no {s : WebS} (ok : s.Ok) {t u : Int} (ht : s.th t = true) (hu : s.th u = true) (h : s.closes t u = false) : ∀ k, it s.next u k ≠ t := by
  unfold closes at h
  rw [ht, hu] at h
  simp only [Bool.true_and, Bool.or_eq_false_iff, decide_eq_false_iff_not] at h
  have htn : t ≠ -1 := by simp only [th, decide_eq_true_eq] at ht; omega
  intro k e
  cases k with
  | zero => exact h.1 e.symm
  | succ k =>
    have := (reach_iff (next_bd ok) s.next_neg u htn).2 ⟨k, e⟩
    rw [this] at h
    cases h.2
theorem next_setW (s : WebS) (i : Nat) (x y : Int) (t : Int) (ht : t ≠ (i : Int)) : (s.setW i x y).next t = s.next t := by
  unfold next lkOf jnOf owner th lo setW upd
  simp only
  by_cases h : 0 ≤ t ∧ t < (s.n : Int)
  · have : t.toNat ≠ i := by omega
    simp only [if_neg this]
  · have hd : decide (0 ≤ t ∧ t < (s.n : Int)) = false := decide_eq_false h
    simp [hd]
theorem next_setW_at (s : WebS) (i : Nat) (x y : Int) (hi : i < s.n) : (s.setW i x y).next i = if x ≠ -1 then s.owner x else y := by
  unfold next lkOf jnOf owner th lo setW upd
  simp [hi]
theorem open_setW {s : WebS} (h : Open s.next) (i : Nat) (x y : Int) (hi : i < s.n) (hc : ∀ k, it s.next (if x ≠ -1 then s.owner x else y) k ≠ (i : Int)) : Open (s.setW i x y).next := by
  refine h.turn s.next_neg (if x ≠ -1 then s.owner x else y) (fun t => ?_) (fun k => ?_)
  · by_cases ht : t = (i : Int)
    · right; rw [ht]; exact next_setW_at s i x y hi
    · left; exact next_setW s i x y t ht
  · exact next_setW s i x y _ (hc k)
theorem open_clear {s : WebS} (h : Open s.next) (i : Nat) (hi : i < s.n) : Open (s.setW i (-1) (-1)).next := by
  refine open_setW h i (-1) (-1) hi fun k => ?_
  rw [if_neg (by simp), it_one _ _ s.next_neg]
  omega
theorem next_setOw (s : WebS) (i : Nat) (b : Int) (t : Int) : (s.setOw i b).next t = s.next t ∨ ((s.setOw i b).next t = b ∧ s.lkOf t = i) := by
  by_cases hl : s.lkOf t = (i : Int)
  · by_cases hlo : s.lo (i : Int) = true
    · right
      refine ⟨?_, hl⟩
      have e1 : (s.setOw i b).lkOf t = s.lkOf t := rfl
      unfold next
      rw [e1, hl, if_pos (by omega)]
      have e2 : (s.setOw i b).lo (i : Int) = s.lo (i : Int) := rfl
      unfold owner
      rw [e2, if_pos hlo]
      simp [setOw, upd]
    · left
      have e1 : (s.setOw i b).lkOf t = s.lkOf t := rfl
      unfold next
      rw [e1, hl, if_pos (by omega), if_pos (by omega)]
      have e2 : (s.setOw i b).lo (i : Int) = s.lo (i : Int) := rfl
      unfold owner
      rw [e2, if_neg hlo, if_neg hlo]
  · left
    have e1 : (s.setOw i b).lkOf t = s.lkOf t := rfl
    have e2 : (s.setOw i b).jnOf t = s.jnOf t := rfl
    unfold next
    rw [e1, e2]
    split
    · rename_i hne
      unfold owner
      have e3 : (s.setOw i b).lo (s.lkOf t) = s.lo (s.lkOf t) := rfl
      rw [e3]
      split
      · rename_i hlo
        simp only [lo, decide_eq_true_eq] at hlo
        have : (s.lkOf t).toNat ≠ i := by omega
        simp [setOw, upd, this]
      · rfl
    · rfl
theorem open_setOw {s : WebS} (h : Open s.next) (i : Nat) (b : Int) (h1 : s.lkOf b = -1) (h2 : s.jnOf b = -1) : Open (s.setOw i b).next := by
  have hb : s.next b = -1 := by unfold next; rw [h1, h2]; simp
  refine h.turn s.next_neg b (fun t => ?_) (fun k => ?_)
  · rcases next_setOw s i b t with e | ⟨e, _⟩
    · exact .inl e
    · exact .inr e
  · have : it s.next b k = b ∨ it s.next b k = -1 := by
      cases k with
      | zero => exact .inl rfl
      | succ k =>
        right
        have := it_add s.next b 1 k
        rw [show 1 + k = k + 1 by omega] at this
        rw [this, show it s.next b 1 = -1 from hb, it_one _ _ s.next_neg]
    rcases next_setOw s i b (it s.next b k) with e | ⟨_, e⟩
    · exact e
    · exfalso
      rcases this with e2 | e2
      · rw [e2, h1] at e; omega
      · rw [e2] at e; simp [lkOf, th] at e
end WebS
theorem webS0_open (n m : Nat) : Open (webS0 n m).next := by
  intro t ht j e
  have h : ∀ x, (webS0 n m).next x = -1 := by
    intro x
    have h1 : (webS0 n m).lkOf x = -1 := by unfold WebS.lkOf; split <;> rfl
    have h2 : (webS0 n m).jnOf x = -1 := by unfold WebS.jnOf; split <;> rfl
    unfold WebS.next
    rw [h1, h2]
    rfl
  exact ht (e.symm.trans (h _))
end Go.Proofs.Ytkkobbomipcpoaa
