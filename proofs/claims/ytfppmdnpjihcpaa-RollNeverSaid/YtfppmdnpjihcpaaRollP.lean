/- Ids that were given out, and those that are gone: what a roll keeps of them. No program. -/
import Derived.Test.YtfppmdnpjihcpaaRoll
import Derived.Test.YtfppmdnpjihcpaaKit5
namespace Go.Proofs.Ytfppmdnpjihcpaa
open Go.RowKit LinesP

/-- Ids given, gone or not: each is there just if it is not gone; no two are the same; a place's generation is no less than those given. -/
structure Ids (m : Nat) (tk : Nat → Bool) (gn : Nat → Int) (gs : List (Nat × Int)) (dn : List Bool) : Prop where
  len : dn.length = gs.length
  slot : ∀ (k : Nat) (p : Nat × Int), gs[k]? = some p → p.1 < m ∧ p.2 ≤ gn p.1 ∧ 0 ≤ p.2 ∧ p.2 ≤ 4294967295
  has : ∀ (k : Nat) (p : Nat × Int) (b : Bool), gs[k]? = some p → dn[k]? = some b → hasB m tk gn p.1 p.2 = !b
  ne : ∀ (j k : Nat) (p : Nat × Int), gs[j]? = some p → gs[k]? = some p → j = k

theorem hasB_nat {m : Nat} {tk : Nat → Bool} {gn : Nat → Int} {i : Nat} {q : Int} (hi : i < m) : hasB m tk gn i q = (tk i && decide (gn i = q)) := by
  unfold hasB
  rw [decide_eq_true (show (0 : Int) ≤ i ∧ (i : Int) < m by omega)]
  simp

theorem Ids.nil (m : Nat) (tk : Nat → Bool) (gn : Nat → Int) : Ids m tk gn [] [] := ⟨rfl, by simp, by simp, by simp⟩

/-- An id goes: it is gone, the others are as they were. -/
theorem Ids.free {m : Nat} {tk : Nat → Bool} {gn : Nat → Int} {gs : List (Nat × Int)} {dn : List Bool} (h : Ids m tk gn gs dn) {k : Nat} {p : Nat × Int} (hk : gs[k]? = some p) (hb : hasB m tk gn p.1 p.2 = true) :
    Ids m (upd tk p.1 false) gn gs (dn.set k true) := by
  have hp := h.slot k p hk
  rw [hasB_nat hp.1] at hb
  simp only [Bool.and_eq_true, decide_eq_true_eq] at hb
  refine ⟨by simpa using h.len, h.slot, fun j q b hj hbj => ?_, h.ne⟩
  have hq := h.slot j q hj
  rw [hasB_nat hq.1]
  rw [List.getElem?_set] at hbj
  by_cases hjk : k = j
  · subst hjk
    rw [hk] at hj
    cases hj
    have hl : k < dn.length := by rw [h.len]; exact (List.getElem?_eq_some_iff.1 hk).1
    simp [hl] at hbj
    subst hbj
    simp [upd]
  · rw [if_neg hjk] at hbj
    have h1 := h.has j q b hj hbj
    rw [hasB_nat hq.1] at h1
    rw [← h1]
    unfold upd
    split
    · rename_i hs
      cases hd : decide (gn q.1 = q.2)
      · simp
      · have hd' : gn q.1 = q.2 := by simpa using hd
        have : q = p := by
          obtain ⟨a, c⟩ := q
          obtain ⟨a', c'⟩ := p
          simp only at hs hd' hb
          subst hs
          rw [← hd', ← hb.2]
        subst this
        exact absurd (h.ne k j q hk hj) hjk
    · rfl
/-- A place is taken: the new id differs from all others. -/
theorem Ids.take {m : Nat} {tk : Nat → Bool} {gn : Nat → Int} {gs : List (Nat × Int)} {dn : List Bool} (h : Ids m tk gn gs dn) {i : Nat} (hi : i < m) (ht : tk i = false) (hg : 0 ≤ gn i ∧ gn i < 4294967295) :
    Ids m (upd tk i true) (upd gn i (gn i + 1)) (gs ++ [(i, gn i + 1)]) (dn ++ [false]) ∧ ∀ (k : Nat) (p : Nat × Int), gs[k]? = some p → p ≠ (i, gn i + 1) := by
  have hn : ∀ (k : Nat) (p : Nat × Int), gs[k]? = some p → p ≠ (i, gn i + 1) := fun k p hk he => by
    have := h.slot k p hk
    subst he
    simp only at this
    omega
  refine ⟨⟨by simp [h.len], fun k p hk => ?_, fun k p b hk hb => ?_, fun j k p hj hk => ?_⟩, hn⟩
  · rw [List.getElem?_append] at hk
    split at hk
    · have := h.slot k p hk
      refine ⟨this.1, ?_, this.2.2⟩
      unfold upd
      split
      · rename_i hs; rw [hs] at this; omega
      · exact this.2.1
    · rename_i hl
      have : k - gs.length = 0 := by
        cases hz : k - gs.length
        · rfl
        · rw [hz] at hk; simp at hk
      rw [this] at hk
      simp at hk
      subst hk
      exact ⟨hi, by simp [upd], by simp only; omega, by simp only; omega⟩
  · rw [List.getElem?_append] at hk hb
    rw [h.len] at hb
    split at hk
    · rename_i hl
      rw [if_pos hl] at hb
      have h0 := h.slot k p hk
      have h1 := h.has k p b hk hb
      rw [hasB_nat h0.1] at h1 ⊢
      rw [← h1]
      unfold upd
      by_cases hs : p.1 = i
      · rw [if_pos hs, if_pos hs, hs, ht]
        simp
        rw [hs] at h0
        omega
      · rw [if_neg hs, if_neg hs]
    · rename_i hl
      rw [if_neg hl] at hb
      have : k - gs.length = 0 := by
        cases hz : k - gs.length
        · rfl
        · rw [hz] at hk; simp at hk
      rw [this] at hk hb
      simp at hk hb
      subst hk hb
      rw [hasB_nat hi]
      simp [upd]
  · rw [List.getElem?_append] at hj hk
    split at hj <;> split at hk
    · exact h.ne j k p hj hk
    · rename_i h1 h2
      exfalso
      have : k - gs.length = 0 := by
        cases hz : k - gs.length
        · rfl
        · rw [hz] at hk; simp at hk
      rw [this] at hk
      simp at hk
      exact hn j p hj hk.symm
    · rename_i h1 h2
      exfalso
      have : j - gs.length = 0 := by
        cases hz : j - gs.length
        · rfl
        · rw [hz] at hj; simp at hj
      rw [this] at hj
      simp at hj
      exact hn k p hk hj.symm
    · rename_i h1 h2
      have e1 : j - gs.length = 0 := by
        cases hz : j - gs.length
        · rfl
        · rw [hz] at hj; simp at hj
      have e2 : k - gs.length = 0 := by
        cases hz : k - gs.length
        · rfl
        · rw [hz] at hk; simp at hk
      omega
end Go.Proofs.Ytfppmdnpjihcpaa
