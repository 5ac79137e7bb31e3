/- Rows that a function owns, cell by cell, whatever the elements' size; calls inside regions that only read. No program, no conditions. -/
import Derived.Test.YtbeoomjcipbjjaaKit4
namespace Go.Proofs.Ytbeoomjcipbjjaa
open Go.RowKit

section
variable {w : World} {B : Nat} {e : TypeId} {size n : Nat} {v : Value} {xs : List Value}
/-- An owned row: nil, or a block of its own, whose cells are known. -/
theorem own_cells (h : w.ownsRow B e size v n xs) : (v = .slice none 0 0 ∧ n = 0) ∨
    ∃ g cap, v = .slice (some ⟨g, 0, none⟩) n cap ∧ B ≤ g ∧ g < w.heap.size ∧ n ≤ cap ∧ cap ≤ 9223372036854775807 ∧ (∀ j x, xs[j]? = some x → w.cell? ⟨g, j, none⟩ = some x) ∧ ∀ j, w.frozen? ⟨g, j, none⟩ = false := by
  rcases h.2 with h0 | ⟨g, cap, cur, rfl, hb, hg, hn, hc, hs, ht⟩
  · exact .inl h0
  · refine .inr ⟨g, cap, rfl, hb, (Array.getElem?_eq_some_iff.1 hg).1, hn, by unfold maxLen at hc; omega, fun j x hx => ?_, fun j => by simp [World.frozen?, hg]⟩
    rw [cell_of_row w g j cur e (0, 0) hg, ← Array.getElem?_toList]
    rw [← ht, List.getElem?_take] at hx
    split at hx
    · exact hx
    · cases hx
/-- A store into an owned row. -/
theorem own_set {g cap : Nat} (h : w.ownsRow B e size (.slice (some ⟨g, 0, none⟩) n cap) n xs) (j : Nat) (u : Value) : (w.setCell ⟨g, j, none⟩ u).ownsRow B e size (.slice (some ⟨g, 0, none⟩) n cap) n (xs.set j u) := by
  refine ⟨by simpa using h.1, ?_⟩
  rcases h.2 with ⟨h0, _⟩ | ⟨g', cap', cur, he, hb, hg, hn, hc, hs, ht⟩
  · cases h0
  · cases he
    refine .inr ⟨g, cap, cur.setIfInBounds j u, rfl, hb, ?_, hn, hc, by simpa using hs, ?_⟩
    · simp [World.setCell, Array.getElem?_modify, hg]
    · rw [Array.toList_setIfInBounds, List.take_set, ht]
/-- An owned row keeps through stores elsewhere. -/
theorem own_far {p : Addr} (h : w.ownsRow B e size v n xs) (hp : ∀ g, v.ownBlock = some g → g ≠ p.block) (u : Value) : (w.setCell p u).ownsRow B e size v n xs :=
  ((Ch.refl [p.block] w).st (by simp) u).own h (fun k hk => by have := hp k hk; simpa using this)
end
end Go.Proofs.Ytbeoomjcipbjjaa
