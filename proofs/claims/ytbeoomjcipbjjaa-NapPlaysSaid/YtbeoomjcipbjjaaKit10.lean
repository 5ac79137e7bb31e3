/- Blocks whose cells are given by a function of the index; parts of a block, loaded and stored whole. No program, no conditions. -/
import Derived.Test.YtbeoomjcipbjjaaKit6
import Derived.Deep.MidRow
namespace Go.Proofs.Ytbeoomjcipbjjaa
open Go.RowKit

/-- Block g is just the n cells F 0, F 1, .., of type t, none of them frozen. -/
def Arr (w : World) (g : Nat) (t : TypeId) (n : Nat) (F : Nat → Value) : Prop := Blk w g t (tab n F).toArray
def updF (F : Nat → Value) (i : Nat) (v : Value) : Nat → Value := fun j => if j = i then v else F j
/-- The cells of cs from o on. -/
def updL (F : Nat → Value) (o : Nat) (cs : List Value) : Nat → Value := fun j => if o ≤ j ∧ j < o + cs.length then cs.getD (j - o) undef else F j
theorem tabA_size (n : Nat) (F : Nat → Value) : (tab n F).toArray.size = n := by simp [tab_length]
section
variable {w w' : World} {g n : Nat} {t : TypeId} {F F' : Nat → Value} {S : List Nat}
theorem Arr.cell (h : Arr w g t n F) {i : Nat} (hi : i < n) : w.cell? ⟨g, i, none⟩ = some (F i) := by
  rw [Blk.cell h]; simpa using tab_get n F i hi
theorem Arr.frozen (h : Arr w g t n F) (i : Nat) : w.frozen? ⟨g, i, none⟩ = false := Blk.frozen h i
theorem Arr.lt (h : Arr w g t n F) : g < w.heap.size := Blk.lt h
theorem Arr.gr (h : Arr w g t n F) (k : Gr w w') : Arr w' g t n F := Blk.gr h k
theorem Arr.ch (h : Arr w g t n F) (k : Ch S w w') (hS : g ∉ S) : Arr w' g t n F := Blk.ch h k hS
theorem Arr.al (h : Arr w g t n F) (o : Obj) : Arr (w.alloc o) g t n F := Blk.al h o
theorem Arr.drew (h : Arr w g t n F) : Arr w.drew g t n F := h
theorem Arr.drewN (h : Arr w g t n F) (k : Nat) : Arr (w.drewN k) g t n F := h
theorem Arr.far (h : Arr w g t n F) {p : Addr} (hp : g ≠ p.block) (u : Value) : Arr (w.setCell p u) g t n F := Blk.far h hp u
theorem Arr.congr (h : Arr w g t n F) (e : ∀ j, j < n → F j = F' j) : Arr w g t n F' := by unfold Arr at h ⊢; rwa [tab_congr n F' F (fun j hj => (e j hj).symm)]
theorem Arr.st (h : Arr w g t n F) (i : Nat) (v : Value) : Arr (w.setCell ⟨g, i, none⟩ v) g t n (updF F i v) := by
  have := Blk.st h i v
  rw [List.setIfInBounds_toArray, tab_set] at this
  exact this
theorem Arr.of_blk {cs : Array Value} (h : Blk w g t cs) (hn : cs.size = n) (e : ∀ j, j < n → cs[j]? = some (F j)) : Arr w g t n F := by
  have : cs = (tab n F).toArray := by
    apply Array.ext_getElem?
    intro j
    by_cases hj : j < n
    · rw [e j hj]; simpa using (tab_get n F j hj).symm
    · rw [Array.getElem?_eq_none (by omega), Array.getElem?_eq_none (by simp [tab_length]; omega)]
  rw [this] at h
  exact h
theorem Arr.new (w : World) (t : TypeId) (cs : Array Value) (hn : cs.size = n) (e : ∀ j, j < n → cs[j]? = some (F j)) : Arr (w.alloc (.cells cs t)) w.heap.size t n F := Arr.of_blk (Blk.new w t cs) hn e

/-- A part of it: the cells from o on. -/
def part (F : Nat → Value) (o m : Nat) : List Value := tab m fun j => F (o + j)
theorem part_length (F : Nat → Value) (o m : Nat) : (part F o m).length = m := tab_length _ _
theorem part_get (F : Nat → Value) (o m j : Nat) (h : j < m) : (part F o m)[j]? = some (F (o + j)) := tab_get _ _ _ h
theorem Arr.range (h : Arr w g t n F) (o m : Nat) (hm : o + m ≤ n) : w.rangeAt g o (part F o m) := fun j v hv => by
  have hj : j < m := by have := (List.getElem?_eq_some_iff.1 hv).1; rwa [part_length] at this
  rw [h.cell (show o + j < n by omega), ← hv, part_get _ _ _ _ hj]
theorem Arr.there (h : Arr w g t n F) (o m : Nat) (hm : o + m ≤ n) : w.there g o m := fun j hj => by
  rw [h.cell (show o + j < n by omega)]; exact ⟨rfl, h.frozen _⟩
theorem Arr.sts : ∀ (cs : List Value) (o : Nat) (w : World) (F : Nat → Value), Arr w g t n F → Arr (w.setCells g o cs) g t n (updL F o cs)
  | [], o, w, F, h => h.congr fun j _ => by unfold updL; rw [if_neg (by simp)]
  | v :: r, o, w, F, h => by
    rw [World.setCells]
    refine (Arr.sts r (o + 1) _ _ (h.st o v)).congr fun j _ => ?_
    unfold updL updF
    by_cases h1 : j = o
    · subst h1
      rw [if_neg (by omega), if_pos rfl, if_pos (by simp)]
      simp
    · by_cases h2 : o + 1 ≤ j ∧ j < o + 1 + r.length
      · rw [if_pos h2, if_pos (by simp; omega)]
        obtain ⟨d, rfl⟩ : ∃ d, j = o + 1 + d := ⟨j - (o + 1), by omega⟩
        rw [show o + 1 + d - (o + 1) = d by omega, show o + 1 + d - o = d + 1 by omega]
        simp
      · rw [if_neg h2, if_neg h1, if_neg (by simp; omega)]
end
end Go.Proofs.Ytbeoomjcipbjjaa
