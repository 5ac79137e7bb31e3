/- Arguments that are slices of plain structs (numbers and bools, nested or not): their cells in memory. No program, no conditions. -/
import Derived.Test.YtbeoomjcipbjjaaKit2
import Derived.Deep.Slices
import Derived.Deep.Fields
import Derived.ChangeSame
namespace Go.Proofs.Ytbeoomjcipbjjaa
open Go.RowKit Go.ChangeShapes Go.WideShapes Go.Deep

/-- What a cell of a plain struct holds: a number of a kind, or a bool (none). -/
def CellIs : Option IntKind → Value → Prop
  | some k, v => ∃ n, v = .int k n ∧ (Lit.int k n).wf = true
  | none, v => ∃ b, v = .bool b

/-- Of which kind the cell at offset o of a variable of type t is. -/
def kindAt (P : Program) : Nat → TypeId → Nat → Option (Option IntKind)
  | 0, _, _ => none
  | d + 1, t, o =>
    match P.underlying t with
    | some (.int k) => if o = 0 then some (some k) else none
    | some .bool => if o = 0 then some none else none
    | some (.struct fs) => fs.toList.findSome? fun f => if f.offset ≤ o ∧ o < f.offset + P.cellsOf f.type then kindAt P d f.type (o - f.offset) else none
    | _ => none

theorem trod_kind {H : Type} {enc : TypeId × Value → H} {P : Program} {w : World} {base : Nat} {spare : Nat → Bool} {held : Bool} :
    ∀ (d : Nat) (t : TypeId) (o : Nat) (c : Option IntKind) (fuel : Nat) (cs : List Value) (x : DataW H × List MemPlace), kindAt P d t o = some c → DataW.trod enc P w base spare held fuel t cs = some x → ∃ v, cs[o]? = some v ∧ CellIs c v := by
  intro d
  induction d with
  | zero => intro t o c fuel cs x h; simp [kindAt] at h
  | succ d ih =>
    intro t o c fuel cs x h ht
    unfold kindAt at h
    split at h
    · rename_i k hu
      obtain ⟨n, rfl, _, hwf⟩ := DataW.trod_int hu ht
      split at h
      · rename_i ho; subst ho; cases h; exact ⟨_, rfl, n, rfl, hwf⟩
      · cases h
    · rename_i hu
      obtain ⟨b, rfl, _⟩ := DataW.trod_bool hu ht
      split at h
      · rename_i ho; subst ho; cases h; exact ⟨_, rfl, b, rfl⟩
      · cases h
    · rename_i fs hu
      obtain ⟨xs, n, _, _, hlen, hxl, hf⟩ := DataW.trod_struct hu ht
      obtain ⟨f, hmem, hfk⟩ := List.exists_of_findSome?_eq_some h
      split at hfk
      · rename_i hr
        obtain ⟨i, hi⟩ := List.mem_iff_getElem?.1 hmem
        have hi' : fs[i]? = some f := by simpa using hi
        have hil : i < fs.size := (Array.getElem?_eq_some_iff.1 hi').1
        have h1 := hf i f hi'
        have hx : xs[i]? = some xs[i] := List.getElem?_eq_getElem (by omega)
        rw [hx] at h1
        obtain ⟨v, hv, hc⟩ := ih _ _ _ _ _ _ hfk h1
        refine ⟨v, ?_, hc⟩
        rw [List.getElem?_take, if_pos (by omega), List.getElem?_drop] at hv
        rw [← hv]
        congr 1
        omega
      · cases hfk
    · cases h

/-- n records of m cells each, one behind the other: cell j of record i holds F i j. -/
def RecAt (w : World) (a : Option Addr) (n m : Nat) (F : Nat → Nat → Value) : Prop :=
  n = 0 ∨ ∃ b off, a = some ⟨b, off, none⟩ ∧ ∀ i j, i < n → j < m → w.cell? ⟨b, off + i * m + j, none⟩ = some (F i j)
theorem RecAt.gr {w w' : World} {a : Option Addr} {n m : Nat} {F : Nat → Nat → Value} (h : RecAt w a n m F) (g : Gr w w') : RecAt w' a n m F := by
  rcases h with h | ⟨b, off, rfl, hc⟩
  · exact .inl h
  · exact .inr ⟨b, off, rfl, fun i j hi hj => g.cell_some (hc i j hi hj)⟩

/-- What an argument that is a slice of plain structs is. -/
structure RecsIn (P : Program) (e : TypeId) (w : World) (a : Option Addr) (len cap m : Nat) (F : Nat → Nat → Value) : Prop where
  le : len ≤ cap
  max : cap ≤ 9223372036854775807
  row : RecAt w a len m F
  kind : ∀ d i j c, i < len → j < m → kindAt P d e j = some c → CellIs c (F i j)

theorem open_recs {H : Type} {enc : TypeId × Value → H} {P : Program} {w : World} {t e : TypeId} {a : Option Addr} {len cap m : Nat} {d : DataW H} {ps : List MemPlace}
    (ht : P.underlying t = some (.slice e)) (hm : P.cellsOf e = m) (hm0 : 0 < m)
    (h : DataW.Trod enc P w 0 (fun _ => true) true t (.slice a len cap) d ps) : ∃ F, RecsIn P e w a len cap m F := by
  obtain ⟨fuel, hf⟩ := h
  rcases open_slice ht hf with ⟨hcs, _⟩ | ⟨x, l, c, mm, n, D, Pl, hcs, _, hl, hmax, hmm, _, hi⟩
  · simp [Value.cells] at hcs
    obtain ⟨rfl, rfl, rfl⟩ := hcs
    exact ⟨fun _ _ => .bool false, Nat.le_refl _, by omega, .inl rfl, fun _ _ _ _ h => by omega⟩
  · simp [Value.cells] at hcs
    obtain ⟨rfl, rfl, rfl⟩ := hcs
    simp only [if_true] at hmm
    subst hmm
    have key : ∀ i j, i < len → j < m → ∃ v, w.cell? (x.add (i * m + j)) = some v ∧ ∀ d c, kindAt P d e j = some c → CellIs c v := by
      intro i j hil hj
      obtain ⟨cs', hc, ht'⟩ := hi i (by omega)
      rw [hm] at hc
      obtain ⟨_, hcl, hat⟩ := World.cells?_some hc
      refine ⟨cs'[j]'(by omega), ?_, fun d c hk => ?_⟩
      · have h1 := hat j hj
        rw [← Go.Deep.add_add, h1]
        exact List.getElem?_eq_getElem (by omega)
      · obtain ⟨v, hv, hok⟩ := trod_kind d e j c n cs' _ hk ht'
        rw [List.getElem?_eq_getElem (by omega)] at hv
        cases hv
        exact hok
    have pick : ∃ F : Nat → Nat → Value, ∀ i j, i < len → j < m → w.cell? (x.add (i * m + j)) = some (F i j) ∧ ∀ d c, kindAt P d e j = some c → CellIs c (F i j) := by
      refine ⟨fun i j => if h : i < len ∧ j < m then Classical.choose (key i j h.1 h.2) else .bool false, fun i j hi hj => ?_⟩
      simp only [hi, hj, and_self, dif_pos]
      exact Classical.choose_spec (key i j hi hj)
    obtain ⟨F, hF⟩ := pick
    refine ⟨F, hl, by unfold maxLen at hmax; omega, ?_, fun d i j c hi hj hk => (hF i j hi hj).2 d c hk⟩
    by_cases h0 : len = 0
    · exact .inl h0
    · right
      obtain ⟨b, off, spot⟩ := x
      have hc0 := (hF 0 0 (by omega) hm0).1
      have hspot : spot = none := by simpa [Addr.add] using World.cell?_spot hc0
      subst hspot
      refine ⟨b, off, rfl, fun i j hi hj => ?_⟩
      have := (hF i j hi hj).1
      rw [← this, Nat.add_assoc]
      by_cases h1 : i * m + j = 0
      · rw [h1]; simp [Addr.add]
      · unfold Addr.add; rw [if_neg h1]
end Go.Proofs.Ytbeoomjcipbjjaa
