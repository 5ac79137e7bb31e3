/- The library's sort and deletion, at this translation, in terms of slices of places. -/
import Derived.Test.YtbeoomjcipbjjaaWl3
import Derived.Test.YtbeoomjcipbjjaaLay
namespace Go.Proofs.Ytbeoomjcipbjjaa
open Go.RowKit Go.Shelf Go.Sort Go.Lib
set_option linter.unusedVariables false

def encP (x : Fin 64) : Value := .int .i64 (x.val : Int)
def toP (x : Int) : Fin 64 := ⟨x.toNat % 64, Nat.mod_lt _ (by omega)⟩
theorem toP_val {x : Int} (h : 0 ≤ x ∧ x < 64) : ((toP x).val : Int) = x := by unfold toP; show ((x.toNat % 64 : Nat) : Int) = x; omega
def vals (l : List (Fin 64)) : List Int := l.map fun x => (x.val : Int)
theorem vals_toP (zs : List Int) (h : ∀ x ∈ zs, 0 ≤ x ∧ x < 64) : vals (zs.map toP) = zs := by
  unfold vals
  rw [List.map_map]
  conv => rhs; rw [← List.map_id zs]
  exact List.map_congr_left fun x hx => toP_val (h x hx)
section
variable {α : Type} [Inhabited α] {enc : α → Value}
theorem Blk.putRow {w : World} {b : Nat} {e : TypeId} {cur : Array Value} (h : Blk w b e cur) (off : Nat) (d : Array α) : Blk (putRow enc w b off d) b e (putCells enc off d cur) := by
  unfold Blk at h ⊢
  unfold Go.Sort.putRow mapBlock
  simp [Array.getElem?_modify, h, onCells]
theorem Ch.putRow {S : List Nat} {a w : World} {b : Nat} (h : Ch S a w) (hb : b ∈ S ∨ a.heap.size ≤ b) (off : Nat) (d : Array α) : Ch S a (putRow enc w b off d) :=
  ⟨h.os, h.tape, h.output, by unfold Go.Sort.putRow mapBlock; simpa using h.size, fun k hk hS => by
    have hne : b ≠ k := fun e => by subst e; rcases hb with h1 | h1 <;> first | exact hS h1 | omega
    rw [← h.block k hk hS]
    unfold Go.Sort.putRow mapBlock
    simp [Array.getElem?_modify, hne]⟩
theorem Gr.ahead {a w : World} (h : Gr a w) (n : Nat) : Gr a (Sort.ahead w n) := ⟨h.os, h.tape, h.output, h.size, h.block⟩
theorem Gr.grow {a w : World} (h : Gr a w) (os : Array Obj) : Gr a (grow w os) := ⟨h.os, h.tape, h.output, by unfold Go.Sort.grow; simp; have := h.size; omega, fun k hk => by
  rw [← h.block k hk]
  unfold Go.Sort.grow
  have := h.size
  show (w.heap ++ os)[k]? = _
  rw [Array.getElem?_append_left (by omega)]⟩
end
/-- The slice's row, as the library's contracts have it. -/
theorem Sl.holds {w : World} {b off cp : Nat} {zs : List Int} (h : Sl 3 .i64 w (.slice (some ⟨b, off, none⟩) zs.length cp) zs) (hz : ∀ x ∈ zs, 0 ≤ x ∧ x < 64) : Holds encP w b off (zs.map toP).toArray ∧ b < w.heap.size := by
  obtain ⟨a, cp', he, h1, h2, h3⟩ := h
  injection he with e1 e2 e3
  subst e1
  rcases h3 with ⟨h3, _⟩ | ⟨b', off', cur, h3, h5, h6, h7⟩
  · cases h3
  · injection h3 with h3
    injection h3 with h3 h4
    subst h3 h4
    refine ⟨fun j hj => ⟨?_, h5.frozen _⟩, h5.lt⟩
    have hj' : j < zs.length := by simpa using hj
    rw [h5.cell, h7 j zs[j] (by simp [hj'])]
    rw [getElem!_pos _ j hj]
    simp only [List.getElem_toArray, List.getElem_map, encP]
    rw [toP_val (hz _ (List.getElem_mem hj'))]
/-- .. and back: the row rewritten, a part of it taken. -/
theorem Sl.rewritten {w w' : World} {b off cp n q : Nat} {zs zs' : List Int} {os : Array Obj} (h : Sl 3 .i64 w (.slice (some ⟨b, off, none⟩) zs.length cp) zs) (d' : Array (Fin 64)) (hw : w' = Go.Sort.grow (putRow encP (Sort.ahead w q) b off d') os) (hs : d'.size = zs.length) (hn : zs' = vals (d'.toList.take n)) (hnl : n ≤ zs.length) :
    Sl 3 .i64 w' (.slice (some ⟨b, off, none⟩) zs'.length cp) zs' ∧ Ch [b] w w' := by
  obtain ⟨a, cp', he, h1, h2, h3⟩ := h
  injection he with e1 e2 e3
  subst e1 e3
  rcases h3 with ⟨h3, _⟩ | ⟨b', off', cur, h3, h5, h6, h7⟩
  · cases h3
  · injection h3 with h3
    injection h3 with h3 h4
    subst h3 h4
    have hl : zs'.length = n := by rw [hn]; unfold vals; simp; omega
    have hb : Blk w' b 3 (putCells encP off d' cur) := by
      rw [hw]
      exact ((Blk.putRow (h5.gr ((Gr.refl w).ahead q)) off d')).gr ((Gr.refl _).grow os)
    refine ⟨⟨_, cp, rfl, by omega, h2, .inr ⟨b, off, _, rfl, hb, by simpa [putCells] using h6, fun i x hx => ?_⟩⟩, ?_⟩
    · have hi : i < n := by have := (List.getElem?_eq_some_iff.1 hx).1; omega
      have hd : i < d'.size := by omega
      unfold putCells
      rw [Array.getElem?_mapIdx]
      have hc : off + i < cur.size := by omega
      rw [Array.getElem?_eq_getElem hc, Option.map_some, if_pos (by omega), show off + i - off = i by omega]
      rw [hn] at hx
      unfold vals at hx
      rw [List.getElem?_map, List.getElem?_take, if_pos hi, Array.getElem?_toList, Array.getElem?_eq_getElem hd] at hx
      simp only [Option.map_some, Option.some.injEq] at hx
      rw [getElem!_pos d' i hd, encP, hx]
    · rw [hw]
      have k1 : Ch [b] w (Sort.ahead w q) := ((Gr.refl w).ahead q).ch _
      exact (k1.putRow (by simp) off d').more ((Gr.refl _).grow os)
theorem perm_in {d d' : Array (Fin 64)} (h : PermIn 0 d.size d d') : d'.size = d.size ∧ d'.toList.Perm d.toList := by
  obtain ⟨h1, _, h3⟩ := h
  refine ⟨h1, ?_⟩
  have e1 : d'.extract 0 d.size = d' := by rw [← h1]; simp
  have e2 : d.extract 0 d.size = d := by simp
  rwa [e1, e2] at h3
theorem sorted_in {lt : Fin 64 → Fin 64 → Bool} {n : Nat} {d : Array (Fin 64)} (h : SortedIn lt 0 n d) (hn : d.size = n) : d.toList.Pairwise (fun x y => lt y x = false) := by
  rw [List.pairwise_iff_getElem]
  intro i j hi hj hij
  have := h i j (Nat.zero_le _) hij (by simpa [hn] using hj)
  rw [getElem!_pos d j (by simpa using hj), getElem!_pos d i (by simpa using hi)] at this
  simpa using this

theorem insertion_none (p : Option Addr) (cap : Nat) (fv : Value) (w : World) : Calls Try.prog 66 #[.slice p 0 cap, .int .i64 0, .int .i64 0, fv] w fun e w' => e = .returned (.tuple #[]) ∧ w = w' := by
  go_enter Try.func66, Try.ntmps66
  go_wp2
  refine wp_loop_rounds 1 ?_
  rw [rounds_succ]
  go_wp2
  go_end0
  exact ⟨rfl, rfl⟩
theorem bitsLen0 (w : World) : Calls Try.prog 60 #[.int .u64 0] w fun e w' => e = .returned (.int .i64 0) ∧ w = w' := by
  have h := Any.bits_Len (SlLaysF0.n15.bits (P := Try.prog) (ρ := laySort_ren) { laySort with }) 0 w (by omega) (by omega)
  exact h.mono fun _ _ ⟨h1, h2⟩ => ⟨h1, h2.symm⟩
end Go.Proofs.Ytbeoomjcipbjjaa
