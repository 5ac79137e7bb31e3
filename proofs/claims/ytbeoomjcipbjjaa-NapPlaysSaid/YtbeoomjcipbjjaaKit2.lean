/- Blocks that are known whole, and worlds in which only some blocks have changed. No program, no conditions. -/
import Derived.Test.YtbeoomjcipbjjaaKit
import Derived.Laws.Rows
import Derived.Laws.Tables
import Derived.Deep.WholeRow
import Derived.Deep.DeepCutAuto
import Derived.Deep.RegionLaw
namespace Go.Proofs.Ytbeoomjcipbjjaa
open Go.RowKit

/-- Block g is just the cells cs, of type t, none of them frozen. -/
def Blk (w : World) (g : Nat) (t : TypeId) (cs : Array Value) : Prop := w.heap[g]? = some (.cells cs t (0, 0))

/-- At most the blocks of S have changed, and new ones have come. -/
structure Ch (S : List Nat) (w w' : World) : Prop where
  os : w'.os = w.os
  tape : w'.tape = w.tape
  output : w'.output = w.output
  size : w.heap.size ≤ w'.heap.size
  block : ∀ k, k < w.heap.size → k ∉ S → w'.heap[k]? = w.heap[k]?

section
variable {w w' a b c : World} {g : Nat} {t : TypeId} {cs : Array Value} {S T : List Nat}
theorem Ch.refl (S : List Nat) (w : World) : Ch S w w := ⟨rfl, rfl, rfl, Nat.le_refl _, fun _ _ _ => rfl⟩
theorem Gr.ch (h : Gr w w') (S : List Nat) : Ch S w w' := ⟨h.os, h.tape, h.output, h.size, fun k hk _ => h.block k hk⟩
theorem Ch.tr (h : Ch S a b) (k : Ch T b c) (hT : ∀ x ∈ T, x ∈ S ∨ a.heap.size ≤ x) : Ch S a c :=
  ⟨k.os.trans h.os, k.tape.trans h.tape, k.output.trans h.output, Nat.le_trans h.size k.size, fun i hi hS => by
    rw [k.block i (Nat.lt_of_lt_of_le hi h.size) (fun hm => by rcases hT i hm with h1 | h1 <;> first | exact hS h1 | omega)]
    exact h.block i hi hS⟩
theorem Ch.more (h : Ch S a b) (k : Gr b c) : Ch S a c := h.tr (k.ch []) (by simp)
theorem Gr.chs (h : Gr a b) (k : Ch T b c) (hT : ∀ x ∈ T, a.heap.size ≤ x) : Gr a c :=
  ⟨k.os.trans h.os, k.tape.trans h.tape, k.output.trans h.output, Nat.le_trans h.size k.size, fun i hi => by
    rw [k.block i (Nat.lt_of_lt_of_le hi h.size) (fun hm => by have := hT i hm; omega)]
    exact h.block i hi⟩
theorem Ch.wide (h : Ch S a b) (hS : ∀ x ∈ S, x ∈ T) : Ch T a b := ⟨h.os, h.tape, h.output, h.size, fun k hk hT => h.block k hk fun hm => hT (hS k hm)⟩
theorem Ch.al (h : Ch S a w) (o : Obj) : Ch S a (w.alloc o) := h.more ((Gr.refl w).al o)
theorem Ch.drew (h : Ch S a w) : Ch S a w.drew := ⟨h.os, h.tape, h.output, h.size, h.block⟩
theorem Ch.drewN (h : Ch S a w) (n : Nat) : Ch S a (w.drewN n) := ⟨h.os, h.tape, h.output, h.size, h.block⟩
theorem Ch.st (h : Ch S a w) {p : Addr} (hp : p.block ∈ S ∨ a.heap.size ≤ p.block) (u : Value) : Ch S a (w.setCell p u) :=
  ⟨h.os, h.tape, h.output, by simpa [World.setCell] using h.size, fun k hk hS => by
    rw [Below.heap_setCell w p u k (fun e => by subst e; rcases hp with h1 | h1 <;> first | exact hS h1 | omega)]
    exact h.block k hk hS⟩
theorem Ch.row (h : Ch S a w) {g : Nat} (hp : g ∈ S ∨ a.heap.size ≤ g) (cs : Array Value) : Ch S a (w.setRow g cs) :=
  ⟨h.os, h.tape, h.output, by simpa using h.size, fun k hk hS => by
    have : k ≠ g := fun e => by subst e; rcases hp with h1 | h1 <;> first | exact hS h1 | omega
    have e : (w.setRow g cs).heap[k]? = w.heap[k]? := by simp only [World.setRow, Array.getElem?_modify]; rw [if_neg (fun e => this e.symm)]
    rw [e]
    exact h.block k hk hS⟩
theorem Ch.grown {row : Option Nat} (h : Ch S a w) (hg : w.grownBy w' row) (hr : ∀ k, row = some k → k ∈ S ∨ a.heap.size ≤ k) : Ch S a w' :=
  ⟨hg.os.trans h.os, hg.tape.trans h.tape, hg.output.trans h.output, Nat.le_trans h.size hg.size, fun k hk hS => by
    rw [hg.block k (Nat.lt_of_lt_of_le hk h.size) (fun e => by rcases hr k e.symm with h1 | h1 <;> first | exact hS h1 | omega)]
    exact h.block k hk hS⟩
theorem Ch.cell (h : Ch S w w') {p : Addr} {v : Value} (hp : w.cell? p = some v) (hS : p.block ∉ S) : w'.cell? p = some v :=
  (World.cell?_of_block (h.block p.block (World.block_lt_of_cell? _ _ hp) hS)).trans hp
theorem Ch.own {B : Nat} {e : TypeId} {size n : Nat} {v : Value} {xs : List Value} (h : Ch S w w') (hown : w.ownsRow B e size v n xs) (hv : ∀ k, v.ownBlock = some k → k ∉ S) : w'.ownsRow B e size v n xs := by
  refine ⟨hown.1, ?_⟩
  rcases hown.2 with hn | ⟨g, cap, cur, rfl, hb, hgg, rest⟩
  · exact .inl hn
  · refine .inr ⟨g, cap, cur, rfl, hb, ?_, rest⟩
    rw [h.block g (Array.getElem?_eq_some_iff.1 hgg).1 (hv g rfl)]
    exact hgg

theorem Blk.lt (h : Blk w g t cs) : g < w.heap.size := (Array.getElem?_eq_some_iff.1 h).1
theorem Blk.cell (h : Blk w g t cs) (i : Nat) : w.cell? ⟨g, i, none⟩ = cs[i]? := cell_of_row w g i cs t (0, 0) h
theorem Blk.frozen (h : Blk w g t cs) (i : Nat) : w.frozen? ⟨g, i, none⟩ = false := by unfold Blk at h; simp [World.frozen?, h]
theorem Blk.new (w : World) (t : TypeId) (cs : Array Value) : Blk (w.alloc (.cells cs t)) w.heap.size t cs := heap_alloc_new w _
theorem Blk.gr (h : Blk w g t cs) (k : Gr w w') : Blk w' g t cs := (k.block g h.lt).trans h
theorem Blk.ch (h : Blk w g t cs) (k : Ch S w w') (hS : g ∉ S) : Blk w' g t cs := (k.block g h.lt hS).trans h
theorem Blk.al (h : Blk w g t cs) (o : Obj) : Blk (w.alloc o) g t cs := h.gr ((Gr.refl w).al o)
theorem Blk.drew (h : Blk w g t cs) : Blk w.drew g t cs := h
theorem Blk.drewN (h : Blk w g t cs) (n : Nat) : Blk (w.drewN n) g t cs := h
theorem Blk.st (h : Blk w g t cs) (i : Nat) (u : Value) : Blk (w.setCell ⟨g, i, none⟩ u) g t (cs.setIfInBounds i u) := by
  unfold Blk at h ⊢
  simp [World.setCell, Array.getElem?_modify, h]
theorem Blk.far (h : Blk w g t cs) {p : Addr} (hp : g ≠ p.block) (u : Value) : Blk (w.setCell p u) g t cs := (Below.heap_setCell w p u g hp).trans h
theorem Blk.row (h : Blk w g t cs) (cs' : Array Value) : Blk (w.setRow g cs') g t cs' := setRow_heap w g cs cs' t (0, 0) h
theorem Blk.grown {row : Option Nat} (h : Blk w g t cs) (hb : w.grownBy w' row) (hg : some g ≠ row) : Blk w' g t cs := (hb.block g h.lt hg).trans h
theorem Blk.eq {t' : TypeId} {cs' : Array Value} (h : Blk w g t cs) (h' : Blk w g t' cs') : cs = cs' := by unfold Blk at h h'; rw [h] at h'; cases h'; rfl
theorem Blk.c1 {x : Value} (h : Blk w g t #[x]) : w.cell? ⟨g, 0, none⟩ = some x ∧ w.frozen? ⟨g, 0, none⟩ = false := ⟨h.cell 0, h.frozen 0⟩
theorem Blk.c2 {x y : Value} (h : Blk w g t #[x, y]) : w.cell? ⟨g, 0, none⟩ = some x ∧ w.cell? ⟨g, 1, none⟩ = some y ∧ ∀ i, w.frozen? ⟨g, i, none⟩ = false := ⟨h.cell 0, h.cell 1, h.frozen⟩
theorem Blk.c3 {x y z : Value} (h : Blk w g t #[x, y, z]) : w.cell? ⟨g, 0, none⟩ = some x ∧ w.cell? ⟨g, 1, none⟩ = some y ∧ w.cell? ⟨g, 2, none⟩ = some z ∧ ∀ i, w.frozen? ⟨g, i, none⟩ = false := ⟨h.cell 0, h.cell 1, h.cell 2, h.frozen⟩
theorem Blk.c4 {x y z u : Value} (h : Blk w g t #[x, y, z, u]) : w.cell? ⟨g, 0, none⟩ = some x ∧ w.cell? ⟨g, 1, none⟩ = some y ∧ w.cell? ⟨g, 2, none⟩ = some z ∧ w.cell? ⟨g, 3, none⟩ = some u ∧ ∀ i, w.frozen? ⟨g, i, none⟩ = false := ⟨h.cell 0, h.cell 1, h.cell 2, h.cell 3, h.frozen⟩
/-- The one block that was laid last, and the two that were laid last, in a later world. -/
theorem Gr.new1 {o : Array Value} (h : Gr (w.alloc (.cells o t)) w') : Blk w' w.heap.size t o ∧ Gr w w' := ⟨(Blk.new w t o).gr h, ((Gr.refl w).al _).tr h⟩
theorem Gr.new2 {t2 : TypeId} {o o2 : Array Value} (h : Gr ((w.alloc (.cells o t)).alloc (.cells o2 t2)) w') : Blk w' w.heap.size t o ∧ Blk w' (w.heap.size + 1) t2 o2 ∧ Gr w w' :=
  ⟨((Blk.new w t o).al _).gr h, by have := (Blk.new (w.alloc (.cells o t)) t2 o2).gr h; rwa [World.size_alloc] at this, (((Gr.refl w).al _).al _).tr h⟩
end
section
variable {P : Program} {ops : Array Oper} {rest : List Oper} {o : Oper} {a : Act} {w : World} {Q : Exit → Act → World → Prop}
/-- A whole struct or array, out of a block that is just it. -/
theorem wpList_ldW (ty : TypeId) (x : Operand) (g : Nat) (t : TypeId) (cs : Array Value) (d : TypeDesc) (hw : Region.wanted o (yielded ops a.tmps) = true) (ho : o.op = .load ty x)
    (hx : a.eval x = .pointer (some ⟨g, 0, none⟩)) (hb : Blk w g t cs)
    (hu : P.underlying ty = some d) (hd : (match d with | .struct _ | .array _ _ => true | _ => false) = true) (hi : (P.info? ty).map (·.size) = some cs.size)
    (h : wpList P ops Q rest (a.put o.dst (.agg cs)) w) : wpList P ops Q (o :: rest) a w :=
  wpList_step fun K hK => by rw [if_pos hw]; exact wp_load_row ty x ho g hx t cs (0, 0) d hb hu hd hi (hK _ _ h)
/-- A whole struct or array, into a block that is just it. -/
theorem wpList_stW (ty : TypeId) (x y : Operand) (g : Nat) (t : TypeId) (old cs : Array Value) (hw : Region.wanted o (yielded ops a.tmps) = true) (ho : o.op = .store ty x y)
    (hx : a.eval x = .pointer (some ⟨g, 0, none⟩)) (hy : a.eval y = .agg cs) (hb : Blk w g t old)
    (hi : (P.info? ty).map (·.size) = some cs.size) (hs : old.size = cs.size) (h1 : cs.all (·.oneCell') = true)
    (h : ∀ w', Blk w' g t cs → Ch [g] w w' → wpList P ops Q rest (a.put o.dst undef) w') : wpList P ops Q (o :: rest) a w :=
  wpList_step fun K hK => by rw [if_pos hw]; exact wp_store_row ty x y ho g cs hx hy t old hb hi hs h1 (hK _ _ (h _ (hb.row cs) ((Ch.refl _ _).row (by simp) cs)))
end

/-- The cells of block g; that it is a row of n cells, none frozen; that all cells of a row are single values: what the walk's own rules ask, inside a region that draws its order too. -/
def rowOf (w : World) (g : Nat) : Array Value := match w.heap[g]? with | some (.cells cs _ _) => cs | _ => #[]
def HasRow (w : World) (g n : Nat) : Prop := ∃ t cs, Blk w g t cs ∧ cs.size = n
def AllOne (cs : Array Value) : Prop := cs.all (·.oneCell') = true
theorem Blk.rowOf {w : World} {g : Nat} {t : TypeId} {cs : Array Value} (h : Blk w g t cs) : rowOf w g = cs := by unfold Blk at h; simp [Proofs.Ytbeoomjcipbjjaa.rowOf, h]
theorem Blk.hasRow {w : World} {g : Nat} {t : TypeId} {cs : Array Value} (h : Blk w g t cs) {n : Nat} (hn : cs.size = n) : HasRow w g n := ⟨t, cs, h, hn⟩
theorem lc_pre {P : Program} (g n : Nat) (w : World) (h : HasRow w g n) : Sem.run P (loadCells ⟨g, 0, none⟩ n) w = .ok (rowOf w g) w := by
  obtain ⟨t, cs, hb, rfl⟩ := h
  rw [hb.rowOf]
  have h := run_loadCells_list (P := P) w ⟨g, 0, none⟩ cs.toList (fun j v hv => by
    have hadd : (⟨g, 0, none⟩ : Addr).add j = ⟨g, j, none⟩ := by unfold Addr.add; split <;> simp_all
    rw [hadd, hb.cell j]
    simpa using hv)
  simpa using h
theorem sc_pre {P : Program} (g : Nat) (cs : Array Value) (w : World) (h : HasRow w g cs.size) (h1 : AllOne cs) : Sem.run P (storeCells ⟨g, 0, none⟩ cs.toList) w = .ok () (w.setRow g cs) := by
  obtain ⟨t, old, hb, hs⟩ := h
  exact run_storeCells_from (P := P) g t cs.toList 0 old w hb (by simp; omega) (fun v hv => (Array.all_eq_true_iff_forall_mem.1 h1) v (by simpa using hv))
attribute [go_sem ↓] sc_pre
/-- The block of a pointer to a block's head. -/
def ptrBlk : Value → Nat | .pointer (some a) => a.block | _ => 0
def isPtr0 : Value → Bool | .pointer (some a) => a.off == 0 && a.spot.isNone | _ => false
theorem ptr0_eq {v : Value} (h : isPtr0 v = true) : v = .pointer (some ⟨ptrBlk v, 0, none⟩) := by
  unfold isPtr0 at h
  split at h
  · rename_i a
    obtain ⟨b, off, spot⟩ := a
    simp at h
    obtain ⟨rfl, rfl⟩ := h
    rfl
  · cases h
theorem ptrBlk_mk (g : Nat) : ptrBlk (.pointer (some ⟨g, 0, none⟩)) = g := rfl
theorem isPtr0_mk (g : Nat) : isPtr0 (.pointer (some ⟨g, 0, none⟩)) = true := rfl
attribute [go_sem] ptrBlk_mk isPtr0_mk
/-- A whole struct or array read out of a block that is just it, as one step; to be laid, at a type, among the walk's own rules. -/
theorem wp_ldRow {P : Program} {d : Option Tmp} {x : Tmp} {ty ty' : TypeId} {p : String} {af : Array Edge} {gd : Option (Nat × Bool)} {a : Act} {w : World} {K : Act → World → Prop} {Q : Exit → Act → World → Prop} {n : Nat} {dd : TypeDesc}
    (hu : P.underlying ty = some dd) (hd : (match dd with | .struct _ | .array _ _ => true | _ => false) = true) (hi : (P.info? ty).map (·.size) = some n)
    (h0 : isPtr0 (a.eval (.tmp x)) = true) (h : HasRow w (ptrBlk (a.eval (.tmp x))) n) :
    Oper.wp P ⟨d, .load ty (.tmp x), ty', p, af, gd⟩ a w K Q = K (a.put d (.agg (rowOf w (ptrBlk (a.eval (.tmp x)))))) w := by
  obtain ⟨t, cs, hb, hn⟩ := h
  have hx := ptr0_eq h0
  generalize ptrBlk (a.eval (.tmp x)) = g at *
  rw [hb.rowOf]
  unfold Oper.wp execOp
  simp only [hx, Instr.loadAt, Instr.sureAddr, Sem.run_bind, Sem.run_pure, Result.andThen_ok, run_loadVar_row w g t ty cs (0, 0) dd hb hu hd (by rw [hn]; exact hi)]
  rfl

/-- n cells, by their index. -/
def tab (n : Nat) (f : Nat → Value) : List Value := (List.range n).map f
theorem tab_length (n : Nat) (f : Nat → Value) : (tab n f).length = n := by simp [tab]
theorem tab_get (n : Nat) (f : Nat → Value) (i : Nat) (h : i < n) : (tab n f)[i]? = some (f i) := by simp [tab, h]
theorem tab_set (n : Nat) (f : Nat → Value) (i : Nat) (v : Value) : (tab n f).set i v = tab n (fun j => if j = i then v else f j) := by
  apply List.ext_getElem?
  intro j
  rw [List.getElem?_set]
  by_cases h : i = j
  · subst h
    by_cases hl : i < n
    · simp [tab, hl]
    · simp [tab, hl]
  · rw [if_neg h]
    have h' : ¬ j = i := fun e => h e.symm
    by_cases hl : j < n
    · simp [tab, hl, h']
    · simp [tab, hl]
theorem tab_congr (n : Nat) (f g : Nat → Value) (h : ∀ i, i < n → f i = g i) : tab n f = tab n g := List.map_congr_left fun i hi => h i (List.mem_range.1 hi)
end Go.Proofs.Ytbeoomjcipbjjaa
