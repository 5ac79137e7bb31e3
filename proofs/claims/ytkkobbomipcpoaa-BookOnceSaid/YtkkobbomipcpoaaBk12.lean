/- What the law BookOnce of chapter 29 (book) holds beside its book: the words that were given out, their places, and which are gone. -/
import Derived.Test.YtkkobbomipcpoaaBk10
namespace Go.Proofs.Ytkkobbomipcpoaa
open Go.RowKit TagP
set_option linter.unusedVariables false

theorem tab_snoc (n : Nat) (F : Nat → Value) : tab (n + 1) F = tab n F ++ [F n] := by simp [tab, List.range_succ]
/-- The words that were given out to the places of sl. -/
def wdAt (sl : List Int) (j : Nat) : Int := ((j : Int) + 1) * 256 + sl.getD j 0
def wds (sl : List Int) : List Int := (List.range sl.length).map (wdAt sl)
theorem wds_len (sl : List Int) : (wds sl).length = sl.length := by simp [wds]
theorem wds_get (sl : List Int) (j : Nat) (h : j < sl.length) : (wds sl).getD j 0 = wdAt sl j := by simp [wds, List.getD_eq_getElem?_getD, h]
theorem getD_snoc (sl : List Int) (x : Int) (j : Nat) (h : j < sl.length) : (sl ++ [x]).getD j 0 = sl.getD j 0 := by simp [List.getD_eq_getElem?_getD, List.getElem?_append_left h]
theorem getD_last (sl : List Int) (x : Int) : (sl ++ [x]).getD sl.length 0 = x := by simp [List.getD_eq_getElem?_getD]
theorem wdAt_snoc (sl : List Int) (x : Int) (j : Nat) (h : j < sl.length) : wdAt (sl ++ [x]) j = wdAt sl j := by unfold wdAt; rw [getD_snoc _ _ _ h]
theorem wdAt_last (sl : List Int) (x : Int) : wdAt (sl ++ [x]) sl.length = ((sl.length : Int) + 1) * 256 + x := by unfold wdAt; rw [getD_last]
theorem wds_snoc (sl : List Int) (x : Int) : wds (sl ++ [x]) = wds sl ++ [((sl.length : Int) + 1) * 256 + x] := by
  unfold wds
  rw [List.length_append, List.length_singleton, List.range_succ, List.map_append, List.map_singleton, wdAt_last]
  congr 1
  exact List.map_congr_left fun j hj => wdAt_snoc _ _ _ (List.mem_range.1 hj)
/-- Has a word's place another word by now? -/
def goneB (s : BS) (sl : List Int) (j : Nat) : Bool := decide (s.f (sl.getD j 0).toNat ≠ wdAt sl j)
theorem Sl.disj {e e' : TypeId} {k k' : IntKind} {w : World} {v v' : Value} {zs zs' : List Int} (h : Sl e k w v zs) (h' : Sl e' k' w v' zs') (ne : e' ≠ e) : Disj (sb v) (sb v') := fun b hb hb' => by
  obtain ⟨a, cp, rfl, _, _, h3⟩ := h'
  rcases h3 with ⟨rfl, _⟩ | ⟨b', off, cur, rfl, h5, _⟩
  · simp [sb] at hb'
  · simp [sb] at hb'
    subst hb'
    exact h.ne h5 ne hb
theorem sl_own {e e' : TypeId} {k : IntKind} {w : World} {v v' : Value} {zs : List Int} {B n : Nat} {xs : List Value} (h : Sl e k w v zs) (h' : w.ownsRow B e' 1 v' n xs) (ne : e' ≠ e) {b : Nat} (hb : v'.ownBlock = some b) : b ∉ sb v := by
  rcases h'.2 with ⟨rfl, _⟩ | ⟨b', cap, cur, rfl, _, hg, _⟩
  · cases hb
  · cases hb
    have hB : Blk w b' e' cur := hg
    exact h.ne hB ne
/-- The book, the three slices, and that each lies apart, from block B on. -/
structure OR (B : Nat) (w : World) (g h : Nat) (s : BS) (v4 v5 v6 : Value) (ws zs : List Int) (n : Nat) (xs : List Value) : Prop where
  bk : BookAt w g h s
  r4 : Sl 71 .u64 w v4 ws
  r5 : Sl 3 .i64 w v5 zs
  r6 : w.ownsRow B 4 1 v6 n xs
  b4 : ∀ b ∈ sb v4, B ≤ b
  b5 : ∀ b ∈ sb v5, B ≤ b
  bg : B ≤ g ∧ B ≤ h
section
variable {B : Nat} {w w' : World} {g h : Nat} {s s' : BS} {v4 v5 v6 v' : Value} {ws zs ys : List Int} {n m : Nat} {xs xs' : List Value} (o : OR B w g h s v4 v5 v6 ws zs n xs)
include o
theorem OR.gr (k : Gr w w') : OR B w' g h s v4 v5 v6 ws zs n xs := ⟨o.bk.gr k, o.r4.gr k, o.r5.gr k, k.own o.r6, o.b4, o.b5, o.bg⟩
theorem OR.own6 {b : Nat} (hb : v6.ownBlock = some b) : ∃ cur, Blk w b 4 cur := by
  rcases o.r6.2 with ⟨rfl, _⟩ | ⟨b', cap, cur, rfl, _, hg, _⟩
  · cases hb
  · cases hb; exact ⟨cur, hg⟩
theorem OR.not6 {b : Nat} (hb : v6.ownBlock = some b) : b ≠ g ∧ b ≠ h := by
  obtain ⟨cur, hcur⟩ := o.own6 hb
  have h1 : Blk w g 117 _ := o.bk.hdr
  have h2 := o.bk.tag
  unfold Blk at hcur h1 h2
  refine ⟨fun e => ?_, fun e => ?_⟩
  · subst e; rw [h1] at hcur; simp at hcur
  · subst e; rw [h2] at hcur; simp at hcur
theorem OR.not4 : g ∉ sb v4 ∧ h ∉ sb v4 := ⟨o.r4.ne o.bk.hdr (by decide), o.r4.ne o.bk.tag (by decide)⟩
theorem OR.not5 : g ∉ sb v5 ∧ h ∉ sb v5 := ⟨o.r5.ne o.bk.hdr (by decide), o.r5.ne o.bk.tag (by decide)⟩
/-- The book changes. -/
theorem OR.book (l : BookAt w' g h s') (k : Ch [g, h] w w') : OR B w' g h s' v4 v5 v6 ws zs n xs :=
  ⟨l, o.r4.ch k (fun b hb hm => by simp at hm; rcases hm with rfl | rfl; exact o.not4.1 hb; exact o.not4.2 hb),
    o.r5.ch k (fun b hb hm => by simp at hm; rcases hm with rfl | rfl; exact o.not5.1 hb; exact o.not5.2 hb),
    k.own o.r6 (fun b hb hm => by have := o.not6 hb; simp at hm; omega), o.b4, o.b5, o.bg⟩
/-- The words that are gone change. -/
theorem OR.gone {S : List Nat} (k : Ch S w w') (hS : ∀ b ∈ S, v6.ownBlock = some b) (h6 : w'.ownsRow B 4 1 v' m xs') : OR B w' g h s v4 v5 v' ws zs m xs' :=
  ⟨o.bk.ch k (fun hm => (o.not6 (hS _ hm)).1 rfl) (fun hm => (o.not6 (hS _ hm)).2 rfl), o.r4.ch k (fun b hb hm => sl_own o.r4 o.r6 (by decide) (hS _ hm) hb), o.r5.ch k (fun b hb hm => sl_own o.r5 o.r6 (by decide) (hS _ hm) hb), h6, o.b4, o.b5, o.bg⟩
theorem OR.app4 (hB : B ≤ w.heap.size) (k : Ch (sb v4) w w') (f : Foot w (sb v4) (sb v')) (r : Sl 71 .u64 w' v' ys) : OR B w' g h s v' v5 v6 ys zs n xs :=
  ⟨o.bk.ch k o.not4.1 o.not4.2, r, o.r5.ch k (fun b hb hm => Sl.disj o.r5 o.r4 (by decide) b hb hm), k.own o.r6 (fun b hb hm => sl_own o.r4 o.r6 (by decide) hb hm), fun b hb => by rcases f b hb with h1 | h1; exact o.b4 b h1; omega, o.b5, o.bg⟩
theorem OR.app5 (hB : B ≤ w.heap.size) (k : Ch (sb v5) w w') (f : Foot w (sb v5) (sb v')) (r : Sl 3 .i64 w' v' ys) : OR B w' g h s v4 v' v6 ws ys n xs :=
  ⟨o.bk.ch k o.not5.1 o.not5.2, o.r4.ch k (fun b hb hm => Sl.disj o.r4 o.r5 (by decide) b hb hm), r, k.own o.r6 (fun b hb hm => sl_own o.r5 o.r6 (by decide) hb hm), o.b4, fun b hb => by rcases f b hb with h1 | h1; exact o.b5 b h1; omega, o.bg⟩
theorem OR.app6 (k : w.grownBy w' v6.ownBlock) (r : w'.ownsRow B 4 1 v' m xs') : OR B w' g h s v4 v5 v' ws zs m xs' := by
  cases hv : v6.ownBlock with
  | none => exact o.gone (S := []) ((Ch.refl _ _).grown k (fun b hb => by rw [hv] at hb; cases hb)) (by simp) r
  | some b => exact o.gone (S := [b]) ((Ch.refl _ _).grown k (fun b' hb => by rw [hv] at hb; cases hb; simp)) (by simp [hv]) r
end
/-- The words that are gone, as the slice's cells. -/
def gnC (n : Nat) (G : Nat → Bool) : List Value := tab n fun j => .bool (G j)
theorem gnC_set (n : Nat) (G : Nat → Bool) (q : Nat) (b : Bool) : (gnC n G).set q (.bool b) = gnC n (fun j => if j = q then b else G j) := by
  unfold gnC
  rw [tab_set]
  exact tab_congr _ _ _ fun j _ => by dsimp only; split <;> rfl
theorem gnC_snoc (n : Nat) (G : Nat → Bool) : gnC n G ++ [.bool false] = gnC (n + 1) (fun j => if j = n then false else G j) := by
  unfold gnC
  rw [tab_snoc]
  dsimp only
  rw [if_pos rfl]
  congr 1
  exact tab_congr _ _ _ fun j hj => by rw [if_neg (by omega)]
theorem gnC_congr (n : Nat) (G G' : Nat → Bool) (h : ∀ j, j < n → G j = G' j) : gnC n G = gnC n G' := tab_congr _ _ _ fun j hj => by rw [h j hj]
/-- All that holds between two calls: sl are the places of the words that were given out. -/
structure OI (B : Nat) (w : World) (g h : Nat) (s : BS) (v4 v5 v6 : Value) (sl : List Int) (G : Nat → Bool) : Prop where
  o : OR B w g h s v4 v5 v6 (wds sl) sl sl.length (gnC sl.length G)
  c4 : s.c = 4
  last : s.last = sl.length
  sl8 : ∀ j, j < sl.length → 0 ≤ sl.getD j 0 ∧ sl.getD j 0 < 8
theorem OI.gr {B : Nat} {w w' : World} {g h : Nat} {s : BS} {v4 v5 v6 : Value} {sl : List Int} {G : Nat → Bool} (o : OI B w g h s v4 v5 v6 sl G) (k : Gr w w') : OI B w' g h s v4 v5 v6 sl G := ⟨o.o.gr k, o.c4, o.last, o.sl8⟩
/-- Which words are gone behind a call: k3: it drops place x. -/
def GM (k3 : Bool) (x : Int) (s : BS) (sl : List Int) (G : Nat → Bool) : Prop := ∀ j, j < sl.length → (G j || (k3 && decide (sl.getD j 0 = x))) = goneB s sl j
def GN (s : BS) (sl : List Int) (G : Nat → Bool) : Prop := ∀ j, j < sl.length → G j = goneB s sl j
theorem GN.same {s : BS} {sl : List Int} {G : Nat → Bool} (h : GN s sl G) (x : Int) : GM false x s sl G := fun j hj => by rw [← h j hj]; simp
theorem goneB_iff (s : BS) (sl : List Int) (j : Nat) : goneB s sl j = true ↔ s.f (sl.getD j 0).toNat ≠ wdAt sl j := by simp [goneB]
theorem wdAt_ne (sl : List Int) (j : Nat) (h8 : 0 ≤ sl.getD j 0 ∧ sl.getD j 0 < 8) : wdAt sl j ≠ 0 := by unfold wdAt; omega
theorem GN.drop {s : BS} {sl : List Int} {G : Nat → Bool} (h : GN s sl G) (h8 : ∀ j, j < sl.length → 0 ≤ sl.getD j 0 ∧ sl.getD j 0 < 8) (x : Nat) (hx : x < 64) : GM true x (dropS s x) sl G := fun j hj => by
  have hz := h8 j hj
  have hw := wdAt_ne sl j hz
  have hf : (dropS s (x : Int)).f = fun i => if i = x then 0 else s.f i := by
    unfold dropS
    split
    · rfl
    · rename_i hst
      have : s.f x = 0 := by
        unfold stB at hst
        rw [(place_iff (x : Int)).2 (by omega), Int.toNat_natCast] at hst
        simpa using hst
      funext i
      by_cases hi : i = x
      · subst hi; simp [this]
      · simp [hi]
  rw [h j hj, Bool.eq_iff_iff]
  simp only [Bool.or_eq_true, Bool.true_and, decide_eq_true_eq, goneB_iff, hf]
  generalize wdAt sl j = u at *
  generalize sl.getD j 0 = z at *
  by_cases e : z = x
  · subst e
    rw [if_pos (by omega)]
    exact ⟨fun _ => Ne.symm hw, fun _ => .inr rfl⟩
  · rw [if_neg (by omega)]
    exact ⟨fun h => h.resolve_right e, .inl⟩
theorem GN.place {s : BS} {sl : List Int} {G : Nat → Bool} (h : GN s sl G) (h8 : ∀ j, j < sl.length → 0 ≤ sl.getD j 0 ∧ sl.getD j 0 < 8) (x : Nat) (hlast : s.last = sl.length) (cpu level now : Int) (anew : Bool) (y : Int) :
    GM false y (plS s x cpu level now anew) (sl ++ [(x : Int)]) (fun j => if j = sl.length then false else (G j || decide (sl.getD j 0 = x))) := fun j hj => by
  have hf : (plS s x cpu level now anew).f = fun i => if i = x then ((sl.length : Int) + 1) * 256 + x else s.f i := by
    show setF s.f x ((s.last + 1) * 256 + x) = _
    rw [hlast]
    rfl
  rw [List.length_append, List.length_singleton] at hj
  dsimp only
  by_cases e : j = sl.length
  · subst e
    rw [if_pos rfl]
    simp only [Bool.false_and, Bool.or_false]
    symm
    have : ¬ goneB (plS s x cpu level now anew) (sl ++ [(x : Int)]) sl.length = true := by
      rw [goneB_iff, getD_last, wdAt_last, hf]
      simp
    simpa using this
  · have hj' : j < sl.length := by omega
    have hz := h8 j hj'
    rw [if_neg e, h j hj', Bool.eq_iff_iff]
    simp only [Bool.or_eq_true, Bool.false_and, Bool.or_false, decide_eq_true_eq, goneB_iff, getD_snoc _ _ _ hj', wdAt_snoc _ _ _ hj', hf]
    have hwd : wdAt sl j = ((j : Int) + 1) * 256 + sl.getD j 0 := rfl
    generalize wdAt sl j = u at *
    generalize sl.getD j 0 = z at *
    by_cases e2 : z = x
    · subst e2
      rw [if_pos (by omega)]
      exact ⟨fun _ => by omega, fun _ => .inr rfl⟩
    · rw [if_neg (by omega)]
      exact ⟨fun h => h.resolve_right e2, .inl⟩
theorem el69 : Elem Try.prog 69 71 (.int .u64 0) 1 8 := ⟨Try.underlying69, by kernel_rfl, rfl, by decide⟩
theorem el70 : Elem Try.prog 70 4 (.bool false) 1 1 := ⟨Try.underlying70, by kernel_rfl, rfl, by decide⟩
/-- A row of bools that is there: its cells. -/
theorem gn_cells {w : World} {B n : Nat} {v : Value} {G : Nat → Bool} (h : w.ownsRow B 4 1 v n (gnC n G)) (hn : 0 < n) :
    ∃ b cap, v = .slice (some ⟨b, 0, none⟩) n cap ∧ B ≤ b ∧ b < w.heap.size ∧ (∀ j, j < n → w.cell? ⟨b, j, none⟩ = some (.bool (G j))) ∧ ∀ j, w.frozen? ⟨b, j, none⟩ = false := by
  rcases own_cells h with ⟨_, h0⟩ | ⟨b, cap, rfl, h1, h2, h3, h4, h5, h6⟩
  · omega
  · exact ⟨b, cap, rfl, h1, h2, fun j hj => h5 j _ (tab_get _ _ _ hj), h6⟩
theorem gn_len {w : World} {B n : Nat} {v : Value} {xs : List Value} (h : w.ownsRow B 4 1 v n xs) : ∃ a cap, v = .slice a n cap ∧ n ≤ cap ∧ cap ≤ 9223372036854775807 := by
  rcases own_cells h with ⟨rfl, rfl⟩ | ⟨b, cap, rfl, h1, h2, h3, h4, h5, h6⟩
  · exact ⟨none, 0, rfl, by omega, by omega⟩
  · exact ⟨_, cap, rfl, h3, h4⟩
end Go.Proofs.Ytkkobbomipcpoaa
