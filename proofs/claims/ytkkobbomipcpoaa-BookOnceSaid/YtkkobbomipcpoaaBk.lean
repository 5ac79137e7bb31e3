/- Contracts of the functions of chapter 29 (book), for every input: what each returns, and what it does to its book. -/
import Derived.Test.YtkkobbomipcpoaaBkT
namespace Go.Proofs.Ytkkobbomipcpoaa
open Go.RowKit TagP
set_option linter.unusedVariables false

def upd {α : Type} (f : Nat → α) (i : Nat) (x : α) : Nat → α := fun j => if j = i then x else f j
def clampI (x lo hi : Int) : Int := if x < lo then lo else if hi < x then hi else x
def holdI (x : Int) : Int := if x < 0 then 0 else if 7 < x then 7 else x
theorem clamp_any (x lo hi : Int) (w : World) (h : lo ≤ hi) : Calls Try.prog 73 #[.int .i64 x, .int .i64 lo, .int .i64 hi] w fun e w' => e = .returned (.int .i64 (clampI x lo hi)) ∧ w = w' := by
  unfold clampI
  by_cases h1 : x < lo
  · rw [if_pos h1]
    go_enter Try.func73, Try.ntmps73
    go_wp2
    all_goals (go_ret; exact ⟨ret_int (by omega), rfl⟩)
  · rw [if_neg h1]
    by_cases h2 : hi < x
    · rw [if_pos h2]
      go_enter Try.func73, Try.ntmps73
      go_wp2
      all_goals (go_ret; exact ⟨ret_int (by omega), rfl⟩)
    · rw [if_neg h2]
      go_enter Try.func73, Try.ntmps73
      go_wp2
      all_goals (go_ret; exact ⟨ret_int (by omega), rfl⟩)
theorem ghold (x : Int) (w : World) : Calls Try.prog 102 #[.int .i64 x] w fun e w' => e = .returned (.int .i64 (holdI x)) ∧ w = w' := by
  go_enter Try.func102, Try.ntmps102
  go_wp2
  all_goals go_ret
  all_goals (refine ⟨ret_int ?_, rfl⟩; unfold holdI; omega)
theorem rhold (x : Int) (w : World) : Calls Try.prog 38 #[.int .i64 x] w fun e w' => e = .returned (.int .i64 (holdI x)) ∧ w = w' := by
  go_enter Try.func38, Try.ntmps38
  go_wp2
  all_goals go_ret
  all_goals (refine ⟨ret_int ?_, rfl⟩; unfold holdI; omega)

/-- What a book holds: how many processors there are, the last stamp, each place's word, home, level, since when, and whether it was marked. -/
structure BS where
  c : Int
  last : Int
  f : Nat → Int
  hm : Nat → Int
  lv : Nat → Int
  sc : Nat → Int
  mv : Nat → Bool
def oneG (s : BS) (i k : Nat) : Value := match k with | 0 => .int .i64 (s.hm i) | 1 => .int .i64 (s.lv i) | 2 => .int .u64 (s.sc i) | _ => .bool (s.mv i)
/-- A book's cells. -/
def bkF (h : Nat) (s : BS) : Nat → Value
  | 0 => .pointer (some ⟨h, 0, none⟩)
  | 1 => .int .i64 s.c
  | j + 2 => oneG s (j / 4) (j % 4)
theorem bkF_at (h : Nat) (s : BS) (i k : Nat) (hk : k < 4) : bkF h s (2 + i * 4 + k) = oneG s i k := by
  rw [show 2 + i * 4 + k = (i * 4 + k) + 2 by omega]
  show oneG s ((i * 4 + k) / 4) ((i * 4 + k) % 4) = _
  rw [(rec_div i hk).1, (rec_div i hk).2]
theorem bkF_upd (h : Nat) (s s' : BS) (i k : Nat) (v : Value) (hk : k < 4) (hc : s'.c = s.c) (e : ∀ a b, b < 4 → oneG s' a b = if a = i ∧ b = k then v else oneG s a b) (j : Nat) : updF (bkF h s) (2 + i * 4 + k) v j = bkF h s' j := by
  unfold updF
  match j with
  | 0 => rw [if_neg (by omega)]; rfl
  | 1 => rw [if_neg (by omega)]; show Value.int .i64 s.c = .int .i64 s'.c; rw [hc]
  | j + 2 =>
    show _ = oneG s' (j / 4) (j % 4)
    rw [e _ _ (Nat.mod_lt _ (by omega))]
    by_cases hj : j + 2 = 2 + i * 4 + k
    · rw [if_pos hj, if_pos (by omega)]
    · rw [if_neg hj, if_neg (by omega)]; rfl

/-- A book: the struct in block g, its words in block h. -/
structure BookAt (w : World) (g h : Nat) (s : BS) : Prop where
  hdr : Arr w g 117 258 (bkF h s)
  tag : Blk w h 136 (bookCells s.last s.f)
  ne : g ≠ h
  c1 : 1 ≤ s.c ∧ s.c ≤ 64
  l0 : 0 ≤ s.last ∧ s.last ≤ 72057594037927935
section
variable {w w' : World} {g h : Nat} {s : BS} {S : List Nat} (l : BookAt w g h s)
include l
theorem BookAt.gr (k : Gr w w') : BookAt w' g h s := ⟨l.hdr.gr k, l.tag.gr k, l.ne, l.c1, l.l0⟩
theorem BookAt.ch (k : Ch S w w') (h1 : g ∉ S) (h2 : h ∉ S) : BookAt w' g h s := ⟨l.hdr.ch k h1, l.tag.ch k h2, l.ne, l.c1, l.l0⟩
theorem BookAt.head : w.cell? ⟨g, 0, none⟩ = some (.pointer (some ⟨h, 0, none⟩)) ∧ w.cell? ⟨g, 1, none⟩ = some (.int .i64 s.c) := ⟨l.hdr.cell (by omega), l.hdr.cell (by omega)⟩
theorem BookAt.one {i : Nat} (hi : i < 64) : w.cell? ⟨g, 2 + i * 4, none⟩ = some (.int .i64 (s.hm i)) ∧ w.cell? ⟨g, 2 + i * 4 + 1, none⟩ = some (.int .i64 (s.lv i)) ∧ w.cell? ⟨g, 2 + i * 4 + 2, none⟩ = some (.int .u64 (s.sc i)) ∧ w.cell? ⟨g, 2 + i * 4 + 3, none⟩ = some (.bool (s.mv i)) ∧ ∀ j, w.frozen? ⟨g, j, none⟩ = false :=
  ⟨(l.hdr.cell (by omega)).trans (congrArg some (bkF_at h s i 0 (by omega))), (l.hdr.cell (by omega)).trans (congrArg some (bkF_at h s i 1 (by omega))), (l.hdr.cell (by omega)).trans (congrArg some (bkF_at h s i 2 (by omega))), (l.hdr.cell (by omega)).trans (congrArg some (bkF_at h s i 3 (by omega))), l.hdr.frozen⟩
theorem BookAt.stH (i : Nat) (x : Int) : BookAt (w.setCell ⟨g, 2 + i * 4, none⟩ (.int .i64 x)) g h { s with hm := upd s.hm i x } :=
  ⟨(l.hdr.st (2 + i * 4 + 0) _).congr fun j _ => bkF_upd h s { s with hm := upd s.hm i x } i 0 _ (by omega) rfl (fun a b hb => by
    have : b = 0 ∨ b = 1 ∨ b = 2 ∨ b = 3 := by omega
    rcases this with rfl | rfl | rfl | rfl <;> simp [oneG, upd]
    split <;> rfl) j, l.tag.far (p := ⟨g, 2 + i * 4, none⟩) (Ne.symm l.ne) _, l.ne, l.c1, l.l0⟩
theorem BookAt.stL (i : Nat) (x : Int) : BookAt (w.setCell ⟨g, 2 + i * 4 + 1, none⟩ (.int .i64 x)) g h { s with lv := upd s.lv i x } :=
  ⟨(l.hdr.st (2 + i * 4 + 1) _).congr fun j _ => bkF_upd h s { s with lv := upd s.lv i x } i 1 _ (by omega) rfl (fun a b hb => by
    have : b = 0 ∨ b = 1 ∨ b = 2 ∨ b = 3 := by omega
    rcases this with rfl | rfl | rfl | rfl <;> simp [oneG, upd]
    split <;> rfl) j, l.tag.far (p := ⟨g, 2 + i * 4 + 1, none⟩) (Ne.symm l.ne) _, l.ne, l.c1, l.l0⟩
theorem BookAt.stS (i : Nat) (x : Int) : BookAt (w.setCell ⟨g, 2 + i * 4 + 2, none⟩ (.int .u64 x)) g h { s with sc := upd s.sc i x } :=
  ⟨(l.hdr.st (2 + i * 4 + 2) _).congr fun j _ => bkF_upd h s { s with sc := upd s.sc i x } i 2 _ (by omega) rfl (fun a b hb => by
    have : b = 0 ∨ b = 1 ∨ b = 2 ∨ b = 3 := by omega
    rcases this with rfl | rfl | rfl | rfl <;> simp [oneG, upd]
    split <;> rfl) j, l.tag.far (p := ⟨g, 2 + i * 4 + 2, none⟩) (Ne.symm l.ne) _, l.ne, l.c1, l.l0⟩
theorem BookAt.stM (i : Nat) (x : Bool) : BookAt (w.setCell ⟨g, 2 + i * 4 + 3, none⟩ (.bool x)) g h { s with mv := upd s.mv i x } :=
  ⟨(l.hdr.st (2 + i * 4 + 3) _).congr fun j _ => bkF_upd h s { s with mv := upd s.mv i x } i 3 _ (by omega) rfl (fun a b hb => by
    have : b = 0 ∨ b = 1 ∨ b = 2 ∨ b = 3 := by omega
    rcases this with rfl | rfl | rfl | rfl <;> simp [oneG, upd]) j, l.tag.far (p := ⟨g, 2 + i * 4 + 3, none⟩) (Ne.symm l.ne) _, l.ne, l.c1, l.l0⟩
theorem BookAt.tg {x : Int} {f : Nat → Int} (hw : Ch [h] w w') (hb : Blk w' h 136 (bookCells x f)) (hx : 0 ≤ x ∧ x ≤ 72057594037927935) : BookAt w' g h { s with last := x, f := f } :=
  ⟨(l.hdr.ch hw (by simpa using l.ne)).congr fun j _ => by
    match j with
    | 0 => rfl
    | 1 => rfl
    | j + 2 => rfl, hb, l.ne, l.c1, hx⟩
end

def s0 (c : Int) : BS := ⟨c, 0, fun _ => 0, fun _ => 0, fun _ => 0, fun _ => 0, fun _ => false⟩
theorem zero117 (h : Nat) (c : Int) : (Try.zeroCells117.setIfInBounds 0 (.pointer (some ⟨h, 0, none⟩))).setIfInBounds 1 (.int .i64 c) = (tab 258 (bkF h (s0 c))).toArray := by kernel_rfl
theorem bnew (c : Int) (w : World) : Calls Try.prog 46 #[.int .i64 c] w fun e w' => e = .returned (.pointer (some ⟨w.heap.size + 1, 0, none⟩)) ∧ BookAt w' (w.heap.size + 1) w.heap.size (s0 (clampI c 1 64)) ∧ Gr w w' := by
  have HB := Lib.hid (show BookAt ((w.alloc (.cells (bookCells 0 fun _ => 0) 136)).alloc (.cells (tab 258 (bkF w.heap.size (s0 (clampI c 1 64)))).toArray 117)) (w.heap.size + 1) w.heap.size (s0 (clampI c 1 64)) from
    ⟨by have := Blk.new (w.alloc (.cells (bookCells 0 fun _ => 0) 136)) 117 (tab 258 (bkF w.heap.size (s0 (clampI c 1 64)))).toArray; rw [World.size_alloc] at this; exact this, (Blk.new w 136 _).al _, by omega, by show 1 ≤ clampI c 1 64 ∧ clampI c 1 64 ≤ 64; unfold clampI; split <;> (try split) <;> omega, by show (0 : Int) ≤ 0 ∧ (0 : Int) ≤ _; omega⟩)
  have HC := Lib.hid (fun w => clamp_any c 1 64 w (by omega))
  have HN := Lib.hid (fun w => new_any 0 w)
  rw [show min (0 : Int) 72057594037927935 = 0 from rfl] at HN
  generalize clampI c 1 64 = q at *
  go_enter Try.func46, Try.ntmps46
  go_wp2_with (first | (go_at_call 97; refine (HN.out _).mono ?_; rintro e w' ⟨rfl, rfl⟩) | (go_at_call 73; refine (HC.out _).mono ?_; rintro e w' ⟨rfl, rfl⟩))
  go_ret
  rw [zero117]
  exact ⟨rfl, HB.out, ((Gr.refl w).al _).al _⟩

theorem bplace (g : Nat) (slot : Int) (w : World) : Calls Try.prog 100 #[.pointer (some ⟨g, 0, none⟩), .int .i64 slot] w fun e w' => e = .returned (.bool (placeB slot)) ∧ w = w' := by
  go_enter Try.func100, Try.ntmps100
  go_wp2
  all_goals go_ret
  all_goals (refine ⟨ret_bool ?_, rfl⟩; unfold placeB; simp_all; try omega)
theorem bplace_nil (slot : Int) (w : World) : Calls Try.prog 100 #[.pointer none, .int .i64 slot] w fun e w' => e = .returned (.bool false) ∧ w = w' := by
  go_enter Try.func100, Try.ntmps100
  go_wp2
  go_ret
  exact ⟨rfl, rfl⟩
def cpuB (c x : Int) : Bool := decide (0 ≤ x) && decide (x < c)
theorem bcpu (g h : Nat) (s : BS) (x : Int) (w : World) (l : BookAt w g h s) : Calls Try.prog 101 #[.pointer (some ⟨g, 0, none⟩), .int .i64 x] w fun e w' => e = .returned (.bool (cpuB s.c x)) ∧ w = w' := by
  obtain ⟨c0, c1⟩ := l.head
  generalize s.c = q at *
  go_enter Try.func101, Try.ntmps101
  go_wp2
  all_goals go_ret
  all_goals (refine ⟨ret_bool ?_, rfl⟩; unfold cpuB; simp_all; try omega)

/-- Does a place stand? -/
def stB (f : Nat → Int) (slot : Int) : Bool := placeB slot && decide (f slot.toNat ≠ 0)
theorem stB_yes {f : Nat → Int} {slot : Int} (h : stB f slot = true) : ∃ i : Nat, slot = i ∧ i < 64 ∧ f i ≠ 0 := by
  unfold stB at h
  simp only [Bool.and_eq_true, decide_eq_true_eq] at h
  obtain ⟨h1, h2⟩ := h
  have := (place_iff slot).1 h1
  obtain ⟨i, rfl⟩ := Int.eq_ofNat_of_zero_le this.1
  exact ⟨i, rfl, by omega, by simpa using h2⟩
theorem bstands (g h : Nat) (s : BS) (slot : Int) (w : World) (l : BookAt w g h s) : Calls Try.prog 98 #[.pointer (some ⟨g, 0, none⟩), .int .i64 slot] w fun e w' => e = .returned (.bool (stB s.f slot)) ∧ w = w' := by
  obtain ⟨c0, c1⟩ := l.head
  have HT := Lib.hid l.tag
  clear l
  by_cases h1 : placeB slot = true
  · have HP := Lib.hid h1
    by_cases h2 : s.f slot.toNat = 0
    · have HN := Lib.hid (show nowI s.f slot = 0 by unfold nowI; rw [if_pos h1, h2])
      have HS := Lib.hid (show stB s.f slot = false by unfold stB; rw [h2]; simp)
      clear h1 h2
      go_enter Try.func98, Try.ntmps98
      go_wp2_with (first | (go_at_call 100; refine (bplace _ _ _).mono ?_; rintro e w' ⟨rfl, rfl⟩; rw [HP.out]) | (go_at_call 105; refine (now_any h s.last s.f slot _ HT.out).mono ?_; rintro e w' ⟨rfl, rfl⟩; rw [HN.out]))
      go_ret
      exact ⟨ret_bool (by rw [HS.out]), rfl⟩
    · have h3 : (s.f slot.toNat != 0) = true := by simpa using h2
      have HN := Lib.hid (show nowI s.f slot = s.f slot.toNat by unfold nowI; rw [if_pos h1])
      have HS := Lib.hid (show stB s.f slot = true by unfold stB; rw [h1]; simpa using h2)
      clear h1 h2
      generalize s.f slot.toNat = z at *
      go_enter Try.func98, Try.ntmps98
      go_wp2_with (first | (go_at_call 100; refine (bplace _ _ _).mono ?_; rintro e w' ⟨rfl, rfl⟩; rw [HP.out]) | (go_at_call 105; refine (now_any h s.last s.f slot _ HT.out).mono ?_; rintro e w' ⟨rfl, rfl⟩; rw [HN.out]))
      go_ret
      exact ⟨ret_bool (by rw [HS.out]), rfl⟩
  · have h1 : placeB slot = false := by simpa using h1
    have HP := Lib.hid h1
    have HS := Lib.hid (show stB s.f slot = false by unfold stB; rw [h1]; rfl)
    clear h1
    go_enter Try.func98, Try.ntmps98
    go_wp2_with (first | (go_at_call 100; refine (bplace _ _ _).mono ?_; rintro e w' ⟨rfl, rfl⟩; rw [HP.out]))
    go_ret
    exact ⟨ret_bool (by rw [HS.out]), rfl⟩
theorem bstands_nil (slot : Int) (w : World) : Calls Try.prog 98 #[.pointer none, .int .i64 slot] w fun e w' => e = .returned (.bool false) ∧ w = w' := by
  go_enter Try.func98, Try.ntmps98
  go_wp2_with (go_at_call 100; refine (bplace_nil _ _).mono ?_; rintro e w' ⟨rfl, rfl⟩)
  go_ret
  exact ⟨rfl, rfl⟩
end Go.Proofs.Ytkkobbomipcpoaa
