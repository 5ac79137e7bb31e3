/- Contracts of the functions of chapter 14 (lines), for every input: what each returns, and what it does to its lines. -/
import Derived.Test.YtfppmdnpjihcpaaProg
import Derived.Test.YtfppmdnpjihcpaaKit4
namespace Go.Proofs.Ytfppmdnpjihcpaa
open Go.RowKit
set_option linter.unusedVariables false

namespace LinesP
def upd {α : Type} (f : Nat → α) (i : Nat) (x : α) : Nat → α := fun j => if j = i then x else f j
def clampI (x lo hi : Int) : Int := if x < lo then lo else min x hi
/-- A processor's line, cell by cell. -/
def lineG (t c : Nat → Bool) (d : Nat → Int) (i k : Nat) : Value := match k with | 0 => .bool false | 1 => .bool (t i) | 2 => .bool (c i) | _ => .int .i64 (d i)
/-- What is taken next of processor i. -/
def nextI (t c : Nat → Bool) (d : Nat → Int) (i : Nat) : Int := if 0 < d i then 0 else if t i then 1 else if c i then 2 else 0
def takeT (t c : Nat → Bool) (d : Nat → Int) (i : Nat) : Nat → Bool := if nextI t c d i = 1 then upd t i false else t
def takeC (t c : Nat → Bool) (d : Nat → Int) (i : Nat) : Nat → Bool := if nextI t c d i = 2 then upd c i false else c
end LinesP
open LinesP

theorem clamp_any (x lo hi : Int) (w : World) : Calls Try.prog 60 #[.int .i64 x, .int .i64 lo, .int .i64 hi] w fun e w' => e = .returned (.int .i64 (clampI x lo hi)) ∧ w = w' := by
  go_enter Try.func60, Try.ntmps60
  go_wp2
  all_goals go_ret
  all_goals (refine ⟨ret_int ?_, rfl⟩; unfold clampI; omega)

theorem el110 : Elem Try.prog 110 117 (.agg #[.bool false, .bool false, .bool false, .int .i64 0]) 4 16 := ⟨Try.underlying110, by kernel_rfl, rfl, by decide⟩

/-- Lines of m processors: the struct in block g, the row in block h. -/
structure LinesAt (w : World) (g h m : Nat) (t c : Nat → Bool) (d : Nat → Int) : Prop where
  hdr : Blk w g 112 #[.slice (some ⟨h, 0, none⟩) m m]
  row : Blk w h 117 (recs m 4 (lineG t c d))
  ne : g ≠ h
  le : m ≤ 64
theorem LinesAt.gr {w w' : World} {g h m : Nat} {t c : Nat → Bool} {d : Nat → Int} (l : LinesAt w g h m t c d) (k : Gr w w') : LinesAt w' g h m t c d := ⟨l.hdr.gr k, l.row.gr k, l.ne, l.le⟩
theorem LinesAt.ch {w w' : World} {g h m : Nat} {t c : Nat → Bool} {d : Nat → Int} {S : List Nat} (l : LinesAt w g h m t c d) (k : Ch S w w') (h1 : g ∉ S) (h2 : h ∉ S) : LinesAt w' g h m t c d := ⟨l.hdr.ch k h1, l.row.ch k h2, l.ne, l.le⟩

theorem lnew_any (n : Int) (w : World) :
    Calls Try.prog 22 #[.int .i64 n] w fun e w' => e = .returned (.pointer (some ⟨w.heap.size + 1, 0, none⟩)) ∧
      LinesAt w' (w.heap.size + 1) w.heap.size (clampI n 0 64).toNat (fun _ => false) (fun _ => false) (fun _ => 0) ∧ Gr w w' := by
  obtain ⟨m, hm⟩ := Int.eq_ofNat_of_zero_le (show 0 ≤ clampI n 0 64 by unfold clampI; omega)
  have hle : m ≤ 64 := by unfold clampI at hm; omega
  have HM := Lib.hid hm
  clear hm
  have hmk := run_make_recs el110 m (by omega) (by omega)
  rw [show (recs m 4 fun _ k => (Value.agg #[.bool false, .bool false, .bool false, .int .i64 0]).cells[k]!) = recs m 4 (lineG (fun _ => false) (fun _ => false) fun _ => 0) from
    recs_congr _ _ _ _ fun i k _ hk => by
      have : k = 0 ∨ k = 1 ∨ k = 2 ∨ k = 3 := by omega
      rcases this with rfl | rfl | rfl | rfl <;> rfl] at hmk
  go_enter Try.func22, Try.ntmps22
  go_wp2_with (go_at_call 60; refine (clamp_any _ _ _ _).mono ?_; rintro e w' ⟨rfl, rfl⟩; rw [HM.out])
  go_ret
  refine ⟨rfl, ⟨?_, ?_, by omega, ?_⟩, ((Gr.refl w).al _).al _⟩
  · rw [HM.out]
    have := Blk.new (w.alloc (.cells (recs m 4 (lineG (fun _ => false) (fun _ => false) fun _ => 0)) 117)) 112 #[.slice (some ⟨w.heap.size, 0, none⟩) m m]
    rwa [World.size_alloc] at this
  · rw [HM.out]
    exact (Blk.new w 117 _).al _
  · rw [HM.out]; exact hle

theorem n_nil (w : World) : Calls Try.prog 32 #[.pointer none] w fun e w' => e = .returned (.int .i64 0) ∧ w = w' := by
  go_enter Try.func32, Try.ntmps32
  go_wp2
  go_ret
  exact ⟨rfl, rfl⟩
theorem n_any (g h m : Nat) (t c : Nat → Bool) (d : Nat → Int) (w : World) (l : LinesAt w g h m t c d) : Calls Try.prog 32 #[.pointer (some ⟨g, 0, none⟩)] w fun e w' => e = .returned (.int .i64 m) ∧ w = w' := by
  obtain ⟨c0, f0⟩ := l.hdr.c1
  go_enter Try.func32, Try.ntmps32
  go_wp2
  go_ret
  exact ⟨rfl, rfl⟩

/-- There is no such processor, or there are no lines. -/
def NoLine (w : World) (p : Option Addr) (x : Int) : Prop := p = none ∨ ∃ g h m t c d, p = some ⟨g, 0, none⟩ ∧ LinesAt w g h m t c d ∧ ¬ (0 ≤ x ∧ x < m)
theorem NoLine.gr {w w' : World} {p : Option Addr} {x : Int} (h : NoLine w p x) (g : Gr w w') : NoLine w' p x := by
  rcases h with h | ⟨g', h', m, t, c, d, h1, h2, h3⟩
  · exact .inl h
  · exact .inr ⟨g', h', m, t, c, d, h1, h2.gr g, h3⟩

theorem at_none (p : Option Addr) (x : Int) (w : World) (hn : NoLine w p x) : Calls Try.prog 67 #[.pointer p, .int .i64 x] w fun e w' => e = .returned (.pointer none) ∧ w = w' := by
  rcases hn with rfl | ⟨g, h, m, t, c, d, rfl, l, hx⟩
  · by_cases h0 : x < 0
    · go_enter Try.func67, Try.ntmps67
      go_wp2
      go_ret
      exact ⟨rfl, rfl⟩
    · have hd : decide (x < 0) = false := by simpa using h0
      go_enter Try.func67, Try.ntmps67
      go_wp2_with (go_at_call 32; refine (n_nil _).mono ?_; rintro e w' ⟨rfl, rfl⟩)
      go_ret
      exact ⟨rfl, rfl⟩
  · by_cases h0 : x < 0
    · go_enter Try.func67, Try.ntmps67
      go_wp2
      go_ret
      exact ⟨rfl, rfl⟩
    · have hd : decide (x < 0) = false := by simpa using h0
      have hm : (m : Int) ≤ x := by omega
      go_enter Try.func67, Try.ntmps67
      go_wp2_with (go_at_call 32; refine (n_any g h m t c d _ l).mono ?_; rintro e w' ⟨rfl, rfl⟩)
      go_ret
      exact ⟨rfl, rfl⟩
theorem at_some (g h m : Nat) (t c : Nat → Bool) (d : Nat → Int) (i : Nat) (w : World) (l : LinesAt w g h m t c d) (hi : i < m) :
    Calls Try.prog 67 #[.pointer (some ⟨g, 0, none⟩), .int .i64 i] w fun e w' => e = .returned (.pointer (some ⟨h, i * 4, none⟩)) ∧ w = w' := by
  obtain ⟨c0, f0⟩ := l.hdr.c1
  have hle := l.le
  have hd : decide ((m : Int) ≤ (i : Int)) = false := by simp; omega
  go_enter Try.func67, Try.ntmps67
  go_wp2_with (go_at_call 32; refine (n_any g h m t c d _ l).mono ?_; rintro e w' ⟨rfl, rfl⟩)
  go_ret
  exact ⟨rfl, rfl⟩

theorem lineG_t (t c : Nat → Bool) (d : Nat → Int) (m i : Nat) (b : Bool) : recs m 4 (setG (lineG t c d) i 1 (.bool b)) = recs m 4 (lineG (upd t i b) c d) :=
  recs_congr _ _ _ _ fun j k _ hk => by
    have : k = 0 ∨ k = 1 ∨ k = 2 ∨ k = 3 := by omega
    rcases this with rfl | rfl | rfl | rfl <;> simp [setG, lineG, upd]
    all_goals (split <;> rfl)
theorem lineG_c (t c : Nat → Bool) (d : Nat → Int) (m i : Nat) (b : Bool) : recs m 4 (setG (lineG t c d) i 2 (.bool b)) = recs m 4 (lineG t (upd c i b) d) :=
  recs_congr _ _ _ _ fun j k _ hk => by
    have : k = 0 ∨ k = 1 ∨ k = 2 ∨ k = 3 := by omega
    rcases this with rfl | rfl | rfl | rfl <;> simp [setG, lineG, upd]
    all_goals (split <;> rfl)
theorem lineG_d (t c : Nat → Bool) (d : Nat → Int) (m i : Nat) (x : Int) : recs m 4 (setG (lineG t c d) i 3 (.int .i64 x)) = recs m 4 (lineG t c (upd d i x)) :=
  recs_congr _ _ _ _ fun j k _ hk => by
    have : k = 0 ∨ k = 1 ∨ k = 2 ∨ k = 3 := by omega
    rcases this with rfl | rfl | rfl | rfl <;> simp [setG, lineG, upd]
    all_goals (split <;> rfl)
/-- The cells of processor i, and a store into each. -/
theorem LinesAt.cells {w : World} {g h m : Nat} {t c : Nat → Bool} {d : Nat → Int} (l : LinesAt w g h m t c d) {i : Nat} (hi : i < m) :
    w.cell? ⟨h, i * 4 + 1, none⟩ = some (.bool (t i)) ∧ w.cell? ⟨h, i * 4 + 2, none⟩ = some (.bool (c i)) ∧ w.cell? ⟨h, i * 4 + 3, none⟩ = some (.int .i64 (d i)) ∧ ∀ j, w.frozen? ⟨h, j, none⟩ = false :=
  ⟨(l.row.cell _).trans (recs_get m 4 _ i 1 hi (by omega)), (l.row.cell _).trans (recs_get m 4 _ i 2 hi (by omega)), (l.row.cell _).trans (recs_get m 4 _ i 3 hi (by omega)), l.row.frozen⟩
theorem LinesAt.st_t {w : World} {g h m : Nat} {t c : Nat → Bool} {d : Nat → Int} (l : LinesAt w g h m t c d) (i : Nat) (b : Bool) : LinesAt (w.setCell ⟨h, i * 4 + 1, none⟩ (.bool b)) g h m (upd t i b) c d :=
  ⟨l.hdr.far (p := ⟨h, i * 4 + 1, none⟩) l.ne _, by have := l.row.st (i * 4 + 1) (.bool b); rwa [recs_set _ _ _ _ _ _ (by omega), lineG_t] at this, l.ne, l.le⟩
theorem LinesAt.st_c {w : World} {g h m : Nat} {t c : Nat → Bool} {d : Nat → Int} (l : LinesAt w g h m t c d) (i : Nat) (b : Bool) : LinesAt (w.setCell ⟨h, i * 4 + 2, none⟩ (.bool b)) g h m t (upd c i b) d :=
  ⟨l.hdr.far (p := ⟨h, i * 4 + 2, none⟩) l.ne _, by have := l.row.st (i * 4 + 2) (.bool b); rwa [recs_set _ _ _ _ _ _ (by omega), lineG_c] at this, l.ne, l.le⟩
theorem LinesAt.st_d {w : World} {g h m : Nat} {t c : Nat → Bool} {d : Nat → Int} (l : LinesAt w g h m t c d) (i : Nat) (x : Int) : LinesAt (w.setCell ⟨h, i * 4 + 3, none⟩ (.int .i64 x)) g h m t c (upd d i x) :=
  ⟨l.hdr.far (p := ⟨h, i * 4 + 3, none⟩) l.ne _, by have := l.row.st (i * 4 + 3) (.int .i64 x); rwa [recs_set _ _ _ _ _ _ (by omega), lineG_d] at this, l.ne, l.le⟩

theorem set_none (p : Option Addr) (x k : Int) (b : Bool) (w : World) (hn : NoLine w p x) : Calls Try.prog 68 #[.pointer p, .int .i64 x, .int .i64 k, .bool b] w fun e w' => e = .returned (.tuple #[]) ∧ w = w' := by
  have C := Lib.hid (at_none p x w hn)
  clear hn
  go_enter Try.func68, Try.ntmps68
  go_wp2_with (go_at_call 67; refine (C.out).mono ?_; rintro e w' ⟨rfl, rfl⟩)
  go_end0
  exact ⟨rfl, rfl⟩
theorem set_t (g h m : Nat) (t c : Nat → Bool) (d : Nat → Int) (i : Nat) (b : Bool) (w : World) (l : LinesAt w g h m t c d) (hi : i < m) :
    Calls Try.prog 68 #[.pointer (some ⟨g, 0, none⟩), .int .i64 i, .int .i64 1, .bool b] w fun e w' => e = .returned (.tuple #[]) ∧ LinesAt w' g h m (upd t i b) c d ∧ Ch [h] w w' := by
  have C := Lib.hid (at_some g h m t c d i w l hi)
  obtain ⟨c1, c2, c3, cf⟩ := l.cells hi
  go_enter Try.func68, Try.ntmps68
  go_wp2_with (go_at_call 67; refine (C.out).mono ?_; rintro e w' ⟨rfl, rfl⟩)
  go_end0
  exact ⟨rfl, l.st_t i b, (Ch.refl _ _).st (by simp) _⟩
theorem set_c (g h m : Nat) (t c : Nat → Bool) (d : Nat → Int) (i : Nat) (b : Bool) (w : World) (l : LinesAt w g h m t c d) (hi : i < m) :
    Calls Try.prog 68 #[.pointer (some ⟨g, 0, none⟩), .int .i64 i, .int .i64 2, .bool b] w fun e w' => e = .returned (.tuple #[]) ∧ LinesAt w' g h m t (upd c i b) d ∧ Ch [h] w w' := by
  have C := Lib.hid (at_some g h m t c d i w l hi)
  obtain ⟨c1, c2, c3, cf⟩ := l.cells hi
  go_enter Try.func68, Try.ntmps68
  go_wp2_with (go_at_call 67; refine (C.out).mono ?_; rintro e w' ⟨rfl, rfl⟩)
  go_end0
  exact ⟨rfl, l.st_c i b, (Ch.refl _ _).st (by simp) _⟩
theorem raise_none (p : Option Addr) (x : Int) (w : World) (hn : NoLine w p x) : Calls Try.prog 24 #[.pointer p, .int .i64 x] w fun e w' => e = .returned (.tuple #[]) ∧ w = w' := by
  have C := Lib.hid (fun k b => set_none p x k b w hn)
  clear hn
  go_enter Try.func24, Try.ntmps24
  go_wp2_with (go_at_call 68; refine (C.out _ _).mono ?_; rintro e w' ⟨rfl, rfl⟩)
  go_end0
  exact ⟨rfl, rfl⟩
theorem post_none (p : Option Addr) (x : Int) (w : World) (hn : NoLine w p x) : Calls Try.prog 25 #[.pointer p, .int .i64 x] w fun e w' => e = .returned (.tuple #[]) ∧ w = w' := by
  have C := Lib.hid (fun k b => set_none p x k b w hn)
  clear hn
  go_enter Try.func25, Try.ntmps25
  go_wp2_with (go_at_call 68; refine (C.out _ _).mono ?_; rintro e w' ⟨rfl, rfl⟩)
  go_end0
  exact ⟨rfl, rfl⟩
theorem raise_some (g h m : Nat) (t c : Nat → Bool) (d : Nat → Int) (i : Nat) (w : World) (l : LinesAt w g h m t c d) (hi : i < m) :
    Calls Try.prog 24 #[.pointer (some ⟨g, 0, none⟩), .int .i64 i] w fun e w' => e = .returned (.tuple #[]) ∧ LinesAt w' g h m (upd t i true) c d ∧ Ch [h] w w' := by
  have C := Lib.hid (set_t g h m t c d i true w l hi)
  go_enter Try.func24, Try.ntmps24
  go_wp2_with (go_at_call 68; refine (C.out).mono ?_; rintro e w' ⟨rfl, h1, h2⟩)
  go_end0
  exact ⟨rfl, h1, h2⟩
theorem post_some (g h m : Nat) (t c : Nat → Bool) (d : Nat → Int) (i : Nat) (w : World) (l : LinesAt w g h m t c d) (hi : i < m) :
    Calls Try.prog 25 #[.pointer (some ⟨g, 0, none⟩), .int .i64 i] w fun e w' => e = .returned (.tuple #[]) ∧ LinesAt w' g h m t (upd c i true) d ∧ Ch [h] w w' := by
  have C := Lib.hid (set_c g h m t c d i true w l hi)
  go_enter Try.func25, Try.ntmps25
  go_wp2_with (go_at_call 68; refine (C.out).mono ?_; rintro e w' ⟨rfl, h1, h2⟩)
  go_end0
  exact ⟨rfl, h1, h2⟩

theorem enter_none (p : Option Addr) (x : Int) (w : World) (hn : NoLine w p x) : Calls Try.prog 23 #[.pointer p, .int .i64 x] w fun e w' => e = .returned (.bool false) ∧ w = w' := by
  have C := Lib.hid (at_none p x w hn)
  clear hn
  go_enter Try.func23, Try.ntmps23
  go_wp2_with (go_at_call 67; refine (C.out).mono ?_; rintro e w' ⟨rfl, rfl⟩)
  go_ret
  exact ⟨rfl, rfl⟩
theorem leave_none (p : Option Addr) (x : Int) (w : World) (hn : NoLine w p x) : Calls Try.prog 28 #[.pointer p, .int .i64 x] w fun e w' => e = .returned (.bool false) ∧ w = w' := by
  have C := Lib.hid (at_none p x w hn)
  clear hn
  go_enter Try.func28, Try.ntmps28
  go_wp2_with (go_at_call 67; refine (C.out).mono ?_; rintro e w' ⟨rfl, rfl⟩)
  go_ret
  exact ⟨rfl, rfl⟩
theorem depth_none (p : Option Addr) (x : Int) (w : World) (hn : NoLine w p x) : Calls Try.prog 26 #[.pointer p, .int .i64 x] w fun e w' => e = .returned (.int .i64 0) ∧ w = w' := by
  have C := Lib.hid (at_none p x w hn)
  clear hn
  go_enter Try.func26, Try.ntmps26
  go_wp2_with (go_at_call 67; refine (C.out).mono ?_; rintro e w' ⟨rfl, rfl⟩)
  go_ret
  exact ⟨rfl, rfl⟩
theorem next_none (p : Option Addr) (x : Int) (w : World) (hn : NoLine w p x) : Calls Try.prog 29 #[.pointer p, .int .i64 x] w fun e w' => e = .returned (.int .i64 0) ∧ w = w' := by
  have C := Lib.hid (at_none p x w hn)
  clear hn
  go_enter Try.func29, Try.ntmps29
  go_wp2_with (go_at_call 67; refine (C.out).mono ?_; rintro e w' ⟨rfl, rfl⟩)
  go_ret
  exact ⟨rfl, rfl⟩
theorem take_none (p : Option Addr) (x : Int) (w : World) (hn : NoLine w p x) : Calls Try.prog 27 #[.pointer p, .int .i64 x] w fun e w' => e = .returned (.int .i64 0) ∧ w = w' := by
  have C := Lib.hid (next_none p x w hn)
  clear hn
  go_enter Try.func27, Try.ntmps27
  go_wp2_with (go_at_call 29; refine (C.out).mono ?_; rintro e w' ⟨rfl, rfl⟩)
  go_ret
  exact ⟨rfl, rfl⟩
theorem waits_none (p : Option Addr) (x : Int) (w : World) (hn : NoLine w p x) : Calls Try.prog 34 #[.pointer p, .int .i64 x] w fun e w' => e = .returned (.tuple #[.bool false, .bool false]) ∧ w = w' := by
  have C := Lib.hid (at_none p x w hn)
  clear hn
  go_enter Try.func34, Try.ntmps34
  go_wp2_with (go_at_call 67; refine (C.out).mono ?_; rintro e w' ⟨rfl, rfl⟩)
  go_ret2
  exact ⟨rfl, rfl⟩

section
variable (g h m : Nat) (t c : Nat → Bool) (d : Nat → Int) (i : Nat) (w : World) (l : LinesAt w g h m t c d) (hi : i < m)
include l hi
theorem enter_some (hd : 0 ≤ d i ∧ d i < 255) : Calls Try.prog 23 #[.pointer (some ⟨g, 0, none⟩), .int .i64 i] w fun e w' => e = .returned (.bool true) ∧ LinesAt w' g h m t c (upd d i (d i + 1)) ∧ Ch [h] w w' := by
  have C := Lib.hid (at_some g h m t c d i w l hi)
  obtain ⟨c1, c2, c3, cf⟩ := l.cells hi
  have hst := Lib.hid (l.st_d i (d i + 1))
  have h255 : (d i == 255) = false := by simp; omega
  generalize d i = q at *
  go_enter Try.func23, Try.ntmps23
  go_wp2_with (go_at_call 67; refine (C.out).mono ?_; rintro e w' ⟨rfl, rfl⟩)
  go_ret
  exact ⟨rfl, hst.out, (Ch.refl _ _).st (by simp) _⟩
theorem enter_full (hd : d i = 255) : Calls Try.prog 23 #[.pointer (some ⟨g, 0, none⟩), .int .i64 i] w fun e w' => e = .returned (.bool false) ∧ w = w' := by
  have C := Lib.hid (at_some g h m t c d i w l hi)
  obtain ⟨c1, c2, c3, cf⟩ := l.cells hi
  rw [hd] at c3
  go_enter Try.func23, Try.ntmps23
  go_wp2_with (go_at_call 67; refine (C.out).mono ?_; rintro e w' ⟨rfl, rfl⟩)
  go_ret
  exact ⟨rfl, rfl⟩
theorem leave_some (hd : 0 < d i ∧ d i ≤ 255) : Calls Try.prog 28 #[.pointer (some ⟨g, 0, none⟩), .int .i64 i] w fun e w' => e = .returned (.bool true) ∧ LinesAt w' g h m t c (upd d i (d i - 1)) ∧ Ch [h] w w' := by
  have C := Lib.hid (at_some g h m t c d i w l hi)
  obtain ⟨c1, c2, c3, cf⟩ := l.cells hi
  have hst := Lib.hid (l.st_d i (d i - 1))
  have h0 : (d i == 0) = false := by simp; omega
  generalize d i = q at *
  go_enter Try.func28, Try.ntmps28
  go_wp2_with (go_at_call 67; refine (C.out).mono ?_; rintro e w' ⟨rfl, rfl⟩)
  go_ret
  exact ⟨rfl, hst.out, (Ch.refl _ _).st (by simp) _⟩
theorem leave_zero (hd : d i = 0) : Calls Try.prog 28 #[.pointer (some ⟨g, 0, none⟩), .int .i64 i] w fun e w' => e = .returned (.bool false) ∧ w = w' := by
  have C := Lib.hid (at_some g h m t c d i w l hi)
  obtain ⟨c1, c2, c3, cf⟩ := l.cells hi
  rw [hd] at c3
  go_enter Try.func28, Try.ntmps28
  go_wp2_with (go_at_call 67; refine (C.out).mono ?_; rintro e w' ⟨rfl, rfl⟩)
  go_ret
  exact ⟨rfl, rfl⟩
theorem depth_some : Calls Try.prog 26 #[.pointer (some ⟨g, 0, none⟩), .int .i64 i] w fun e w' => e = .returned (.int .i64 (d i)) ∧ w = w' := by
  have C := Lib.hid (at_some g h m t c d i w l hi)
  obtain ⟨c1, c2, c3, cf⟩ := l.cells hi
  generalize d i = q at *
  go_enter Try.func26, Try.ntmps26
  go_wp2_with (go_at_call 67; refine (C.out).mono ?_; rintro e w' ⟨rfl, rfl⟩)
  go_ret
  exact ⟨rfl, rfl⟩
theorem waits_some : Calls Try.prog 34 #[.pointer (some ⟨g, 0, none⟩), .int .i64 i] w fun e w' => e = .returned (.tuple #[.bool (t i), .bool (c i)]) ∧ Gr w w' := by
  have C := Lib.hid (at_some g h m t c d i w l hi)
  obtain ⟨c1, c2, c3, cf⟩ := l.cells hi
  generalize t i = q at *
  generalize c i = r at *
  go_enter Try.func34, Try.ntmps34
  go_wp2_with (go_at_call 67; refine (C.out).mono ?_; rintro e w' ⟨rfl, rfl⟩)
  go_quiet (fail)
  go_wp2
  go_ret2
  exact ⟨rfl, (Gr.refl _).drewN _⟩
theorem next_some : Calls Try.prog 29 #[.pointer (some ⟨g, 0, none⟩), .int .i64 i] w fun e w' => e = .returned (.int .i64 (nextI t c d i)) ∧ w = w' := by
  have C := Lib.hid (at_some g h m t c d i w l hi)
  obtain ⟨c1, c2, c3, cf⟩ := l.cells hi
  by_cases hd : 0 < d i
  · have HN := Lib.hid (show nextI t c d i = 0 by unfold nextI; rw [if_pos hd])
    generalize d i = q at c3 hd
    go_enter Try.func29, Try.ntmps29
    go_wp2_with (go_at_call 67; refine (C.out).mono ?_; rintro e w' ⟨rfl, rfl⟩)
    go_ret
    exact ⟨ret_int (by rw [HN.out]), rfl⟩
  · have hd' : decide (0 < d i) = false := by simpa using hd
    have HN := Lib.hid (show nextI t c d i = if t i then 1 else if c i then 2 else 0 by unfold nextI; rw [if_neg hd])
    generalize d i = q at c3 hd hd'
    go_enter Try.func29, Try.ntmps29
    go_wp2_with (go_at_call 67; refine (C.out).mono ?_; rintro e w' ⟨rfl, rfl⟩)
    generalize t i = ti at *
    generalize c i = ci at *
    go_loop [6] (fun k => ∃ j : Nat, (j = 1 ∨ (j = 2 ∧ ti = false) ∨ (j = 3 ∧ ti = false ∧ ci = false)) ∧ k = .int .i64 j) (fun k => 3 - (intOf k).toNat)
    case atStart => exact ⟨1, .inl rfl, rfl⟩
    case round =>
      obtain ⟨j, hj, rfl⟩ := hrel
      rcases hj with rfl | ⟨rfl, rfl⟩ | ⟨rfl, rfl, rfl⟩
      · cases ti
        · go_wp2
          go_round
          case rel => exact ⟨2, .inr (.inl ⟨rfl, by trivial⟩), rfl⟩
          case measure => simp [intOf]
        · go_wp2
          go_ret
          exact ⟨ret_int (by rw [HN.out]; rfl), rfl⟩
      · cases ci
        · go_wp2
          go_round
          case rel => exact ⟨3, .inr (.inr ⟨rfl, by trivial, by trivial⟩), rfl⟩
          case measure => simp [intOf]
        · go_wp2
          go_ret
          exact ⟨ret_int (by rw [HN.out]; rfl), rfl⟩
      · go_wp2
        go_ret
        exact ⟨ret_int (by rw [HN.out]; rfl), rfl⟩
/-- What Take leaves: the one that was next waits no more. -/
theorem take_some : Calls Try.prog 27 #[.pointer (some ⟨g, 0, none⟩), .int .i64 i] w fun e w' => e = .returned (.int .i64 (nextI t c d i)) ∧
    LinesAt w' g h m (takeT t c d i) (takeC t c d i) d ∧ Ch [h] w w' := by
  have C := Lib.hid (next_some g h m t c d i w l hi)
  have C1 := Lib.hid (set_t g h m t c d i false w l hi)
  have C2 := Lib.hid (set_c g h m t c d i false w l hi)
  have hc : nextI t c d i = 0 ∨ nextI t c d i = 1 ∨ nextI t c d i = 2 := by unfold nextI; split; exact .inl rfl; split; exact .inr (.inl rfl); split; exact .inr (.inr rfl); exact .inl rfl
  rcases hc with hc | hc | hc
  · have HT := Lib.hid (show takeT t c d i = t ∧ takeC t c d i = c by unfold takeT takeC; rw [hc]; exact ⟨rfl, rfl⟩)
    rw [HT.out.1, HT.out.2]
    rw [hc] at C ⊢
    clear hc
    go_enter Try.func27, Try.ntmps27
    go_wp2_with (go_at_call 29; refine (C.out).mono ?_; rintro e w' ⟨rfl, rfl⟩)
    go_ret
    exact ⟨rfl, l, Ch.refl _ _⟩
  · have HT := Lib.hid (show takeT t c d i = upd t i false ∧ takeC t c d i = c by unfold takeT takeC; rw [hc]; exact ⟨rfl, rfl⟩)
    rw [HT.out.1, HT.out.2]
    rw [hc] at C ⊢
    clear hc
    go_enter Try.func27, Try.ntmps27
    go_wp2_with (first | (go_at_call 29; refine (C.out).mono ?_; rintro e w' ⟨rfl, rfl⟩) | (go_at_call 68; refine (C1.out).mono ?_; rintro e w' ⟨rfl, l1, k1⟩))
    go_ret
    exact ⟨rfl, l1, k1⟩
  · have HT := Lib.hid (show takeT t c d i = t ∧ takeC t c d i = upd c i false by unfold takeT takeC; rw [hc]; exact ⟨rfl, rfl⟩)
    rw [HT.out.1, HT.out.2]
    rw [hc] at C ⊢
    clear hc
    go_enter Try.func27, Try.ntmps27
    go_wp2_with (first | (go_at_call 29; refine (C.out).mono ?_; rintro e w' ⟨rfl, rfl⟩) | (go_at_call 68; refine (C2.out).mono ?_; rintro e w' ⟨rfl, l1, k1⟩))
    go_ret
    exact ⟨rfl, l1, k1⟩
end

theorem awake14_any (w : World) : Calls Try.prog 30 #[] w fun e w' => e = .returned (.bool true) ∧ Gr w w' := by
  go_enter Try.func30, Try.ntmps30
  go_wp2_with fail
  refine (lnew_any 1 _).mono ?_
  rintro e w1 ⟨rfl, l1, g1⟩
  rw [show (clampI 1 0 64).toNat = 1 from rfl] at l1
  have hB : w.heap.size ≤ w.heap.size := Nat.le_refl _
  go_wp2_with fail
  refine (post_some _ _ 1 _ _ _ 0 _ l1 (by omega)).mono ?_
  rintro e w2 ⟨rfl, l2, k2⟩
  go_wp2_with fail
  refine (raise_some _ _ 1 _ _ _ 0 _ l2 (by omega)).mono ?_
  rintro e w3 ⟨rfl, l3, k3⟩
  go_wp2_with fail
  refine (take_some _ _ 1 _ _ _ 0 _ l3 (by omega)).mono ?_
  rintro e w4 ⟨rfl, l4, k4⟩
  rw [show nextI (upd (fun _ => false) 0 true) (upd (fun _ => false) 0 true) (fun _ => 0) 0 = 1 from rfl]
  go_wp2_with fail
  refine (take_some _ _ 1 _ _ _ 0 _ l4 (by omega)).mono ?_
  rintro e w5 ⟨rfl, l5, k5⟩
  rw [show nextI (takeT (upd (fun _ => false) 0 true) (upd (fun _ => false) 0 true) (fun _ => 0) 0) (takeC (upd (fun _ => false) 0 true) (upd (fun _ => false) 0 true) (fun _ => 0) 0) (fun _ => 0) 0 = 2 from rfl]
  have c6 := take_some _ _ 1 _ _ _ 0 _ l5 (by omega)
  have c7 := fun w' (hl : LinesAt w' _ _ 1 _ _ _) => n_any (w.heap.size + 1) w.heap.size 1 (takeT (takeT (takeT (upd (fun _ => false) 0 true) (upd (fun _ => false) 0 true) (fun _ => 0) 0) (takeC (upd (fun _ => false) 0 true) (upd (fun _ => false) 0 true) (fun _ => 0) 0) (fun _ => 0) 0)
      (takeC (takeT (upd (fun _ => false) 0 true) (upd (fun _ => false) 0 true) (fun _ => 0) 0) (takeC (upd (fun _ => false) 0 true) (upd (fun _ => false) 0 true) (fun _ => 0) 0) (fun _ => 0) 0) (fun _ => 0) 0)
      (takeC (takeT (takeT (upd (fun _ => false) 0 true) (upd (fun _ => false) 0 true) (fun _ => 0) 0) (takeC (upd (fun _ => false) 0 true) (upd (fun _ => false) 0 true) (fun _ => 0) 0) (fun _ => 0) 0)
      (takeC (takeT (upd (fun _ => false) 0 true) (upd (fun _ => false) 0 true) (fun _ => 0) 0) (takeC (upd (fun _ => false) 0 true) (upd (fun _ => false) 0 true) (fun _ => 0) 0) (fun _ => 0) 0) (fun _ => 0) 0) (fun _ => 0) w' hl
  rw [show nextI (takeT (takeT (upd (fun _ => false) 0 true) (upd (fun _ => false) 0 true) (fun _ => 0) 0) (takeC (upd (fun _ => false) 0 true) (upd (fun _ => false) 0 true) (fun _ => 0) 0) (fun _ => 0) 0)
      (takeC (takeT (upd (fun _ => false) 0 true) (upd (fun _ => false) 0 true) (fun _ => 0) 0) (takeC (upd (fun _ => false) 0 true) (upd (fun _ => false) 0 true) (fun _ => 0) 0) (fun _ => 0) 0) (fun _ => 0) 0 = 0 from rfl] at c6
  have C6 := Lib.hid c6
  have C7 := Lib.hid c7
  clear c6 c7
  go_wp2_with (first | (go_at_call 27; refine (C6.out).mono ?_; rintro e w6 ⟨rfl, l6, k6⟩) | (go_at_call 32; refine (C7.out _ l6).mono ?_; rintro e w7 ⟨rfl, rfl⟩))
  go_ret
  exact ⟨rfl, ((((g1.chs k2 (by simp)).chs k3 (by simp)).chs k4 (by simp)).chs k5 (by simp)).chs k6 (by simp)⟩

theorem linesNil_walk (x : Int) (w : World) (_hx : -9223372036854775808 ≤ x ∧ x ≤ 9223372036854775807) :
    Calls Try.prog 7 #[.int .i64 x] w fun e w' => e = .returned (.bool true) ∧ Gr w w' := by
  have hn : NoLine w none x := .inl rfl
  go_enter Try.func7, Try.ntmps7
  go_wp2_with (first
    | (go_at_call 24; refine (raise_none _ _ _ (.inl rfl)).mono ?_; rintro e w' ⟨rfl, rfl⟩)
    | (go_at_call 25; refine (post_none _ _ _ (.inl rfl)).mono ?_; rintro e w' ⟨rfl, rfl⟩)
    | (go_at_call 34; refine (waits_none _ _ _ (.inl rfl)).mono ?_; rintro e w' ⟨rfl, rfl⟩)
    | (go_at_call 32; refine (n_nil _).mono ?_; rintro e w' ⟨rfl, rfl⟩)
    | (go_at_call 23; refine (enter_none _ _ _ (.inl rfl)).mono ?_; rintro e w' ⟨rfl, rfl⟩)
    | (go_at_call 28; refine (leave_none _ _ _ (.inl rfl)).mono ?_; rintro e w' ⟨rfl, rfl⟩)
    | (go_at_call 26; refine (depth_none _ _ _ (.inl rfl)).mono ?_; rintro e w' ⟨rfl, rfl⟩)
    | (go_at_call 29; refine (next_none _ _ _ (.inl rfl)).mono ?_; rintro e w' ⟨rfl, rfl⟩)
    | (go_at_call 27; refine (take_none _ _ _ (.inl rfl)).mono ?_; rintro e w' ⟨rfl, rfl⟩)
    | (go_at_call 30; refine (awake14_any _).mono ?_; rintro e w1 ⟨rfl, g1⟩))
  go_ret
  exact ⟨rfl, g1⟩
end Go.Proofs.Ytfppmdnpjihcpaa
