/- Contracts of the functions of chapter 24 (web): Own, Lock, Join, Clear, each as one. -/
import Derived.Test.YtkkobbomipcpoaaWeb3
namespace Go.Proofs.Ytkkobbomipcpoaa
open Go.RowKit
set_option linter.unusedVariables false
/-- A web behind a call. -/
def WebTo (w : World) (g a b : Nat) (s : WebS) (w' : World) : Prop := WebAt w' g a b s ∧ Ch [a, b] w w'
namespace WebS
def waitS (s : WebS) (ok : Bool) (t x y : Int) : WebS := if ok then s.setW t.toNat x y else s
def ownS (s : WebS) (x t : Int) : WebS := if s.mayOwn x t then s.setOw x.toNat t else s
end WebS
section
variable (g a b : Nat) (s : WebS) (w : World) (l : WebAt w g a b s)
include l
theorem uown (x t : Int) : Calls Try.prog 42 #[.pointer (some ⟨g, 0, none⟩), .int .i64 x, .int .i64 t] w fun e w' => e = .returned (.bool (s.mayOwn x t)) ∧ WebTo w g a b (s.ownS x t) w' := by
  unfold WebS.ownS
  cases h : s.mayOwn x t
  · rw [if_neg (by simp)]
    exact (own_no g a b s w l x t h).mono fun e w' ⟨h1, h2⟩ => ⟨h1, l.gr h2, h2.ch _⟩
  · rw [if_pos rfl]
    have h' := h
    simp only [WebS.mayOwn, WebS.lo, Bool.and_eq_true, decide_eq_true_eq] at h'
    obtain ⟨i, rfl⟩ := Int.eq_ofNat_of_zero_le h'.1.1
    exact (own_yes g a b s w l i t h).mono fun e w' ⟨h1, h2, h3⟩ => ⟨h1, h2, h3.wide (by simp)⟩
theorem uwait (t x y : Int) (may : Bool) (hm : may = true → (-1 ≤ x ∧ x < s.m) ∧ (-1 ≤ y ∧ y < s.n)) : Calls Try.prog 75 #[.pointer (some ⟨g, 0, none⟩), .int .i64 t, .agg #[.int .i64 x, .int .i64 y], .bool may] w fun e w' => e = .returned (.bool (may && s.th t)) ∧ WebTo w g a b (s.waitS (may && s.th t) t x y) w' := by
  unfold WebS.waitS
  cases h : may && s.th t
  · rw [if_neg (by simp)]
    exact (wait_no g a b s w l t x y may h).mono fun e w' ⟨h1, h2⟩ => ⟨h1, l.gr h2, h2.ch _⟩
  · rw [if_pos rfl]
    simp only [Bool.and_eq_true] at h
    obtain ⟨rfl, h2⟩ := h
    simp only [WebS.th, decide_eq_true_eq] at h2
    obtain ⟨i, rfl⟩ := Int.eq_ofNat_of_zero_le h2.1
    exact (wait_yes g a b s w l i x y (by omega) (hm rfl).1 (hm rfl).2).mono fun e w' ⟨h1, h2, h3⟩ => ⟨h1, h2, h3.wide (by simp)⟩
theorem ulock (t x : Int) : Calls Try.prog 43 #[.pointer (some ⟨g, 0, none⟩), .int .i64 t, .int .i64 x] w fun e w' => e = .returned (.bool (s.lo x && s.th t)) ∧ WebTo w g a b (s.waitS (s.lo x && s.th t) t x (-1)) w' := by
  have C1 := Lib.hid (lo_any g a b s w l x)
  have C2 := Lib.hid (uwait g a b s w l t x (-1) (s.lo x) (fun h => by simp only [WebS.lo, decide_eq_true_eq] at h; omega))
  generalize s.waitS (s.lo x && s.th t) t x (-1) = s' at C2 ⊢
  generalize hq : (s.lo x && s.th t) = q at C2 ⊢
  generalize s.lo x = p at C1 C2
  clear hq l
  go_enter Try.func43, Try.ntmps43
  go_wp2_with (first | (go_at_call 76; refine (C1.out).mono ?_; rintro e w1 ⟨rfl, rfl⟩) | (go_at_call 75; refine (C2.out).mono ?_; rintro e w2 ⟨rfl, t2⟩))
  go_ret
  exact ⟨rfl, t2⟩
theorem ujoin (t x : Int) : Calls Try.prog 44 #[.pointer (some ⟨g, 0, none⟩), .int .i64 t, .int .i64 x] w fun e w' => e = .returned (.bool (s.th x && s.th t)) ∧ WebTo w g a b (s.waitS (s.th x && s.th t) t (-1) x) w' := by
  have C1 := Lib.hid (th_any g a b s w l x)
  have C2 := Lib.hid (uwait g a b s w l t (-1) x (s.th x) (fun h => by simp only [WebS.th, decide_eq_true_eq] at h; omega))
  generalize s.waitS (s.th x && s.th t) t (-1) x = s' at C2 ⊢
  generalize hq : (s.th x && s.th t) = q at C2 ⊢
  generalize s.th x = p at C1 C2
  clear hq l
  go_enter Try.func44, Try.ntmps44
  go_wp2_with (first | (go_at_call 77; refine (C1.out).mono ?_; rintro e w1 ⟨rfl, rfl⟩) | (go_at_call 75; refine (C2.out).mono ?_; rintro e w2 ⟨rfl, t2⟩))
  go_ret
  exact ⟨rfl, t2⟩
theorem uclear (t : Int) : Calls Try.prog 22 #[.pointer (some ⟨g, 0, none⟩), .int .i64 t] w fun e w' => e = .returned (.bool (s.th t)) ∧ WebTo w g a b (s.waitS (s.th t) t (-1) (-1)) w' := by
  have C2 := Lib.hid (uwait g a b s w l t (-1) (-1) true (fun h => by omega))
  simp only [Bool.true_and] at C2
  generalize s.waitS (s.th t) t (-1) (-1) = s' at C2 ⊢
  generalize s.th t = q at C2 ⊢
  clear l
  go_enter Try.func22, Try.ntmps22
  go_wp2_with (first | (go_at_call 75; refine (C2.out).mono ?_; rintro e w2 ⟨rfl, t2⟩))
  go_ret
  exact ⟨rfl, t2⟩
end
theorem lock_nil (t x : Int) (w : World) : Calls Try.prog 43 #[.pointer none, .int .i64 t, .int .i64 x] w fun e w' => e = .returned (.bool false) ∧ Gr w w' := by
  have C := Lib.hid (fun w => wait_nil t x (-1) false w)
  go_enter Try.func43, Try.ntmps43
  go_wp2_with (first | (go_at_call 76; refine (lo_nil _ _).mono ?_; rintro e w1 ⟨rfl, rfl⟩) | (go_at_call 75; refine (C.out _).mono ?_; rintro e w2 ⟨rfl, t2⟩))
  go_ret
  exact ⟨rfl, t2⟩
theorem join_nil (t x : Int) (w : World) : Calls Try.prog 44 #[.pointer none, .int .i64 t, .int .i64 x] w fun e w' => e = .returned (.bool false) ∧ Gr w w' := by
  have C := Lib.hid (fun w => wait_nil t (-1) x false w)
  go_enter Try.func44, Try.ntmps44
  go_wp2_with (first | (go_at_call 77; refine (th_nil _ _).mono ?_; rintro e w1 ⟨rfl, rfl⟩) | (go_at_call 75; refine (C.out _).mono ?_; rintro e w2 ⟨rfl, t2⟩))
  go_ret
  exact ⟨rfl, t2⟩
theorem clear_nil (t : Int) (w : World) : Calls Try.prog 22 #[.pointer none, .int .i64 t] w fun e w' => e = .returned (.bool false) ∧ Gr w w' := by
  have C := Lib.hid (fun w => wait_nil t (-1) (-1) true w)
  go_enter Try.func22, Try.ntmps22
  go_wp2_with (first | (go_at_call 75; refine (C.out _).mono ?_; rintro e w2 ⟨rfl, t2⟩))
  go_ret
  exact ⟨rfl, t2⟩
theorem own_nil (x t : Int) (w : World) : Calls Try.prog 42 #[.pointer none, .int .i64 x, .int .i64 t] w fun e w' => e = .returned (.bool false) ∧ w = w' := by
  go_enter Try.func42, Try.ntmps42
  go_wp2_with (first | (go_at_call 76; refine (lo_nil _ _).mono ?_; rintro e w1 ⟨rfl, rfl⟩))
  go_ret
  exact ⟨rfl, rfl⟩
theorem owner_nil (x : Int) (w : World) : Calls Try.prog 24 #[.pointer none, .int .i64 x] w fun e w' => e = .returned (.int .i64 (-1)) ∧ w = w' := by
  go_enter Try.func24, Try.ntmps24
  go_wp2_with (first | (go_at_call 76; refine (lo_nil _ _).mono ?_; rintro e w1 ⟨rfl, rfl⟩))
  go_ret
  exact ⟨rfl, rfl⟩
theorem waits_nil (x : Int) (w : World) : Calls Try.prog 41 #[.pointer none, .int .i64 x] w fun e w' => e = .returned (.tuple #[.int .i64 (-1), .int .i64 (-1)]) ∧ w = w' := by
  go_enter Try.func41, Try.ntmps41
  go_wp2_with (first | (go_at_call 77; refine (th_nil _ _).mono ?_; rintro e w1 ⟨rfl, rfl⟩))
  go_ret2
  exact ⟨rfl, rfl⟩
theorem next_nil (x : Int) (w : World) : Calls Try.prog 29 #[.pointer none, .int .i64 x] w fun e w' => e = .returned (.int .i64 (-1)) ∧ w = w' := by
  go_enter Try.func29, Try.ntmps29
  go_wp2_with (first | (go_at_call 41; refine (waits_nil _ _).mono ?_; rintro e w1 ⟨rfl, rfl⟩))
  go_ret
  exact ⟨rfl, rfl⟩
end Go.Proofs.Ytkkobbomipcpoaa
