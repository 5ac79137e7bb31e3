/- Contracts of the functions of chapter 24 (web): Next, Own, Lock, Join, Clear. -/
import Derived.Test.YtkkobbomipcpoaaWeb
namespace Go.Proofs.Ytkkobbomipcpoaa
open Go.RowKit
set_option linter.unusedVariables false

namespace WebS
variable (s : WebS)
def setOw (i : Nat) (t : Int) : WebS := { s with ow := upd s.ow i t }
def setW (i : Nat) (x y : Int) : WebS := { s with lk := upd s.lk i x, jn := upd s.jn i y }
/-- May a lock be given to a thread, or to nobody? -/
def mayOwn (l t : Int) : Bool := s.lo l && (decide (t = -1) || s.th t)
end WebS
theorem recs_own (s : WebS) (i : Nat) (t : Int) : (recs s.m 1 (ownG s)).setIfInBounds i (.int .i64 t) = recs (s.setOw i t).m 1 (ownG (s.setOw i t)) := by
  have := recs_set s.m 1 (ownG s) i 0 (.int .i64 t) (by omega)
  simp only [Nat.mul_one, Nat.add_zero] at this
  rw [this]
  refine recs_congr _ _ _ _ fun j k _ hk => ?_
  obtain rfl : k = 0 := by omega
  unfold setG ownG WebS.setOw upd
  by_cases h : j = i
  · simp [h]
  · simp [h]
theorem recs_wts (s : WebS) (i : Nat) (x y : Int) : ((recs s.n 2 (waitG s)).setIfInBounds (i * 2) (.int .i64 x)).setIfInBounds (i * 2 + 1) (.int .i64 y) = recs (s.setW i x y).n 2 (waitG (s.setW i x y)) := by
  have h1 := recs_set s.n 2 (waitG s) i 0 (.int .i64 x) (by omega)
  simp only [Nat.add_zero] at h1
  rw [h1, recs_set _ _ _ i 1 _ (by omega)]
  refine recs_congr _ _ _ _ fun j k _ hk => ?_
  have : k = 0 ∨ k = 1 := by omega
  unfold setG WebS.setW upd
  rcases this with rfl | rfl
  · by_cases h : j = i <;> simp [h, waitG]
  · by_cases h : j = i <;> simp [h, waitG]
theorem WebAt.setOw {w : World} {g a b : Nat} {s : WebS} (l : WebAt w g a b s) (i : Nat) (t : Int) (ht : -1 ≤ t ∧ t < s.n) : WebAt (w.setCell ⟨a, i, none⟩ (.int .i64 t)) g a b (s.setOw i t) := by
  obtain ⟨n1, n2, n3⟩ := l.ne
  refine ⟨l.hdr.far (p := ⟨a, i, none⟩) n1 _, ?_, l.wts.far (p := ⟨a, i, none⟩) (fun h => n3 h.symm) _, ⟨l.ok.n64, l.ok.m64, fun j => ?_, l.ok.lk, l.ok.jn⟩⟩
  · have := l.own.st i (.int .i64 t)
    rwa [recs_own] at this
  · unfold WebS.setOw upd
    simp only
    split
    · exact ht
    · exact l.ok.ow j
theorem WebAt.setW {w : World} {g a b : Nat} {s : WebS} (l : WebAt w g a b s) (i : Nat) (x y : Int) (hx : -1 ≤ x ∧ x < s.m) (hy : -1 ≤ y ∧ y < s.n) : WebAt ((w.setCell ⟨b, i * 2, none⟩ (.int .i64 x)).setCell ⟨b, i * 2 + 1, none⟩ (.int .i64 y)) g a b (s.setW i x y) := by
  obtain ⟨n1, n2, n3⟩ := l.ne
  refine ⟨(l.hdr.far (p := ⟨b, i * 2, none⟩) n2 _).far (p := ⟨b, i * 2 + 1, none⟩) n2 _, (l.own.far (p := ⟨b, i * 2, none⟩) n3 _).far (p := ⟨b, i * 2 + 1, none⟩) n3 _, ?_, ⟨l.ok.n64, l.ok.m64, l.ok.ow, fun j => ?_, fun j => ?_⟩⟩
  · have := (l.wts.st (i * 2) (.int .i64 x)).st (i * 2 + 1) (.int .i64 y)
    rwa [recs_wts] at this
  · unfold WebS.setW upd
    simp only
    split
    · exact hx
    · exact l.ok.lk j
  · unfold WebS.setW upd
    simp only
    split
    · exact hy
    · exact l.ok.jn j
section
variable (g a b : Nat) (s : WebS) (w : World) (l : WebAt w g a b s)
include l
theorem next_any (t : Int) : Calls Try.prog 29 #[.pointer (some ⟨g, 0, none⟩), .int .i64 t] w fun e w' => e = .returned (.int .i64 (s.next t)) ∧ Gr w w' := by
  have C := Lib.hid (waits_any g a b s w l t)
  have C2 := Lib.hid (fun w' (g' : Gr w w') => owner_any g a b s w' (l.gr g') (s.lkOf t))
  unfold WebS.next
  by_cases h : s.lkOf t = -1
  · rw [if_neg (by simp [h])]
    rw [h] at C
    clear C2 h
    generalize s.jnOf t = y at C ⊢
    go_enter Try.func29, Try.ntmps29
    go_wp2_with (go_at_call 41; refine (C.out).mono ?_; rintro e w1 ⟨rfl, g1⟩)
    go_ret
    exact ⟨rfl, g1⟩
  · rw [if_pos h]
    generalize s.owner (s.lkOf t) = o at C2 ⊢
    generalize s.lkOf t = x at C C2 h
    have hd : (x != -1) = true := by simpa using h
    go_enter Try.func29, Try.ntmps29
    go_wp2_with (first | (go_at_call 41; refine (C.out).mono ?_; rintro e w1 ⟨rfl, g1⟩) | (go_at_call 24; refine (C2.out _ g1).mono ?_; rintro e w2 ⟨rfl, rfl⟩))
    go_ret
    exact ⟨rfl, g1⟩
theorem own_no (x t : Int) (h : s.mayOwn x t = false) : Calls Try.prog 42 #[.pointer (some ⟨g, 0, none⟩), .int .i64 x, .int .i64 t] w fun e w' => e = .returned (.bool false) ∧ Gr w w' := by
  have C := Lib.hid (lo_any g a b s w l x)
  have C2 := Lib.hid (th_any g a b s w l t)
  unfold WebS.mayOwn at h
  cases h1 : s.lo x
  · rw [h1] at C
    clear h h1
    go_enter Try.func42, Try.ntmps42
    go_wp2_with (go_at_call 76; refine (C.out).mono ?_; rintro e w1 ⟨rfl, rfl⟩)
    go_ret
    exact ⟨rfl, Gr.refl w⟩
  · rw [h1] at C
    simp [h1] at h
    rw [h.2] at C2
    have hd : (t != -1) = true := by simpa using h.1
    clear h h1
    go_enter Try.func42, Try.ntmps42
    go_wp2_with (first | (go_at_call 76; refine (C.out).mono ?_; rintro e w1 ⟨rfl, rfl⟩) | (go_at_call 77; refine (C2.out).mono ?_; rintro e w1 ⟨rfl, rfl⟩))
    go_ret
    exact ⟨rfl, Gr.refl w⟩
theorem own_yes (i : Nat) (t : Int) (h : s.mayOwn i t = true) : Calls Try.prog 42 #[.pointer (some ⟨g, 0, none⟩), .int .i64 i, .int .i64 t] w fun e w' => e = .returned (.bool true) ∧ WebAt w' g a b (s.setOw i t) ∧ Ch [a] w w' := by
  have C := Lib.hid (lo_any g a b s w l i)
  have C2 := Lib.hid (th_any g a b s w l t)
  unfold WebS.mayOwn at h
  simp only [Bool.and_eq_true, Bool.or_eq_true, decide_eq_true_eq] at h
  obtain ⟨h1, h2⟩ := h
  rw [h1] at C
  simp only [WebS.lo, decide_eq_true_eq] at h1
  have him : i < s.m := by omega
  obtain ⟨o0, of⟩ := l.ownc him
  have hm := l.ok.m64
  obtain ⟨c0, c1, cf⟩ := l.hdr.c2
  have ht : -1 ≤ t ∧ t < s.n := by
    rcases h2 with h2 | h2
    · omega
    · simp only [WebS.th, decide_eq_true_eq] at h2; omega
  have HP := Lib.hid (And.intro (l.setOw i t ht) ((Ch.refl [a] w).st (p := ⟨a, i, none⟩) (by simp) (.int .i64 t)))
  clear l ht h1
  by_cases h3 : t = -1
  · subst h3
    go_enter Try.func42, Try.ntmps42
    go_wp2_with (first | (go_at_call 76; refine (C.out).mono ?_; rintro e w1 ⟨rfl, rfl⟩))
    go_ret
    exact ⟨rfl, HP.out⟩
  · have h4 : s.th t = true := by
      rcases h2 with h2 | h2
      · exact absurd h2 h3
      · exact h2
    rw [h4] at C2
    have hd : (t != -1) = true := by simpa using h3
    clear h2 h3 h4
    go_enter Try.func42, Try.ntmps42
    go_wp2_with (first | (go_at_call 76; refine (C.out).mono ?_; rintro e w1 ⟨rfl, rfl⟩) | (go_at_call 77; refine (C2.out).mono ?_; rintro e w1 ⟨rfl, rfl⟩))
    go_ret
    exact ⟨rfl, HP.out⟩
end
end Go.Proofs.Ytkkobbomipcpoaa
