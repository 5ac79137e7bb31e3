/- The walks of the four laws of chapter 5 (grade): each returns true for every input, and changes nothing that was there. -/
import Derived.Test.YtbbhhlnbjgigaaaGrade
namespace Go.Proofs.Ytbbhhlnbjgigaaa
open Go.RowKit GradeP

theorem rowAt_take {k : IntKind} {w : World} {a : Option Addr} {zs : List Int} (h : RowAt k w a zs) (n : Nat) : RowAt k w a (zs.take n) := by
  rcases h with h | ⟨b, off, rfl, hc⟩
  · left; rw [h]; simp
  · right
    refine ⟨b, off, rfl, fun i hi => ?_⟩
    rw [List.length_take] at hi
    rw [hc i (by omega)]
    have : i < n := by omega
    simp [List.getD_eq_getElem?_getD, this]

theorem gradeBest_walk (a : Option Addr) (cap : Nat) (zs : List Int) (w : World) (h : SliceIn .i64 w a cap zs) :
    Calls Try.prog 3 #[.slice a zs.length cap] w fun e w' => e = .returned (.bool true) ∧ Gr w w' := by
  obtain ⟨hl, hm, hr, hw, hn⟩ := h
  have HR := Lib.hid hr
  clear hr hw hn
  have hnil := best_any none 0 [] w (by simp) (.inl rfl)
  have HN := Lib.hid hnil
  clear hnil
  by_cases h40 : 40 < zs.length
  · have hlen : (zs.take 40).length = 40 := by rw [List.length_take]; omega
    have c1 := fun c => best_any a c (zs.take 40) w (by omega) (rowAt_take HR.out 40)
    have c2 := fun c => rbest_any a c (zs.take 40) w (by omega) (rowAt_take HR.out 40)
    rw [hlen] at c1 c2
    have C1 := Lib.hid c1
    have C2 := Lib.hid c2
    clear c1 c2 hlen
    go_enter Try.func3, Try.ntmps3
    go_wp2_with fail
    refine (C1.out _).mono ?_
    rintro e w1 ⟨rfl, rfl⟩
    go_wp2_with fail
    refine (C2.out _).mono ?_
    rintro e w1 ⟨rfl, rfl⟩
    go_wp2_with fail
    refine (HN.out).mono ?_
    rintro e w1 ⟨rfl, rfl⟩
    go_wp2_with (go_at_call 17; refine (awake5_any _).mono ?_; rintro e w1 ⟨rfl, g1⟩)
    go_ret
    exact ⟨rfl, g1⟩
  · have c1 := fun c => best_any a c zs w (by omega) HR.out
    have c2 := fun c => rbest_any a c zs w (by omega) HR.out
    have C1 := Lib.hid c1
    have C2 := Lib.hid c2
    clear c1 c2
    go_enter Try.func3, Try.ntmps3
    go_wp2_with fail
    refine (C1.out _).mono ?_
    rintro e w1 ⟨rfl, rfl⟩
    go_wp2_with fail
    refine (C2.out _).mono ?_
    rintro e w1 ⟨rfl, rfl⟩
    go_wp2_with fail
    refine (HN.out).mono ?_
    rintro e w1 ⟨rfl, rfl⟩
    go_wp2_with (go_at_call 17; refine (awake5_any _).mono ?_; rintro e w1 ⟨rfl, g1⟩)
    go_ret
    exact ⟨rfl, g1⟩

theorem gradeLevels_walk (x y : Int) (w : World) (_hx : -9223372036854775808 ≤ x ∧ x ≤ 9223372036854775807) (_hy : -9223372036854775808 ≤ y ∧ y ≤ 9223372036854775807) :
    Calls Try.prog 6 #[.int .i64 x, .int .i64 y] w fun e w' => e = .returned (.bool true) ∧ Gr w w' := by
  have hq := q_bd (hold x).toNat (by have := hold_bd x; omega)
  obtain ⟨_, hq8⟩ := hq
  have hq' : decide (q (hold x).toNat ≤ 8) = true := by simpa using hq8
  have hB : (x < 0 ∧ isB x = false) ∨ (0 ≤ x ∧ isB x = decide (x < 8)) := by unfold isB; by_cases h : x < 0 <;> simp [h] <;> omega
  have hC : rankI x < rankI y ∨ rankI y ≤ rankI x := by omega
  rcases hB with ⟨h0, hB⟩ | ⟨h0, hB⟩ <;> rcases hC with hC | hC
  all_goals
    go_enter Try.func6, Try.ntmps6
    go_wp2_with (first
      | (go_at_call 23; refine (is_any _ _).mono ?_; rintro e w' ⟨rfl, rfl⟩; rw [hB])
      | (go_at_call 24; refine (hold_any _ _).mono ?_; rintro e w' ⟨rfl, rfl⟩)
      | (go_at_call 25; refine (rhold_any _ _).mono ?_; rintro e w' ⟨rfl, rfl⟩)
      | (go_at_call 21; refine (better_any _ _ _).mono ?_; rintro e w' ⟨rfl, rfl⟩)
      | (go_at_call 26; refine (rbetter_any _ _ _).mono ?_; rintro e w' ⟨rfl, rfl⟩)
      | (go_at_call 20; refine (quantum_any _ _).mono ?_; rintro e w' ⟨rfl, gq⟩)
      | (go_at_call 27; refine (rquantum_any _ _).mono ?_; rintro e w' ⟨rfl, gr⟩)
      | (go_at_call 28; refine (down_any _ _).mono ?_; rintro e w' ⟨rfl, rfl⟩)
      | (go_at_call 29; refine (rdown_any _ _).mono ?_; rintro e w' ⟨rfl, rfl⟩)
      | (go_at_call 17; refine (awake5_any _).mono ?_; rintro e w' ⟨rfl, ga⟩))
    all_goals
      go_ret
      refine ⟨rfl, ?_⟩
      repeat (first | exact Gr.refl _ | assumption | refine Gr.tr ?_ (by assumption))

theorem gradeRuns_walk (x t : Int) (w : World) (_hx : -9223372036854775808 ≤ x ∧ x ≤ 9223372036854775807) (ht : 0 ≤ t ∧ t ≤ 18446744073709551615) :
    Calls Try.prog 4 #[.int .i64 x, .int .u64 t] w fun e w' => e = .returned (.bool true) ∧ Gr w w' := by
  have hb := run_bd x t ht.1
  have C1 := Lib.hid (fun w => run_any x t w ht.1 ht.2)
  have C2 := Lib.hid (fun w => rrun_any x t w ht.1 ht.2)
  have C3 := Lib.hid (show ∀ w, Calls Try.prog 20 #[.int .i64 ((run x t).1 : Int)] w fun e w' => e = .returned (.int .u64 (q (run x t).1)) ∧ Gr w w' from fun w => by
    have := quantum_any ((run x t).1 : Int) w
    rwa [hold_nat _ hb.1] at this)
  obtain ⟨_, _, hlt⟩ := hb
  generalize (run x t).2 = r at *
  generalize (run x t).1 = l at *
  go_enter Try.func4, Try.ntmps4
  go_wp2_with (first
    | (go_at_call 18; refine (C1.out _).mono ?_; rintro e w1 ⟨rfl, g1⟩)
    | (go_at_call 19; refine (C2.out _).mono ?_; rintro e w2 ⟨rfl, g2⟩)
    | (go_at_call 20; refine (C3.out _).mono ?_; rintro e w3 ⟨rfl, g3⟩)
    | (go_at_call 17; refine (awake5_any _).mono ?_; rintro e w4 ⟨rfl, g4⟩))
  go_ret
  exact ⟨rfl, ((g1.tr g2).tr g3).tr g4⟩

theorem gradeFalls_walk (x a b : Int) (w : World) (_hx : -9223372036854775808 ≤ x ∧ x ≤ 9223372036854775807) (ha : 0 ≤ a ∧ a ≤ 4294967295) (hb : 0 ≤ b ∧ b ≤ 4294967295) :
    Calls Try.prog 5 #[.int .i64 x, .int .u32 a, .int .u32 b] w fun e w' => e = .returned (.bool true) ∧ Gr w w' := by
  obtain ⟨ha0, ha1⟩ := ha
  obtain ⟨hb0, hb1⟩ := hb
  have hm := run_bd x a ha0
  have hn := run_bd x (a + b) (by omega)
  have hqm := q_bd _ hm.1
  have hmore := run_more x a b ha0 hb0
  have h7 := run_all x a ha0
  have C1 := Lib.hid (fun w => run_any x a w ha0 (by omega))
  have C2 := Lib.hid (fun w => run_any x (a + b) w (by omega) (by omega))
  have C3 := fun w => run_any ((run x a).1 : Int) ((run x a).2 + b) w (by omega) (by omega)
  rw [hmore.1] at C3
  have C3' := Lib.hid C3
  clear C3
  have C4 := fun w => run_any x (27 + a) w (by omega) (by omega)
  rw [h7] at C4
  have C4' := Lib.hid C4
  clear C4
  have hle := hmore.2
  have hbet : decide (rankI ((run x (a + b)).1 : Int) < rankI ((run x a).1 : Int)) = false := by
    have := hm.1; have := hn.1
    unfold rankI hold; simp; omega
  have HB := Lib.hid hbet
  clear h7 hmore hbet hle
  obtain ⟨hm1, hm2, hm3⟩ := hm
  obtain ⟨hn1, hn2, hn3⟩ := hn
  generalize (run x (27 + a)).2 = r4 at *
  generalize (run x (a + b)).2 = r2 at *
  generalize (run x (a + b)).1 = l2 at *
  generalize (run x a).2 = r1 at *
  generalize (run x a).1 = l1 at *
  go_enter Try.func5, Try.ntmps5
  go_wp2_with fail
  refine (C1.out _).mono ?_
  rintro e w1 ⟨rfl, g1⟩
  go_wp2_with fail
  refine (C2.out _).mono ?_
  rintro e w2 ⟨rfl, g2⟩
  go_wp2_with fail
  refine (C3'.out _).mono ?_
  rintro e w3 ⟨rfl, g3⟩
  go_wp2_with fail
  refine (better_any _ _ _).mono ?_
  rintro e w3' ⟨rfl, rfl⟩
  rw [HB.out]
  go_wp2_with (go_at_call 22; refine (all_any _).mono ?_; rintro e w4 ⟨rfl, g4⟩)
  refine (C4'.out _).mono ?_
  rintro e w5 ⟨rfl, g5⟩
  go_wp2_with (go_at_call 17; refine (awake5_any _).mono ?_; rintro e w6 ⟨rfl, g6⟩)
  go_ret
  exact ⟨rfl, ((((g1.tr g2).tr g3).tr g4).tr g5).tr g6⟩
end Go.Proofs.Ytbbhhlnbjgigaaa
