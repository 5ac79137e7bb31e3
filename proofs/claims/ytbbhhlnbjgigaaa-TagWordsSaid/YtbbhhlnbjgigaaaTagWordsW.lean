/- The walk of the law TagWords of chapter 6 (tag): it returns true for every input, and changes nothing that was there. -/
import Derived.Test.YtbbhhlnbjgigaaaTag2
namespace Go.Proofs.Ytbbhhlnbjgigaaa
open Go.RowKit TagP
set_option linter.unusedVariables false

set_option maxHeartbeats 4000000 in
theorem tagWords_walk (s x u : Int) (w : World) (hs : 0 ≤ s ∧ s ≤ 18446744073709551615) (_hx : -9223372036854775808 ≤ x ∧ x ≤ 9223372036854775807) (hu : 0 ≤ u ∧ u ≤ 18446744073709551615) :
    Calls Try.prog 9 #[.int .u64 s, .int .i64 x, .int .u64 u] w fun e w' => e = .returned (.bool true) ∧ Gr w w' := by
  obtain ⟨hu0, hu1⟩ := hu
  have CW := Lib.hid (fun w => word_any s x w hs.1 hs.2)
  have hq : (goodB (u / 256) (u % 256) = true) ∨ (goodB (u / 256) (u % 256) = false ∧ u / 256 < 1) ∨ (goodB (u / 256) (u % 256) = false ∧ 1 ≤ u / 256 ∧ 64 ≤ u % 256) := by
    by_cases h : goodB (u / 256) (u % 256) = true
    · exact .inl h
    · right
      have h' : goodB (u / 256) (u % 256) = false := by simpa using h
      have := (good_iff (u / 256) (u % 256))
      by_cases h1 : u / 256 < 1
      · exact .inl ⟨h', h1⟩
      · refine .inr ⟨h', by omega, ?_⟩
        rcases Int.lt_or_le (u % 256) 64 with h2 | h2
        · exact absurd (this.2 (by omega)) h
        · exact h2
  have hm : 0 ≤ u % 256 ∧ u % 256 ≤ 255 := by omega
  have hd : 0 ≤ u / 256 := by omega
  by_cases hg : goodB s x = true
  · -- the tag may be
    obtain ⟨h1, h2, h3, h4⟩ := (good_iff s x).1 hg
    have hw : wordI s x = s * 256 + x := by unfold wordI; rw [if_pos hg]
    have CR := Lib.hid (fun w => rword_any s x w hg)
    have c1 := fun w => of_yes (wordI s x) w (by omega) (by omega) (by rw [hw, show (s * 256 + x) / 256 = s by omega, show (s * 256 + x) % 256 = x by omega]; exact hg)
    rw [show wordI s x / 256 = s by rw [hw]; omega, show wordI s x % 256 = x by rw [hw]; omega] at c1
    have C1 := Lib.hid c1
    have HG := Lib.hid hg
    clear c1 hg hw
    generalize wordI s x = q at *
    rcases hq with hq | ⟨hq, hlt⟩ | ⟨hq, hge, h64⟩
    · have C2 := Lib.hid (fun w => of_yes u w hu0 hu1 hq)
      have c3 := fun w => word_any (u / 256) (u % 256) w (by omega) (by omega)
      rw [hq, show wordI (u / 256) (u % 256) = u by unfold wordI; rw [if_pos hq]; omega] at c3
      have C3 := Lib.hid c3
      clear c3 hq
      go_enter Try.func9, Try.ntmps9
      go_wp2_with fail
      refine (CW.out _).mono ?_
      rintro e w1 ⟨rfl, g1⟩
      rw [HG.out]
      go_wp2_with fail
      refine (rgood_any _ _ _).mono ?_
      rintro e w' ⟨rfl, rfl⟩
      rw [HG.out]
      go_wp2_with (go_at_call 42; refine (CR.out _).mono ?_; rintro e w' ⟨rfl, rfl⟩)
      refine (awake6_any _).mono ?_
      rintro e w2 ⟨rfl, g2⟩
      go_wp2_with fail
      refine (C1.out _).mono ?_
      rintro e w3 ⟨rfl, g3⟩
      go_wp2_with fail
      refine (C2.out _).mono ?_
      rintro e w4 ⟨rfl, g4⟩
      go_wp2_with fail
      refine (C3.out _).mono ?_
      rintro e w5 ⟨rfl, g5⟩
      go_wp2
      go_ret
      exact ⟨rfl, ((((g1.tr g2).tr g3).al _).tr g4 |>.al _).tr g5⟩
    all_goals
      have C2 := Lib.hid (fun w => of_no u w hu0 hu1 hq)
      clear hq
      go_enter Try.func9, Try.ntmps9
      go_wp2_with fail
      refine (CW.out _).mono ?_
      rintro e w1 ⟨rfl, g1⟩
      rw [HG.out]
      go_wp2_with fail
      refine (rgood_any _ _ _).mono ?_
      rintro e w' ⟨rfl, rfl⟩
      rw [HG.out]
      go_wp2_with (go_at_call 42; refine (CR.out _).mono ?_; rintro e w' ⟨rfl, rfl⟩)
      refine (awake6_any _).mono ?_
      rintro e w2 ⟨rfl, g2⟩
      go_wp2_with fail
      refine (C1.out _).mono ?_
      rintro e w3 ⟨rfl, g3⟩
      go_wp2_with fail
      refine (C2.out _).mono ?_
      rintro e w4 ⟨rfl, g4⟩
      go_wp2
      go_ret
      exact ⟨ret_bool (by first | rfl | (simp; omega)), (((g1.tr g2).tr g3).al _).tr g4 |>.al _⟩
  · -- the tag may not be
    have hg' : goodB s x = false := by simpa using hg
    have HG := Lib.hid hg'
    have hw : wordI s x = 0 := by unfold wordI; rw [if_neg hg]
    have HW := Lib.hid hw
    have C1 := Lib.hid (fun w => of_no 0 w (by omega) (by omega) rfl)
    clear hg hg' hw
    rcases hq with hq | ⟨hq, hlt⟩ | ⟨hq, hge, h64⟩
    · have C2 := Lib.hid (fun w => of_yes u w hu0 hu1 hq)
      have c3 := fun w => word_any (u / 256) (u % 256) w (by omega) (by omega)
      rw [hq, show wordI (u / 256) (u % 256) = u by unfold wordI; rw [if_pos hq]; omega] at c3
      have C3 := Lib.hid c3
      clear c3 hq
      go_enter Try.func9, Try.ntmps9
      go_wp2_with fail
      refine (CW.out _).mono ?_
      rintro e w1 ⟨rfl, g1⟩
      rw [HG.out, HW.out]
      go_wp2_with fail
      refine (rgood_any _ _ _).mono ?_
      rintro e w' ⟨rfl, rfl⟩
      rw [HG.out]
      go_wp2_with fail
      refine (awake6_any _).mono ?_
      rintro e w2 ⟨rfl, g2⟩
      go_wp2_with fail
      refine (C1.out _).mono ?_
      rintro e w3 ⟨rfl, g3⟩
      go_wp2_with fail
      refine (C2.out _).mono ?_
      rintro e w4 ⟨rfl, g4⟩
      go_wp2_with fail
      refine (C3.out _).mono ?_
      rintro e w5 ⟨rfl, g5⟩
      go_wp2
      go_ret
      exact ⟨rfl, ((((g1.tr g2).tr g3).al _).tr g4 |>.al _).tr g5⟩
    all_goals
      have C2 := Lib.hid (fun w => of_no u w hu0 hu1 hq)
      clear hq
      go_enter Try.func9, Try.ntmps9
      go_wp2_with fail
      refine (CW.out _).mono ?_
      rintro e w1 ⟨rfl, g1⟩
      rw [HG.out, HW.out]
      go_wp2_with fail
      refine (rgood_any _ _ _).mono ?_
      rintro e w' ⟨rfl, rfl⟩
      rw [HG.out]
      go_wp2_with fail
      refine (awake6_any _).mono ?_
      rintro e w2 ⟨rfl, g2⟩
      go_wp2_with fail
      refine (C1.out _).mono ?_
      rintro e w3 ⟨rfl, g3⟩
      go_wp2_with fail
      refine (C2.out _).mono ?_
      rintro e w4 ⟨rfl, g4⟩
      go_wp2
      go_ret
      exact ⟨ret_bool (by first | rfl | (simp; omega)), (((g1.tr g2).tr g3).al _).tr g4 |>.al _⟩
end Go.Proofs.Ytbbhhlnbjgigaaa
