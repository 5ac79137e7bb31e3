/- The page's example (awake) of chapter 19 (wheel), and the walk of the law WheelNil. -/
import Derived.Test.YtbeoomjcipbjjaaWl14
namespace Go.Proofs.Ytbeoomjcipbjjaa
open Go.RowKit
set_option linter.unusedVariables false

set_option maxHeartbeats 2000000 in
theorem awake19 (w : World) : Calls Try.prog 16 #[] w fun e w' => e = .returned (.bool true) ∧ Gr w w' := by
  have CN := Lib.hid (fun w => wnewA 0 w (by omega))
  go_enter Try.func16, Try.ntmps16
  go_upto_region 2 with (go_at_call 11; refine (CN.out _).mono ?_; rintro e w1 ⟨rfl, S1, h1, g1, f1⟩)
  generalize w.heap.size = g at *
  have H1 := Lib.hid (And.intro h1 (And.intro g1 f1))
  clear h1 g1 f1
  go_upto_region 3 with (go_at_call 12; refine (wset g S1 (newS 0) 3 5 w1 H1.out.1 (by omega) (by show (0 : Int) < _; omega)).mono ?_; rintro e w2 ⟨rfl, S2, h2, k2, f2⟩)
  have H2 := Lib.hid (And.intro h2 (And.intro (H1.out.2.1.new k2 H1.out.2.2) (H1.out.2.2.tr f2 H1.out.2.1.size_le)))
  clear h2 k2 f2
  rw [e3_set1]
  go_upto_region 4 with (go_at_call 12; refine (wset g S2 (setS (newS 0) 3 5) 1 5 w2 H2.out.1 (by omega) (by decide +kernel)).mono ?_; rintro e w3 ⟨rfl, S3, h3, k3, f3⟩)
  have H3 := Lib.hid (And.intro h3 (And.intro (H2.out.2.1.new k3 H2.out.2.2) (H2.out.2.2.tr f3 H2.out.2.1.size_le)))
  clear h3 k3 f3
  rw [e3_set2]
  go_upto_region 5 with (go_at_call 12; refine (wset g S3 (setS (setS (newS 0) 3 5) 1 5) 2 70 w3 H3.out.1 (by omega) (by decide +kernel)).mono ?_; rintro e w4 ⟨rfl, S4, h4, k4, f4⟩)
  rw [e3_is] at h4
  have T3 := Lib.hid h4.tg
  have H4 := Lib.hid (And.intro h4 (And.intro (H3.out.2.1.new k4 H3.out.2.2) (H3.out.2.2.tr f4 H3.out.2.1.size_le)))
  clear h4 k4 f4
  rw [e3_set3]
  clear H1 H2 H3 CN
  go_wp2_with fail
  go_loopw [5, 6] (fun v i wr => ∃ (k : Nat) (S : List Nat), k ≤ 5 ∧ i = .int .i64 k ∧ WA wr g S (e3At k) ∧ Gr w wr ∧ Foot w [] S ∧ Sl 3 .i64 wr v (e3L k) ∧ Disj (sb v) S ∧ Foot w [] (sb v)) (fun _ i _ => 5 - (intOf i).toNat)
  case atStart => exact ⟨0, S4, by omega, rfl, H4.out.1, H4.out.2.1, H4.out.2.2, Sl.nil _ _ _, fun b hb => by simp [sb] at hb, fun b hb => by simp [sb] at hb⟩
  case round =>
    obtain ⟨k, S, hk, rfl, hwa, gr, fS, sl, dv, fv⟩ := hrel
    have HH := Lib.hid (And.intro hwa (And.intro gr (And.intro fS (And.intro sl (And.intro dv fv)))))
    obtain ⟨na, ka, rfl, _, _⟩ := sl.len
    clear hwa gr fS sl dv fv
    by_cases hlt : k < 5
    · have hd : decide ((k : Int) < 5) = true := by simp; omega
      have hM : (e3At k).now < 18446744073709551615 := by
        rw [show e3At k = advT e3 k from if_pos (by omega)]
        show (0 : Int) + (k : Int) < _; omega
      have CT := Lib.hid (wturn g S (e3At k) wr HH.out.1 hM)
      have CS := Lib.hid (fun l => e3_step k hlt l T3.out)
      have hL : (e3L k).length ≤ 2 := by unfold e3L; split <;> simp
      clear hM H4
      go_wp2_with (first | (go_at_call 13; refine (CT.out).mono ?_; rintro e w1 ⟨v, l, S2, rfl, hdue, r1, wa1, k1, f1, d1, fv1⟩; have HD := Lib.hid (CS.out l hdue); have hl64 := hdue.len; obtain ⟨nb, kb, rfl, _, _⟩ := r1.len; have HR := Lib.hid (And.intro r1 (And.intro wa1 (And.intro k1 (And.intro f1 (And.intro d1 fv1))))); have SV := Lib.hid (HH.out.2.2.2.1.ch k1 HH.out.2.2.2.2.1); clear hdue r1 wa1 k1 f1 d1 fv1) | (at_builtin; refine wpList_slA el30 .i64 (.tmp 20) (.tmp 22) (.slice na (e3L k).length ka) (.slice nb l.length kb) (e3L k) l _ rfl rfl rfl rfl SV.out HR.out.1 (by omega) (by omega) ?_; intro v2 w2 r2 k2 f2; have HP := Lib.hid (And.intro r2 (And.intro k2 f2)); clear r2 k2 f2))
      go_roundw
      case rel =>
        have dS := Disj.foot HH.out.2.2.2.2.1.symm HH.out.2.2.2.1.inn HR.out.2.2.2.1
        have g1 := HH.out.2.1.new HR.out.2.2.1 HH.out.2.2.1
        refine ⟨k + 1, S2, by omega, by go_num, ?_, g1.new HP.out.2.1 HH.out.2.2.2.2.2, HH.out.2.2.1.tr HR.out.2.2.2.1 HH.out.2.1.size_le, ?_, ?_, HH.out.2.2.2.2.2.tr HP.out.2.2 g1.size_le⟩
        · rw [← HD.out.2]; exact HR.out.2.1.ch HP.out.2.1 dS
        · rw [← HD.out.1]; exact HP.out.1
        · exact Disj.foot dS.symm HR.out.2.1.inn HP.out.2.2
      case measure => simp [intOf]; omega
    · obtain rfl : k = 5 := by omega
      have CX := Lib.hid (wnext g S (e3At 5) wr HH.out.1)
      have S5 : Hid (Sl 3 .i64 wr (.slice na 2 ka) [3, 1]) := Lib.hid HH.out.2.2.2.1
      clear H4
      go_upto_region 11 with (go_at_call 28; refine (CX.out).mono ?_; rintro e w1 ⟨l, hall, rfl, g1⟩; obtain ⟨rfl, hnx⟩ := e3_all l hall; rw [hnx]; have G1 := Lib.hid g1; clear hall hnx g1)
      go_wp2_with fail
      have g2 := (Gr.refl w1).al (.cells #[.int .i64 3, .int .i64 1] 3)
      have HS := Lib.hid (lit2 w1 3 1)
      have S6 := Lib.hid ((S5.out.gr G1.out).gr g2)
      have G2 := Lib.hid (HH.out.2.1.tr (G1.out.tr g2))
      clear g2
      generalize w1.alloc (.cells #[.int .i64 3, .int .i64 1] 3) = W3 at *
      refine (same_any [3, 1] _ _ _ S6.out HS.out (by simp)).mono ?_
      rintro e w4 ⟨rfl, g4⟩
      go_wp2_with fail
      go_ret
      exact ⟨rfl, G2.out.tr g4⟩

theorem wheelNil_walk (place at_ : Int) (w : World) (hp : -9223372036854775808 ≤ place ∧ place ≤ 9223372036854775807) (ha : 0 ≤ at_ ∧ at_ ≤ 18446744073709551615) :
    Calls Try.prog 7 #[.int .i64 place, .int .u64 at_] w fun e w' => e = .returned (.bool true) ∧ Gr w w' := by
  have HA := Lib.hid ha
  clear hp ha
  go_enter Try.func7, Try.ntmps7
  go_wp2_with (first
    | (go_at_call 27; refine (wdue_nil _ _).mono ?_; rintro e w' ⟨rfl, rfl⟩)
    | (go_at_call 18; refine (wskip_nil _ _ HA.out).mono ?_; rintro e w' ⟨rfl, rfl⟩)
    | (go_at_call 28; refine (wnext_nil _).mono ?_; rintro e w2 ⟨rfl, g2⟩)
    | (go_at_call 15; refine (wnow_nil _).mono ?_; rintro e w' ⟨rfl, rfl⟩)
    | (go_at_call 12; refine (wset_nil _ _ _).mono ?_; rintro e w' ⟨rfl, rfl⟩)
    | (go_at_call 29; refine (wcan_nil _ _).mono ?_; rintro e w3 ⟨rfl, g3⟩)
    | (go_at_call 13; refine (wturn_nil _).mono ?_; rintro e w4 ⟨rfl, g4⟩)
    | (go_at_call 14; refine (wall_nil _).mono ?_; rintro e w5 ⟨rfl, g5⟩)
    | (go_at_call 16; refine (awake19 _).mono ?_; rintro e w6 ⟨rfl, g6⟩))
  go_ret
  exact ⟨rfl, g2.tr (g3.tr (g4.tr (g5.tr g6)))⟩
end Go.Proofs.Ytbeoomjcipbjjaa
