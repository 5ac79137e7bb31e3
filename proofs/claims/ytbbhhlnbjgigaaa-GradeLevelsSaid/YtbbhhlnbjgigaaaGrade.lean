/- Contracts of the functions of chapter 5 (grade) and of its reference, for every input: what each returns; nothing that was there is changed. -/
import Derived.Test.YtbbhhlnbjgigaaaProg
import Derived.Test.YtbbhhlnbjgigaaaGradeP
import Derived.Test.YtbbhhlnbjgigaaaKit
namespace Go.Proofs.Ytbbhhlnbjgigaaa
open Go.RowKit GradeP

def isB (x : Int) : Bool := decide (0 ≤ x) && decide (x < 8)
theorem is_any (x : Int) (w : World) : Calls Try.prog 23 #[.int .i64 x] w fun e w' => e = .returned (.bool (isB x)) ∧ w = w' := by
  go_enter Try.func23, Try.ntmps23
  go_wp2
  all_goals go_ret
  all_goals (unfold isB; simp_all; try omega)

theorem hold_any (x : Int) (w : World) : Calls Try.prog 24 #[.int .i64 x] w fun e w' => e = .returned (.int .i64 (hold x)) ∧ w = w' := by
  go_enter Try.func24, Try.ntmps24
  go_wp2
  all_goals go_ret
  all_goals (refine ⟨ret_int ?_, rfl⟩; unfold hold; omega)

theorem rhold_any (x : Int) (w : World) : Calls Try.prog 25 #[.int .i64 x] w fun e w' => e = .returned (.int .i64 (hold x)) ∧ w = w' := by
  go_enter Try.func25, Try.ntmps25
  go_wp2
  all_goals go_ret
  all_goals (refine ⟨ret_int ?_, rfl⟩; unfold hold; omega)

def rankI (x : Int) : Int := if 7 < x then 8 else hold x
theorem rank_any (x : Int) (w : World) : Calls Try.prog 64 #[.int .i64 x] w fun e w' => e = .returned (.int .i64 (rankI x)) ∧ w = w' := by
  go_enter Try.func64, Try.ntmps64
  go_wp2_with (go_at_call 25; refine (rhold_any _ _).mono ?_; rintro e w' ⟨rfl, rfl⟩)
  all_goals go_ret
  all_goals (refine ⟨ret_int ?_, rfl⟩; unfold rankI)
  · rw [if_pos (by assumption)]
  · rw [if_neg (by omega)]

theorem rbetter_any (x y : Int) (w : World) : Calls Try.prog 26 #[.int .i64 x, .int .i64 y] w fun e w' => e = .returned (.bool (decide (rankI x < rankI y))) ∧ w = w' := by
  go_enter Try.func26, Try.ntmps26
  go_wp2_with (go_at_call 64; refine (rank_any _ _).mono ?_; rintro e w' ⟨rfl, rfl⟩)
  all_goals go_ret
  all_goals exact ⟨rfl, rfl⟩

theorem better_any (x y : Int) (w : World) : Calls Try.prog 21 #[.int .i64 x, .int .i64 y] w fun e w' => e = .returned (.bool (decide (rankI x < rankI y))) ∧ w = w' := by
  go_enter Try.func21, Try.ntmps21
  go_wp2
  all_goals go_ret
  all_goals (refine ⟨ret_bool ?_, rfl⟩; unfold rankI hold)
  all_goals (try simp_all)
  all_goals omega

def Q8 : Array Value := #[.int .u64 1, .int .u64 1, .int .u64 2, .int .u64 2, .int .u64 3, .int .u64 4, .int .u64 6, .int .u64 8]
theorem quanta_any (w : World) : Calls Try.prog 63 #[] w fun e w' => e = .returned (.agg Q8) ∧ Gr w w' := by
  go_enter Try.func63, Try.ntmps63
  go_wp2
  refine bodyPost_ret (v := .agg Q8) (by simp [results, Try.results63, go_sem, Q8]) rfl ⟨rfl, (Gr.refl _).al _⟩

theorem index_q (x : Int) (h : 0 ≤ x ∧ x ≤ 7) (w : World) : (Instr.index 79 (.agg Q8) (.int .i64 x)).run Try.prog w = .ok (.int .u64 (q x.toNat)) w := by
  obtain ⟨n, rfl⟩ := Int.eq_ofNat_of_zero_le h.1
  rcases eight n (by omega) with rfl | rfl | rfl | rfl | rfl | rfl | rfl | rfl <;> kernel_rfl

theorem quantum_any (x : Int) (w : World) : Calls Try.prog 20 #[.int .i64 x] w fun e w' => e = .returned (.int .u64 (q (hold x).toNat)) ∧ Gr w w' := by
  have hi := index_q (hold x) (hold_bd x)
  go_enter Try.func20, Try.ntmps20
  go_wp2_with fail
  refine (quanta_any _).mono ?_
  rintro e w' ⟨rfl, hb⟩
  go_wp2_with (go_at_call 24; refine (hold_any _ _).mono ?_; rintro e w' ⟨rfl, rfl⟩)
  go_ret
  exact ⟨rfl, hb⟩

theorem down_any (x : Int) (w : World) : Calls Try.prog 28 #[.int .i64 x] w fun e w' => e = .returned (.int .i64 (hold (hold x + 1))) ∧ w = w' := by
  have hb := hold_bd x
  go_enter Try.func28, Try.ntmps28
  go_wp2_with (go_at_call 24; refine (hold_any _ _).mono ?_; rintro e w' ⟨rfl, rfl⟩)
  go_ret
  exact ⟨rfl, rfl⟩

theorem rdown_any (x : Int) (w : World) : Calls Try.prog 29 #[.int .i64 x] w fun e w' => e = .returned (.int .i64 (hold (hold x + 1))) ∧ w = w' := by
  have hb := hold_bd x
  go_enter Try.func29, Try.ntmps29
  go_wp2_with (go_at_call 25; refine (rhold_any _ _).mono ?_; rintro e w' ⟨rfl, rfl⟩)
  go_ret
  exact ⟨rfl, rfl⟩

theorem rquantum_any (x : Int) (w : World) : Calls Try.prog 27 #[.int .i64 x] w fun e w' => e = .returned (.int .u64 (q (hold x).toNat)) ∧ Gr w w' := by
  have hb := hold_bd x
  obtain ⟨n, hn⟩ := Int.eq_ofNat_of_zero_le hb.1
  have HN := Lib.hid hn
  have hn7 : n ≤ 7 := by omega
  have hc : (Q8)[n]? = some (.int .u64 (q n)) := by rcases eight n hn7 with rfl | rfl | rfl | rfl | rfl | rfl | rfl | rfl <;> rfl
  clear hn hb
  go_enter Try.func27, Try.ntmps27
  go_wp2_with fail
  refine (rhold_any _ _).mono ?_
  rintro e w' ⟨rfl, rfl⟩
  rw [HN.out]
  unfold Q8 at hc
  go_wp2
  go_ret
  exact ⟨ret_int (by rw [HN.out]; rfl), (Gr.refl _).al _⟩

def sumq (k : Nat) : Int := ((List.range k).map q).foldr (· + ·) 0
theorem nine (n : Nat) (h : n ≤ 8) : n = 0 ∨ n = 1 ∨ n = 2 ∨ n = 3 ∨ n = 4 ∨ n = 5 ∨ n = 6 ∨ n = 7 ∨ n = 8 := by omega
theorem sumq_bd (k : Nat) (h : k ≤ 7) : 0 ≤ sumq k ∧ sumq k ≤ 27 ∧ sumq (k + 1) = sumq k + q k := by
  rcases eight k h with rfl | rfl | rfl | rfl | rfl | rfl | rfl | rfl <;> decide
theorem all_any (w : World) : Calls Try.prog 22 #[] w fun e w' => e = .returned (.int .u64 27) ∧ Gr w w' := by
  go_enter Try.func22, Try.ntmps22
  go_wp2_with (go_at_call 63; refine (quanta_any _).mono ?_; rintro e w' ⟨rfl, hb⟩)
  go_loop [1, 5] (fun n i => ∃ k : Nat, k ≤ 8 ∧ i = .int .i64 k ∧ n = .int .u64 (sumq k)) (fun _ i => 8 - (intOf i).toNat)
  case atStart => exact ⟨0, by omega, rfl, rfl⟩
  case round =>
    obtain ⟨k, hk, rfl, rfl⟩ := hrel
    by_cases hlt : k < 8
    · have hi := index_q (k : Int) (by omega)
      have hq := q_bd k (by omega)
      obtain ⟨h1, h2, h3⟩ := sumq_bd k (by omega)
      have H3 := Lib.hid h3
      clear h3
      simp only [Int.toNat_natCast] at hi
      go_wp2
      go_round
      case rel => exact ⟨k + 1, by omega, by go_num, by rw [H3.out]⟩
      case measure => simp [intOf]; omega
    · obtain rfl : k = 8 := by omega
      go_wp2
      go_ret
      exact ⟨rfl, hb⟩

theorem best_round (zs : List Int) (k : Nat) (h : k < zs.length) (b : Int) : best (zs.take (k + 1)) b = if 0 ≤ zs.getD k 0 ∧ zs.getD k 0 < best (zs.take k) b then zs.getD k 0 else best (zs.take k) b := by
  rw [take_snoc zs k h, best_snoc]

theorem best_any (a : Option Addr) (cap : Nat) (zs : List Int) (w : World) (hm : zs.length ≤ 9223372036854775807) (hr : RowAt .i64 w a zs) :
    Calls Try.prog 15 #[.slice a zs.length cap] w fun e w' => e = .returned (.int .i64 (best zs 8)) ∧ w = w' := by
  have HR := Lib.hid hr
  clear hr
  go_enter Try.func15, Try.ntmps15
  go_wp2
  go_loop [3, 5, 8] (fun n _ i => ∃ k : Nat, k ≤ zs.length ∧ i = .int .i64 k ∧ n = .int .i64 (best (zs.take k) 8)) (fun _ _ i => zs.length - (intOf i).toNat)
  case atStart => exact ⟨0, by omega, rfl, rfl⟩
  case round =>
    obtain ⟨k, hk, rfl, rfl⟩ := hrel
    by_cases hlt : k < zs.length
    · rcases HR.out with h0 | ⟨b, off, rfl, hc⟩
      · rw [h0] at hlt; simp at hlt
      have hc1 := hc k hlt
      clear hc
      have HB := Lib.hid (best_round zs k hlt 8)
      have hbd := best_bd (zs.take k) 8 (by omega)
      generalize zs.getD k 0 = z at *
      generalize best (zs.take k) 8 = bb at *
      go_wp2_with (go_at_call 23; refine (is_any _ _).mono ?_; rintro e w' ⟨rfl, rfl⟩)
      all_goals
        go_round
        case rel =>
          refine ⟨k + 1, by omega, by go_num, ?_⟩
          rw [HB.out]
          simp only [isB, Bool.and_eq_true, Bool.and_eq_false_iff, decide_eq_true_eq, decide_eq_false_iff_not] at *
          congr 1
          omega
        case measure => simp [intOf]; omega
    · go_wp2
      go_ret
      exact ⟨ret_int (by rw [List.take_of_length_le (by omega)]), rfl⟩

theorem rbest_any (a : Option Addr) (cap : Nat) (zs : List Int) (w : World) (hm : zs.length ≤ 9223372036854775807) (hr : RowAt .i64 w a zs) :
    Calls Try.prog 16 #[.slice a zs.length cap] w fun e w' => e = .returned (.int .i64 (best zs 8)) ∧ w = w' := by
  have HR := Lib.hid hr
  clear hr
  go_enter Try.func16, Try.ntmps16
  go_wp2
  go_loop [3, 4] (fun n i => ∃ k : Nat, k ≤ zs.length ∧ i = .int .i64 k ∧ n = .int .i64 (best (zs.take k) 8)) (fun _ i => zs.length - (intOf i).toNat)
  case atStart => exact ⟨0, by omega, rfl, rfl⟩
  case round =>
    obtain ⟨k, hk, rfl, rfl⟩ := hrel
    by_cases hlt : k < zs.length
    · rcases HR.out with h0 | ⟨b, off, rfl, hc⟩
      · rw [h0] at hlt; simp at hlt
      have hc1 := hc k hlt
      clear hc
      have HB := Lib.hid (best_round zs k hlt 8)
      have hbd := best_bd (zs.take k) 8 (by omega)
      generalize zs.getD k 0 = z at *
      generalize best (zs.take k) 8 = bb at *
      go_wp2
      all_goals
        go_round
        case rel =>
          refine ⟨k + 1, by omega, by go_num, ?_⟩
          rw [HB.out]
          congr 1
          omega
        case measure => simp [intOf]; omega
    · go_wp2
      go_ret
      exact ⟨ret_int (by rw [List.take_of_length_le (by omega)]), rfl⟩

theorem quanta_lit (w : World) : Calls Try.prog 63 #[] w fun e w' => e = .returned (.agg #[.int .u64 1, .int .u64 1, .int .u64 2, .int .u64 2, .int .u64 3, .int .u64 4, .int .u64 6, .int .u64 8]) ∧ Gr w w' := quanta_any w

theorem run_any (x t : Int) (w : World) (h0 : 0 ≤ t) (h1 : t ≤ 18446744073709551615) :
    Calls Try.prog 18 #[.int .i64 x, .int .u64 t] w fun e w' => e = .returned (.tuple #[.int .i64 ((run x t).1 : Int), .int .u64 (run x t).2]) ∧ Gr w w' := by
  have hb := hold_bd x
  obtain ⟨n, hn⟩ := Int.eq_ofNat_of_zero_le hb.1
  have hn7 : n ≤ 7 := by omega
  have HR := Lib.hid (show run x t = runF (7 - n) n t by unfold run; rw [hn]; simp)
  have HN := Lib.hid hn
  clear hn hb
  go_enter Try.func18, Try.ntmps18
  go_wp2_with (first | (go_at_call 63; refine (quanta_lit _).mono ?_; rintro e w1 ⟨rfl, hb1⟩) | (go_at_call 24; refine (hold_any _ _).mono ?_; rintro e w' ⟨rfl, rfl⟩; rw [HN.out]))
  go_loopw [1, 4, 7] (fun tt l _ wr => ∃ (k : Nat) (s : Int), k ≤ 7 ∧ 0 ≤ s ∧ s ≤ 18446744073709551615 ∧ l = .int .i64 k ∧ tt = .int .u64 s ∧ wr = (w1.alloc (.cells Q8 79)) ∧ runF (7 - k) k s = runF (7 - n) n t) (fun _ l _ _ => 7 - (intOf l).toNat)
  case atStart => exact ⟨n, t, hn7, h0, h1, rfl, rfl, rfl, rfl⟩
  case round =>
    obtain ⟨k, s, hk, hs0, hs1, rfl, rfl, rfl, hrun⟩ := hrel
    have hq := q_bd k hk
    have HRun := Lib.hid hrun
    clear hrun
    have hc : (Q8)[k]? = some (.int .u64 (q k)) := by rcases eight k hk with rfl | rfl | rfl | rfl | rfl | rfl | rfl | rfl <;> rfl
    have hfin : (k = 7 ∨ s < q k) → run x t = (k, s % q k) := by
      intro h
      rw [HR.out, ← HRun.out]
      rcases h with rfl | h
      · rfl
      · obtain ⟨m, hm⟩ : ∃ m, 7 - k = m := ⟨_, rfl⟩
        rw [hm]
        cases m with
        | zero => rfl
        | succ m => simp only [runF, if_pos h]
    have HF := Lib.hid hfin
    clear hfin
    have hb2 : Gr w (w1.alloc (.cells Q8 79)) := hb1.al _
    have HB := Lib.hid hb2
    clear hb2
    by_cases h7 : k = 7
    · have hd : ((k : Int) == 7) = true := by simp; omega
      have H7 := Lib.hid h7
      clear h7
      go_wp2
      go_quiet (fail)
      go_wp2
      go_ret2
      refine ⟨?_, (HB.out).drewN _⟩
      rw [HF.out (.inl H7.out)]
      rfl
    · have hd : ((k : Int) == 7) = false := by simp; omega
      by_cases hlt : s < q k
      · have hd2 : decide (s < q k) = true := by simpa using hlt
        go_wp2
        go_quiet (fail)
        go_wp2
        go_ret2
        refine ⟨?_, (HB.out).drewN _⟩
        rw [HF.out (.inr hlt)]
        rfl
      · go_wp2
        go_roundw
        case rel =>
          refine ⟨k + 1, s - q k, by omega, by omega, by omega, by go_num, rfl, by trivial, ?_⟩
          rw [← HRun.out]
          obtain ⟨m, hm⟩ : ∃ m, 7 - k = m + 1 := ⟨6 - k, by omega⟩
          rw [hm, show 7 - (k + 1) = m by omega]
          simp only [runF, if_neg hlt]
        case measure => simp [intOf]; omega

theorem rrun_any (x t : Int) (w : World) (h0 : 0 ≤ t) (h1 : t ≤ 18446744073709551615) :
    Calls Try.prog 19 #[.int .i64 x, .int .u64 t] w fun e w' => e = .returned (.tuple #[.int .i64 ((run x t).1 : Int), .int .u64 (run x t).2]) ∧ Gr w w' := by
  have hb := hold_bd x
  obtain ⟨n, hn⟩ := Int.eq_ofNat_of_zero_le hb.1
  have hn7 : n ≤ 7 := by omega
  have HR := Lib.hid (show run x t = runF (7 - n) n t by unfold run; rw [hn]; simp)
  have HN := Lib.hid hn
  clear hn hb
  go_enter Try.func19, Try.ntmps19
  go_wp2_with (go_at_call 25; refine (rhold_any _ _).mono ?_; rintro e w' ⟨rfl, rfl⟩; rw [HN.out])
  go_loopw [0, 1] (fun l tt wr => ∃ (k : Nat) (s : Int), k ≤ 7 ∧ 0 ≤ s ∧ s ≤ 18446744073709551615 ∧ l = .int .i64 k ∧ tt = .int .u64 s ∧ Gr w wr ∧ runF (7 - k) k s = runF (7 - n) n t) (fun l _ _ => 7 - (intOf l).toNat)
  case atStart => exact ⟨n, t, hn7, h0, h1, rfl, rfl, Gr.refl _, rfl⟩
  case round =>
    obtain ⟨k, s, hk, hs0, hs1, rfl, rfl, hbw, hrun⟩ := hrel
    have hq := q_bd k hk
    have HRun := Lib.hid hrun
    clear hrun
    have hfin : (k = 7 ∨ s < q k) → run x t = (k, s % q k) := by
      intro h
      rw [HR.out, ← HRun.out]
      rcases h with rfl | h
      · rfl
      · obtain ⟨m, hm⟩ : ∃ m, 7 - k = m := ⟨_, rfl⟩
        rw [hm]
        cases m with
        | zero => rfl
        | succ m => simp only [runF, if_pos h]
    have HF := Lib.hid hfin
    clear hfin
    have hcq : ∀ w, Calls Try.prog 27 #[.int .i64 (k : Int)] w fun e w' => e = .returned (.int .u64 (q k)) ∧ Gr w w' := fun w => by
      have := rquantum_any (k : Int) w
      rwa [hold_nat k hk] at this
    have HQ := Lib.hid hcq
    clear hcq
    by_cases h7 : k = 7
    · have hd : decide ((k : Int) < 7) = false := by simp; omega
      have H7 := Lib.hid h7
      clear h7
      go_wp2_with (fail)
      go_region_with (go_at_call 27; refine (HQ.out _).mono ?_; rintro e w2 ⟨rfl, hb2⟩)
      all_goals
        go_wp2
        go_ret2
        refine ⟨?_, hbw.tr ((Gr.drew (Gr.refl _)).tr hb2)⟩
        rw [HF.out (.inl H7.out)]
        rfl
    · have hd : decide ((k : Int) < 7) = true := by simp; omega
      by_cases hlt : s < q k
      · have hd2 : decide (q k ≤ s) = false := by simpa using hlt
        go_wp2_with (go_at_call 27; refine (HQ.out _).mono ?_; rintro e w2 ⟨rfl, hb2⟩)
        have hbw2 := hbw.tr hb2
        clear hbw hb2
        go_region_with (go_at_call 27; refine (HQ.out _).mono ?_; rintro e w3 ⟨rfl, hb3⟩)
        all_goals
          go_wp2
          go_ret2
          refine ⟨?_, hbw2.tr ((Gr.drew (Gr.refl _)).tr hb3)⟩
          rw [HF.out (.inr hlt)]
          rfl
      · have hd2 : decide (q k ≤ s) = true := by simp; omega
        go_wp2_with (go_at_call 27; refine (HQ.out _).mono ?_; rintro e w2 ⟨rfl, hb2⟩)
        go_roundw
        case rel =>
          refine ⟨k + 1, s - q k, by omega, by omega, by omega, by go_num, rfl, ?_, ?_⟩
          · repeat (first | assumption | refine Gr.tr ?_ (by assumption))
          rw [← HRun.out]
          obtain ⟨m, hm⟩ : ∃ m, 7 - k = m + 1 := ⟨6 - k, by omega⟩
          rw [hm, show 7 - (k + 1) = m by omega]
          simp only [runF]
          rw [if_neg (by omega)]
        case measure => simp [intOf]; omega

theorem awake5_any (w : World) : Calls Try.prog 17 #[] w fun e w' => e = .returned (.bool true) ∧ Gr w w' := by
  have hr := run_any 0 3 w (by omega) (by omega)
  rw [show run 0 3 = (2, 1) from by decide] at hr
  have HR := Lib.hid hr
  clear hr
  go_enter Try.func17, Try.ntmps17
  go_wp2_with fail
  refine (HR.out).mono ?_
  rintro e w1 ⟨rfl, g1⟩
  go_wp2_with fail
  refine (best_any _ _ [5, 9, 2] _ (by simp) ?_).mono ?_
  · refine .inr ⟨_, 0, rfl, fun i hi => ?_⟩
    have : i = 0 ∨ i = 1 ∨ i = 2 := by simp at hi; omega
    rcases this with rfl | rfl | rfl <;> simp [World.cell?_alloc_new]
  rintro e w2 ⟨rfl, rfl⟩
  rw [show best [5, 9, 2] 8 = 2 from by decide]
  go_wp2_with (go_at_call 22; refine (all_any _).mono ?_; rintro e w3 ⟨rfl, g3⟩)
  go_ret
  exact ⟨rfl, (g1.al _).tr g3⟩
end Go.Proofs.Ytbbhhlnbjgigaaa
