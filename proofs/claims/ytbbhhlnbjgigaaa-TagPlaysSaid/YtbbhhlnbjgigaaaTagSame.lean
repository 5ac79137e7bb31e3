/- The law's helpers of chapter 6 (tag): a book and the document's book that agree tell the same. -/
import Derived.Test.YtbbhhlnbjgigaaaTagRef
namespace Go.Proofs.Ytbbhhlnbjgigaaa
open Go.RowKit TagP
set_option linter.unusedVariables false

/-- The words of a book whose stamps are of. -/
def wf (of : Nat → Int) : Nat → Int := fun i => if of i = 0 then 0 else of i * 256 + i
theorem wf_set (of : Nat → Int) (i : Nat) (s : Int) (h : s ≠ 0) : setF (wf of) i (s * 256 + i) = wf (setF of i s) := by
  funext j
  unfold setF wf
  by_cases hj : j = i
  · subst hj; simp [h]
  · simp [hj]
theorem wf_drop (of : Nat → Int) (i : Nat) : setF (wf of) i 0 = wf (setF of i 0) := by
  funext j
  unfold setF wf
  by_cases hj : j = i
  · subst hj; simp
  · simp [hj]
theorem now_eq (of : Nat → Int) (slot : Int) : nowI (wf of) slot = rnowI of slot := by
  unfold nowI rnowI wf
  by_cases h : placeB slot = true
  · rw [if_pos h, if_pos h]
    have := (place_iff slot).1 h
    split
    · rfl
    · omega
  · rw [if_neg h, if_neg h]

theorem rliveF_none (of : Nat → Int) (u : Int) : ∀ n i, (∀ j, i ≤ j → j < i + n → ¬ (of j ≠ 0 ∧ of j * 256 + j = u)) → rliveF of u n i = -1
  | 0, i, _ => rfl
  | n + 1, i, h => by
    unfold rliveF
    rw [if_neg (h i (Nat.le_refl _) (by omega))]
    exact rliveF_none of u n (i + 1) (fun j h1 h2 => h j (by omega) (by omega))
theorem rliveF_some (of : Nat → Int) (u : Int) (k : Nat) (hk : of k ≠ 0 ∧ of k * 256 + k = u) (hu : ∀ j, j < 64 → of j ≠ 0 ∧ of j * 256 + j = u → j = k) : ∀ n i, i ≤ k → k < i + n → i + n ≤ 64 → rliveF of u n i = k
  | 0, i, _, _, _ => by omega
  | n + 1, i, h1, h2, h3 => by
    unfold rliveF
    split
    · rename_i h
      rw [hu i (by omega) h]
    · rename_i h
      have : i ≠ k := fun e => by subst e; exact h hk
      exact rliveF_some of u k hk hu n (i + 1) (by omega) (by omega) (by omega)
/-- A word is live just where the document says so. -/
theorem live_eq (of : Nat → Int) (u : Int) (hu0 : 0 ≤ u) (hof : ∀ i, 0 ≤ of i ∧ of i ≤ 72057594037927935) :
    (goodB (u / 256) (u % 256) = true ∧ wf of (u % 256).toNat = u ∧ rliveI of u = u % 256) ∨ (¬ (goodB (u / 256) (u % 256) = true ∧ wf of (u % 256).toNat = u) ∧ rliveI of u = -1) := by
  by_cases h : goodB (u / 256) (u % 256) = true ∧ wf of (u % 256).toNat = u
  · left
    obtain ⟨hg, hw⟩ := h
    refine ⟨hg, hw, ?_⟩
    obtain ⟨g1, g2, g3, g4⟩ := (good_iff _ _).1 hg
    obtain ⟨k, hk⟩ := Int.eq_ofNat_of_zero_le g3
    rw [hk] at hw ⊢
    rw [Int.toNat_natCast] at hw
    unfold wf at hw
    have hne : of k ≠ 0 := fun e => by rw [if_pos e] at hw; omega
    rw [if_neg hne] at hw
    exact rliveF_some of u k ⟨hne, hw⟩ (fun j hj ⟨_, h2⟩ => by omega) 64 0 (by omega) (by omega) (by omega)
  · right
    refine ⟨h, rliveF_none of u 64 0 (fun j _ hj ⟨h1, h2⟩ => h ?_)⟩
    have := hof j
    have e1 : u / 256 = of j := by omega
    have e2 : u % 256 = (j : Int) := by omega
    rw [e1, e2, good_iff, Int.toNat_natCast]
    refine ⟨⟨by omega, by omega, by omega, by omega⟩, ?_⟩
    unfold wf
    rw [if_neg h1]
    exact h2

theorem live51_any (g : Nat) (last : Int) (of : Nat → Int) (u : Int) (w : World) (hb : Blk w g 85 (bookCells last (wf of))) (hof : ∀ i, 0 ≤ of i ∧ of i ≤ 72057594037927935) (h0 : 0 ≤ u) (h1 : u ≤ 18446744073709551615) :
    Calls Try.prog 51 #[.pointer (some ⟨g, 0, none⟩), .agg (bookCells last of), .int .u64 u] w fun e w' => e = .returned (.bool true) ∧ Gr w w' := by
  have CR := Lib.hid (fun w => rlive_any last of u w hof)
  have hr := Blk.new w 67 (bookCells last of)
  have hb' := hb.al (.cells (bookCells last of) 67)
  have hg : Gr w (w.alloc (.cells (bookCells last of) 67)) := (Gr.refl w).al _
  have hcase := live_eq of u h0 hof
  clear hof hb
  rcases hcase with ⟨hg1, hw1, hr1⟩ | ⟨hn, hr1⟩
  · have CL := Lib.hid (fun (W : World) (hW : Blk W g 85 (bookCells last (wf of))) => live_yes g last (wf of) u W hW h0 h1 hg1 hw1)
    have HR := Lib.hid hr1
    clear hr1 hw1 hg1
    go_enter Try.func51, Try.ntmps51
    go_wp2_with fail
    generalize w.alloc (.cells (bookCells last of) 67) = w1 at *
    refine (CL.out _ hb').mono ?_
    rintro e w2 ⟨rfl, g2⟩
    have hr2 := hr.gr g2
    have hm : 0 ≤ u % 256 := by omega
    go_wp2_with (first | (refine ld67 (.tmp 4) w.heap.size last of rfl rfl rfl hr2 ?_) | (go_at_call 67; refine (CR.out _).mono ?_; rintro e w3 ⟨rfl, g3⟩; rw [HR.out]))
    go_ret
    exact ⟨rfl, (hg.tr g2).tr g3⟩
  · have CL : Hid (∀ (W : World) (hW : Blk W g 85 (bookCells last (wf of))), Calls Try.prog 47 #[.pointer (some ⟨g, 0, none⟩), .int .u64 u] W fun e w' => e = .returned (.tuple #[.int .i64 0, .bool false]) ∧ Gr W w') := Lib.hid (fun W hW => by
      cases hq : goodB (u / 256) (u % 256) with
      | false => exact live_bad _ u W h0 h1 hq
      | true => exact live_no g last (wf of) u W hW h0 h1 hq (fun e => hn ⟨hq, e⟩))
    have HR := Lib.hid hr1
    clear hr1 hn
    go_enter Try.func51, Try.ntmps51
    go_wp2_with fail
    generalize w.alloc (.cells (bookCells last of) 67) = w1 at *
    refine (CL.out _ hb').mono ?_
    rintro e w2 ⟨rfl, g2⟩
    have hr2 := hr.gr g2
    go_wp2_with (first | (refine ld67 (.tmp 4) w.heap.size last of rfl rfl rfl hr2 ?_) | (go_at_call 67; refine (CR.out _).mono ?_; rintro e w3 ⟨rfl, g3⟩; rw [HR.out]))
    go_ret
    exact ⟨rfl, (hg.tr g2).tr g3⟩

attribute [local go_sem ↓] wp_ld67
theorem same_any (g : Nat) (last : Int) (of : Nat → Int) (w : World) (hb : Blk w g 85 (bookCells last (wf of))) (hof : ∀ i, 0 ≤ of i ∧ of i ≤ 72057594037927935) :
    Calls Try.prog 52 #[.pointer (some ⟨g, 0, none⟩), .agg (bookCells last of)] w fun e w' => e = .returned (.bool true) ∧ Gr w w' := by
  have CR := Lib.hid (fun i w => rnow_any last of i w hof)
  have hr := Blk.new w 67 (bookCells last of)
  have hb' := hb.al (.cells (bookCells last of) 67)
  have hg : Gr w (w.alloc (.cells (bookCells last of) 67)) := (Gr.refl w).al _
  clear hof hb
  go_enter Try.func52, Try.ntmps52
  go_wp2_with fail
  generalize w.alloc (.cells (bookCells last of) 67) = w1 at *
  go_loopw [5] (fun i wr => ∃ k : Nat, k ≤ 66 ∧ i = .int .i64 ((k : Int) - 1) ∧ Gr w1 wr) (fun i _ => (65 - intOf i).toNat)
  case atStart => exact ⟨0, by omega, rfl, Gr.refl _⟩
  case round =>
    obtain ⟨k, hk, rfl, hgk⟩ := hrel
    by_cases hlt : k < 66
    · have hbk := hb'.gr hgk
      have hrk := hr.gr hgk
      have hr1 := hrk.drew.rowOf
      have hr2 := hrk.drew.hasRow (bookCells_size _ _)
      have CB : Hid (∀ W, Gr wr W → Calls Try.prog 53 #[.pointer (some ⟨g, 0, none⟩), .int .i64 ((k : Int) - 1)] W fun e w' => e = .returned (.int .u64 (rnowI of ((k : Int) - 1))) ∧ W = w') := Lib.hid (fun W hW => by
        have := now_any g last (wf of) ((k : Int) - 1) W (hbk.gr hW)
        rwa [now_eq] at this)
      clear hbk
      have hle : ((k : Int) - 1) ≤ 64 := by omega
      go_wp2_with fail
      go_region_law (first | (go_simp; go_at_call 53; refine (CB.out _ (by first | exact (Gr.refl _).drew | exact ((Gr.refl _).drew).tr g2)).mono ?_; rintro e w' ⟨rfl, rfl⟩) | (go_simp; go_at_call 68; refine (CR.out _ _).mono ?_; rintro e w2 ⟨rfl, g2⟩))
      all_goals
        go_wp2_with fail
        go_roundw
        case rel => exact ⟨k + 1, by omega, by congr 1; omega, (hgk.drew).tr g2⟩
        case measure => simp [intOf]; omega
    · obtain rfl : k = 66 := by omega
      rw [show ((66 : Nat) : Int) - 1 = 65 from rfl]
      go_wp2_with fail
      go_ret
      exact ⟨rfl, hg.tr hgk⟩
end Go.Proofs.Ytbbhhlnbjgigaaa
