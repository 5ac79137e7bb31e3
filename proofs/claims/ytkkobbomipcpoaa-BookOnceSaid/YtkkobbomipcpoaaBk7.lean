/- Contracts of Late of chapter 29 (book), the program's and the document's, for every input. -/
import Derived.Test.YtkkobbomipcpoaaBk6
namespace Go.Proofs.Ytkkobbomipcpoaa
open Go.RowKit TagP
set_option linter.unusedVariables false

def lateB (s : BS) (now ticks : Int) (k : Nat) : Bool := decide (s.f k ≠ 0) && (decide (s.sc k ≤ now) && decide (ticks ≤ now - s.sc k))
/-- Who of the first k places stands for long. -/
def lateL (s : BS) (now ticks : Int) : Nat → List Int
  | 0 => []
  | k + 1 => if lateB s now ticks k = true then lateL s now ticks k ++ [(k : Int)] else lateL s now ticks k
theorem lateL_len (s : BS) (now ticks : Int) (k : Nat) : (lateL s now ticks k).length ≤ k := by
  induction k with
  | zero => simp [lateL]
  | succ k ih => unfold lateL; split; (rw [List.length_append, List.length_singleton]; omega); omega
theorem late_cases (s : BS) (now ticks : Int) (k : Nat) :
    (s.f k = 0 ∧ lateB s now ticks k = false) ∨ (s.f k ≠ 0 ∧ now < s.sc k ∧ lateB s now ticks k = false) ∨ (s.f k ≠ 0 ∧ s.sc k ≤ now ∧ now - s.sc k < ticks ∧ lateB s now ticks k = false) ∨ (s.f k ≠ 0 ∧ s.sc k ≤ now ∧ ticks ≤ now - s.sc k ∧ lateB s now ticks k = true) := by
  unfold lateB
  by_cases h0 : s.f k = 0
  · left; exact ⟨h0, by simp [h0]⟩
  · right
    by_cases h1 : s.sc k ≤ now
    · right
      by_cases h2 : ticks ≤ now - s.sc k
      · right; exact ⟨h0, h1, h2, by simp [h0, h1, h2]⟩
      · left; exact ⟨h0, h1, by omega, by simp only [Bool.and_eq_false_iff, decide_eq_false_iff_not]; omega⟩
    · left; exact ⟨h0, by omega, by simp [h1]⟩

theorem blate (g h : Nat) (s : BS) (now ticks : Int) (w : World) (l : BookAt w g h s) (fi : Fine s) (hn : 0 ≤ now ∧ now ≤ 18446744073709551615) (ht : 0 ≤ ticks ∧ ticks ≤ 18446744073709551615) :
    Calls Try.prog 57 #[.pointer (some ⟨g, 0, none⟩), .int .u64 now, .int .u64 ticks] w fun e w' => ∃ v, e = .returned v ∧ Sl 3 .i64 w' v (lateL s now ticks 64) ∧ Gr w w' := by
  have L := Lib.hid l
  clear l
  obtain ⟨hn0, hn1⟩ := hn
  obtain ⟨ht0, ht1⟩ := ht
  go_enter Try.func57, Try.ntmps57
  go_wp2_with (refine ldA (.tmp 14) g h s rfl rfl rfl L.out ?_)
  have HI := Lib.hid (idxA h s)
  have HF := Lib.hid (fun k w l => bstands g h s k w l)
  generalize (part (bkF h s) 2 256).toArray = C at *
  go_loopw [7, 16] (fun v i wr => ∃ k : Nat, k ≤ 64 ∧ i = .int .i64 k ∧ Sl 3 .i64 wr v (lateL s now ticks k) ∧ (∀ b ∈ sb v, w.heap.size ≤ b) ∧ Gr w wr) (fun _ i _ => 64 - (intOf i).toNat)
  case atStart => exact ⟨0, by omega, rfl, Sl.nil _ _ _, by simp [sb], Gr.refl _⟩
  case round =>
    obtain ⟨k, hk, rfl, hsl, hsb, gr⟩ := hrel
    have lr := Lib.hid (L.out.gr gr)
    have hlen := lateL_len s now ticks k
    have HS := Lib.hid (And.intro hsl hsb)
    obtain ⟨av, cv, rfl, hv1, hv2⟩ := hsl.len
    clear hsl hsb
    by_cases hlt : k < 64
    · have hlt' : (k : Int) < 64 := by omega
      have hi := HI.out k hlt
      have hst : stB s.f (k : Int) = decide (s.f k ≠ 0) := by unfold stB; rw [(place_iff (k : Int)).2 (by omega), Int.toNat_natCast]; simp
      obtain ⟨hs0, hs1⟩ := fi.sc k
      have hcs := late_cases s now ticks k
      have HB : Hid (lateL s now ticks (k + 1) = if lateB s now ticks k = true then lateL s now ticks k ++ [(k : Int)] else lateL s now ticks k) := Lib.hid rfl
      generalize s.hm k = q0 at hi
      generalize s.lv k = q1 at hi
      generalize s.mv k = q3 at hi
      generalize lateL s now ticks k = ws at *
      generalize lateB s now ticks k = lb at *
      generalize s.sc k = q at *
      rcases hcs with ⟨h0, rfl⟩ | ⟨h0, h1, rfl⟩ | ⟨h0, h1, h2, rfl⟩ | ⟨h0, h1, h2, rfl⟩
      · have HP := Lib.hid (fun w l => HF.out k w l)
        rw [hst, show decide (s.f k ≠ 0) = false by simpa using h0] at HP
        clear h0 hst
        go_wp2_with (go_at_call 98; refine (HP.out _ (lr.out.gr ?_)).mono ?_; exact (Gr.refl _).al _; rintro e w' ⟨rfl, rfl⟩)
        go_roundw
        case rel => exact ⟨k + 1, by omega, by go_num, by rw [HB.out]; exact HS.out.1.gr ((Gr.refl _).al _), HS.out.2, gr.al _⟩
        case measure => simp [intOf]; omega
      · have HP := Lib.hid (fun w l => HF.out k w l)
        rw [hst, show decide (s.f k ≠ 0) = true by simpa using h0] at HP
        have d1 : decide (q ≤ now) = false := by simp; omega
        clear h0 hst
        go_wp2_with (go_at_call 98; refine (HP.out _ (lr.out.gr ?_)).mono ?_; exact (Gr.refl _).al _; rintro e w' ⟨rfl, rfl⟩)
        go_roundw
        case rel => exact ⟨k + 1, by omega, by go_num, by rw [HB.out]; exact HS.out.1.gr ((Gr.refl _).al _), HS.out.2, gr.al _⟩
        case measure => simp [intOf]; omega
      · have HP := Lib.hid (fun w l => HF.out k w l)
        rw [hst, show decide (s.f k ≠ 0) = true by simpa using h0] at HP
        have d1 : decide (q ≤ now) = true := by simp; omega
        have d2 : decide (ticks ≤ now - q) = false := by simp; omega
        clear h0 hst
        go_wp2_with (go_at_call 98; refine (HP.out _ (lr.out.gr ?_)).mono ?_; exact (Gr.refl _).al _; rintro e w' ⟨rfl, rfl⟩)
        go_roundw
        case rel => exact ⟨k + 1, by omega, by go_num, by rw [HB.out]; exact HS.out.1.gr ((Gr.refl _).al _), HS.out.2, gr.al _⟩
        case measure => simp [intOf]; omega
      · have HP := Lib.hid (fun w l => HF.out k w l)
        rw [hst, show decide (s.f k ≠ 0) = true by simpa using h0] at HP
        have d1 : decide (q ≤ now) = true := by simp; omega
        have d2 : decide (ticks ≤ now - q) = true := by simp; omega
        clear h0 hst
        go_upto_region 8 with (go_at_call 98; refine (HP.out _ (lr.out.gr ?_)).mono ?_; exact (Gr.refl _).al _; rintro e w' ⟨rfl, rfl⟩)
        have g2 : Gr w (wr.alloc (.cells #[.int .i64 q0, .int .i64 q1, .int .u64 q, .bool q3] 114)) := gr.al _
        have s2 := HS.out.1.gr ((Gr.refl wr).al (.cells #[.int .i64 q0, .int .i64 q1, .int .u64 q, .bool q3] 114))
        have HS2 := Lib.hid s2
        clear s2
        generalize wr.alloc (.cells #[.int .i64 q0, .int .i64 q1, .int .u64 q, .bool q3] 114) = W at *
        go_wp2_with (at_builtin; refine wpList_sl1 el22 .i64 (.tmp 37) (.tmp 39) _ ws (k : Int) _ _ rfl rfl rfl rfl HS2.out (by omega) (by omega) ?_; intro v1 w1 hs1 k1 f1)
        go_roundw
        case rel =>
          exact ⟨k + 1, by omega, by go_num, by rw [HB.out]; exact hs1, fun b hb => by rcases f1 b hb with h | h; exact HS.out.2 b h; (have := g2.size_le; omega), g2.chs k1 HS.out.2⟩
        case measure => simp [intOf]; omega
    · obtain rfl : k = 64 := by omega
      go_wp2_with fail
      go_ret
      exact ⟨_, rfl, HS.out.1, gr⟩

theorem dlate (r : Nat) (of : Nat → Int) (s : BS) (now ticks : Int) (w : World) (l : DocAt w r of s) (fi : Fine s) (hn : 0 ≤ now ∧ now ≤ 18446744073709551615) (ht : 0 ≤ ticks ∧ ticks ≤ 18446744073709551615) :
    Calls Try.prog 58 #[.pointer (some ⟨r, 0, none⟩), .int .u64 now, .int .u64 ticks] w fun e w' => ∃ v, e = .returned v ∧ Sl 3 .i64 w' v (lateL s now ticks 64) ∧ Gr w w' := by
  have L := Lib.hid l
  clear l
  obtain ⟨hn0, hn1⟩ := hn
  obtain ⟨ht0, ht1⟩ := ht
  go_enter Try.func58, Try.ntmps58
  go_wp2_with fail
  go_loopw [7, 8] (fun v i wr => ∃ k : Nat, k ≤ 64 ∧ i = .int .i64 k ∧ Sl 3 .i64 wr v (lateL s now ticks k) ∧ (∀ b ∈ sb v, w.heap.size ≤ b) ∧ Gr w wr) (fun _ i _ => 64 - (intOf i).toNat)
  case atStart => exact ⟨0, by omega, rfl, Sl.nil _ _ _, by simp [sb], Gr.refl _⟩
  case round =>
    obtain ⟨k, hk, rfl, hsl, hsb, gr⟩ := hrel
    have lr := Lib.hid (L.out.gr gr)
    have hlen := lateL_len s now ticks k
    have HS := Lib.hid (And.intro hsl hsb)
    obtain ⟨av, cv, rfl, hv1, hv2⟩ := hsl.len
    clear hsl hsb
    by_cases hlt : k < 64
    · have hlt' : (k : Int) < 64 := by omega
      obtain ⟨c0, c1, c2, c3, c4, c5, cf⟩ := lr.out.one hlt
      obtain ⟨hs0, hs1⟩ := fi.sc k
      have hcs := late_cases s now ticks k
      have HB : Hid (lateL s now ticks (k + 1) = if lateB s now ticks k = true then lateL s now ticks k ++ [(k : Int)] else lateL s now ticks k) := Lib.hid rfl
      simp only [oneR] at c0 c1 c2 c3 c4 c5
      generalize s.hm k = q0 at *
      generalize (decide (s.f k ≠ 0) && s.mv k) = q3 at *
      generalize (if s.f k ≠ 0 then s.lv k else 0) = q1 at *
      generalize lateL s now ticks k = ws at *
      generalize lateB s now ticks k = lb at *
      generalize s.sc k = q at *
      generalize s.f k = z at *
      rcases hcs with ⟨h0, rfl⟩ | ⟨h0, h1, rfl⟩ | ⟨h0, h1, h2, rfl⟩ | ⟨h0, h1, h2, rfl⟩
      · rw [show decide (z ≠ 0) = false by simpa using h0] at c0
        rw [if_neg (by simpa using h0)] at c4
        clear h0
        go_wp2_with fail
        go_roundw
        case rel => exact ⟨k + 1, by omega, by go_num, by rw [HB.out]; exact HS.out.1.gr ((Gr.refl _).al _), HS.out.2, gr.al _⟩
        case measure => simp [intOf]; omega
      · rw [show decide (z ≠ 0) = true by simpa using h0] at c0
        rw [if_pos h0] at c4
        have d1 : decide (q ≤ now) = false := by simp; omega
        clear h0
        go_wp2_with fail
        go_roundw
        case rel => exact ⟨k + 1, by omega, by go_num, by rw [HB.out]; exact HS.out.1.gr ((Gr.refl _).al _), HS.out.2, gr.al _⟩
        case measure => simp [intOf]; omega
      · rw [show decide (z ≠ 0) = true by simpa using h0] at c0
        rw [if_pos h0] at c4
        have d1 : decide (q ≤ now) = true := by simp; omega
        have d2 : decide (ticks ≤ now - q) = false := by simp; omega
        clear h0
        go_wp2_with fail
        go_roundw
        case rel => exact ⟨k + 1, by omega, by go_num, by rw [HB.out]; exact HS.out.1.gr ((Gr.refl _).al _), HS.out.2, gr.al _⟩
        case measure => simp [intOf]; omega
      · rw [show decide (z ≠ 0) = true by simpa using h0] at c0
        rw [if_pos h0] at c4
        have d1 : decide (q ≤ now) = true := by simp; omega
        have d2 : decide (ticks ≤ now - q) = true := by simp; omega
        clear h0
        go_upto_region 7 with fail
        have g2 : Gr w (wr.alloc (.cells #[.bool true, .int .u64 z, .int .i64 q0, .int .i64 q1, .int .u64 q, .bool q3] 125)) := gr.al _
        have s2 := HS.out.1.gr ((Gr.refl wr).al (.cells #[.bool true, .int .u64 z, .int .i64 q0, .int .i64 q1, .int .u64 q, .bool q3] 125))
        have HS2 := Lib.hid s2
        clear s2
        generalize wr.alloc (.cells #[.bool true, .int .u64 z, .int .i64 q0, .int .i64 q1, .int .u64 q, .bool q3] 125) = W at *
        go_wp2_with (at_builtin; refine wpList_sl1 el22 .i64 (.tmp 36) (.tmp 38) _ ws (k : Int) _ _ rfl rfl rfl rfl HS2.out (by omega) (by omega) ?_; intro v1 w1 hs1 k1 f1)
        go_roundw
        case rel =>
          exact ⟨k + 1, by omega, by go_num, by rw [HB.out]; exact hs1, fun b hb => by rcases f1 b hb with h | h; exact HS.out.2 b h; (have := g2.size_le; omega), g2.chs k1 HS.out.2⟩
        case measure => simp [intOf]; omega
    · obtain rfl : k = 64 := by omega
      go_wp2_with fail
      go_ret
      exact ⟨_, rfl, HS.out.1, gr⟩
end Go.Proofs.Ytkkobbomipcpoaa
