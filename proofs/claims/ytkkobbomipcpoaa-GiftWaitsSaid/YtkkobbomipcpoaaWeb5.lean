/- Contracts of the functions of chapter 24 (web): New. -/
import Derived.Test.YtkkobbomipcpoaaWeb4
namespace Go.Proofs.Ytkkobbomipcpoaa
open Go.RowKit
set_option linter.unusedVariables false
theorem clamp_any (x lo hi : Int) (w : World) (h : lo ≤ hi) : Calls Try.prog 73 #[.int .i64 x, .int .i64 lo, .int .i64 hi] w fun e w' => e = .returned (.int .i64 (clampI x lo hi)) ∧ w = w' := by
  unfold clampI
  by_cases h1 : x < lo
  · rw [if_pos h1]
    go_enter Try.func73, Try.ntmps73
    go_wp2
    all_goals (go_ret; exact ⟨ret_int (by omega), rfl⟩)
  · rw [if_neg h1]
    by_cases h2 : hi < x
    · rw [if_pos h2]
      go_enter Try.func73, Try.ntmps73
      go_wp2
      all_goals (go_ret; exact ⟨ret_int (by omega), rfl⟩)
    · rw [if_neg h2]
      go_enter Try.func73, Try.ntmps73
      go_wp2
      all_goals (go_ret; exact ⟨ret_int (by omega), rfl⟩)
theorem el22 : Elem Try.prog 22 3 (.int .i64 0) 1 8 := ⟨Try.underlying22, by kernel_rfl, rfl, by decide⟩
theorem el96 : Elem Try.prog 96 100 (.agg #[.int .i64 0, .int .i64 0]) 2 16 := ⟨Try.underlying96, by kernel_rfl, rfl, by decide⟩
/-- A new web. -/
def webS0 (n m : Nat) : WebS := ⟨n, m, fun _ => -1, fun _ => -1, fun _ => -1⟩
def WebNew (w : World) (n m : Nat) (e : Ending) (w' : World) : Prop := ∃ g a b, e = .returned (.pointer (some ⟨g, 0, none⟩)) ∧ WebAt w' g a b (webS0 n m) ∧ Gr w w' ∧ ∀ k ∈ [g, a, b], w.heap.size ≤ k
/-- The rows are laid up to a place. -/
def Laid (w : World) (n m i j : Nat) (g a b : Nat) (wr : World) : Prop :=
  Blk wr g 98 #[.slice (some ⟨a, 0, none⟩) m m, .slice (some ⟨b, 0, none⟩) n n] ∧ Blk wr a 3 (recs m 1 fun k _ => .int .i64 (if k < i then -1 else 0)) ∧ Blk wr b 100 (recs n 2 fun k _ => .int .i64 (if k < j then -1 else 0)) ∧ Gr w wr ∧ ∀ k ∈ [g, a, b], w.heap.size ≤ k
def LaidV (w : World) (n m : Nat) (v : Value) (wr : World) : Prop := ∃ g a b, v = .pointer (some ⟨g, 0, none⟩) ∧ Laid w n m 0 0 g a b wr
theorem three (w : World) (r1 r2 r3 : Array Value) (t1 t2 t3 : TypeId) : Blk (((w.alloc (.cells r1 t1)).alloc (.cells r2 t2)).alloc (.cells r3 t3)).drew w.heap.size t1 r1 ∧ Blk (((w.alloc (.cells r1 t1)).alloc (.cells r2 t2)).alloc (.cells r3 t3)).drew (w.heap.size + 1) t2 r2 ∧
    Blk (((w.alloc (.cells r1 t1)).alloc (.cells r2 t2)).alloc (.cells r3 t3)).drew (w.heap.size + 1 + 1) t3 r3 ∧ Gr w (((w.alloc (.cells r1 t1)).alloc (.cells r2 t2)).alloc (.cells r3 t3)).drew := by
  refine ⟨(((Blk.new w t1 r1).al _).al _).drew, ?_, ?_, ((((Gr.refl w).al _).al _).al _).drew⟩
  · have := Blk.new (w.alloc (.cells r1 t1)) t2 r2
    rw [World.size_alloc] at this
    exact (this.al _).drew
  · have := Blk.new ((w.alloc (.cells r1 t1)).alloc (.cells r2 t2)) t3 r3
    rw [World.size_alloc, World.size_alloc] at this
    exact this.drew
theorem laid1 {w : World} {n m : Nat} {R1 R2 : Array Value} (h : (recs m 1 fun k _ => Value.int .i64 (if k < 0 then -1 else 0)) = R1 ∧ (recs n 2 fun k _ => Value.int .i64 (if k < 0 then -1 else 0)) = R2) :
    LaidV w n m (.pointer (some ⟨w.heap.size + 1 + 1, 0, none⟩)) (((w.alloc (.cells R1 3)).alloc (.cells R2 100)).alloc (.cells #[.slice (some ⟨w.heap.size, 0, none⟩) m m, .slice (some ⟨w.heap.size + 1, 0, none⟩) n n] 98)).drew := by
  obtain ⟨h1, h2, h3, h4⟩ := three w R1 R2 #[.slice (some ⟨w.heap.size, 0, none⟩) m m, .slice (some ⟨w.heap.size + 1, 0, none⟩) n n] 3 100 98
  refine ⟨_, w.heap.size, w.heap.size + 1, rfl, h3, ?_, ?_, h4, by simp; omega⟩
  · rw [h.1]; exact h1
  · rw [h.2]; exact h2
theorem laid2 {w : World} {n m : Nat} {R1 R2 : Array Value} (h : (recs m 1 fun k _ => Value.int .i64 (if k < 0 then -1 else 0)) = R1 ∧ (recs n 2 fun k _ => Value.int .i64 (if k < 0 then -1 else 0)) = R2) :
    LaidV w n m (.pointer (some ⟨w.heap.size + 1 + 1, 0, none⟩)) (((w.alloc (.cells R2 100)).alloc (.cells R1 3)).alloc (.cells #[.slice (some ⟨w.heap.size + 1, 0, none⟩) m m, .slice (some ⟨w.heap.size, 0, none⟩) n n] 98)).drew := by
  obtain ⟨h1, h2, h3, h4⟩ := three w R2 R1 #[.slice (some ⟨w.heap.size + 1, 0, none⟩) m m, .slice (some ⟨w.heap.size, 0, none⟩) n n] 100 3 98
  refine ⟨_, w.heap.size + 1, w.heap.size, rfl, h3, ?_, ?_, h4, by simp; omega⟩
  · rw [h.1]; exact h2
  · rw [h.2]; exact h1
theorem Laid.st1 {w wr : World} {n m i j g a b : Nat} (l : Laid w n m i j g a b wr) : Laid w n m (i + 1) j g a b (wr.setCell ⟨a, i, none⟩ (.int .i64 (-1))) := by
  obtain ⟨h1, h2, h3, h4, h5⟩ := l
  have n1 : g ≠ a := by rintro rfl; unfold Blk at h1 h2; rw [h1] at h2; simp at h2
  have n2 : b ≠ a := by rintro rfl; unfold Blk at h3 h2; rw [h3] at h2; simp at h2
  refine ⟨h1.far (p := ⟨a, i, none⟩) n1 _, ?_, h3.far (p := ⟨a, i, none⟩) n2 _, h4.st (h5 a (by simp)) _, h5⟩
  have := h2.st i (.int .i64 (-1))
  have e := recs_set m 1 (fun k _ => Value.int .i64 (if k < i then -1 else 0)) i 0 (.int .i64 (-1)) (by omega)
  simp only [Nat.mul_one, Nat.add_zero] at e
  rw [e] at this
  rwa [recs_congr m 1 _ (fun k _ => Value.int .i64 (if k < i + 1 then -1 else 0)) (fun k q _ hq => by
    obtain rfl : q = 0 := by omega
    unfold setG
    by_cases hk : k = i
    · simp [hk]
    · by_cases h' : k < i
      · simp [hk, h', show k < i + 1 by omega]
      · simp [hk, h', show ¬ k < i + 1 by omega])] at this
theorem Laid.st2 {w wr : World} {n m i j g a b : Nat} (l : Laid w n m i j g a b wr) : Laid w n m i (j + 1) g a b ((wr.setCell ⟨b, j * 2, none⟩ (.int .i64 (-1))).setCell ⟨b, j * 2 + 1, none⟩ (.int .i64 (-1))) := by
  obtain ⟨h1, h2, h3, h4, h5⟩ := l
  have n1 : g ≠ b := by rintro rfl; unfold Blk at h1 h3; rw [h1] at h3; simp at h3
  have n2 : a ≠ b := by rintro rfl; unfold Blk at h3 h2; rw [h3] at h2; simp at h2
  refine ⟨(h1.far (p := ⟨b, j * 2, none⟩) n1 _).far (p := ⟨b, j * 2 + 1, none⟩) n1 _, (h2.far (p := ⟨b, j * 2, none⟩) n2 _).far (p := ⟨b, j * 2 + 1, none⟩) n2 _, ?_, (h4.st (h5 b (by simp)) _).st (h5 b (by simp)) _, h5⟩
  have := (h3.st (j * 2) (.int .i64 (-1))).st (j * 2 + 1) (.int .i64 (-1))
  have e := recs_set n 2 (fun k _ => Value.int .i64 (if k < j then -1 else 0)) j 0 (.int .i64 (-1)) (by omega)
  simp only [Nat.add_zero] at e
  rw [e, recs_set _ _ _ j 1 _ (by omega)] at this
  rwa [recs_congr n 2 _ (fun k _ => Value.int .i64 (if k < j + 1 then -1 else 0)) (fun k q _ hq => by
    have hq : q = 0 ∨ q = 1 := by omega
    unfold setG
    by_cases hk : k = j
    · rcases hq with rfl | rfl <;> simp [hk]
    · by_cases h' : k < j
      · simp [hk, h', show k < j + 1 by omega]
      · simp [hk, h', show ¬ k < j + 1 by omega])] at this
theorem Laid.fin {w wr : World} {n m g a b : Nat} (l : Laid w n m m n g a b wr) (hn : n ≤ 64) (hm : m ≤ 64) : WebAt wr g a b (webS0 n m) := by
  obtain ⟨h1, h2, h3, h4, h5⟩ := l
  refine ⟨h1, ?_, ?_, ⟨hn, hm, fun i => ⟨Int.le_refl _, show (-1 : Int) < (n : Int) by omega⟩, fun i => ⟨Int.le_refl _, show (-1 : Int) < (m : Int) by omega⟩, fun i => ⟨Int.le_refl _, show (-1 : Int) < (n : Int) by omega⟩⟩⟩
  · show Blk wr a 3 (recs m 1 (ownG (webS0 n m)))
    rw [recs_congr m 1 (ownG (webS0 n m)) (fun k _ => Value.int .i64 (if k < m then -1 else 0)) (fun k q hk _ => by simp [ownG, webS0, hk])]
    exact h2
  · show Blk wr b 100 (recs n 2 (waitG (webS0 n m)))
    rw [recs_congr n 2 (waitG (webS0 n m)) (fun k _ => Value.int .i64 (if k < n then -1 else 0)) (fun k q hk hq => by
      have : q = 0 ∨ q = 1 := by omega
      rcases this with rfl | rfl <;> simp [waitG, webS0, hk])]
    exact h3
set_option maxRecDepth 100000 in
theorem webNew_any (x y : Int) (w : World) : Calls Try.prog 20 #[.int .i64 x, .int .i64 y] w (WebNew w (clampI x 0 64).toNat (clampI y 0 64).toNat) := by
  obtain ⟨n, hn⟩ := Int.eq_ofNat_of_zero_le (show 0 ≤ clampI x 0 64 by unfold clampI; omega)
  obtain ⟨m, hm⟩ := Int.eq_ofNat_of_zero_le (show 0 ≤ clampI y 0 64 by unfold clampI; omega)
  have hn64 : n ≤ 64 := by unfold clampI at hn; omega
  have hm64 : m ≤ 64 := by unfold clampI at hm; omega
  have C1 := Lib.hid (fun w' => clamp_any x 0 64 w' (by omega))
  have C2 := Lib.hid (fun w' => clamp_any y 0 64 w' (by omega))
  rw [hn] at C1
  rw [hm] at C2
  rw [hn, hm, Int.toNat_natCast, Int.toNat_natCast]
  clear hn hm
  have k1 := run_make_recs el22 m (by omega) (by omega)
  have k2 := run_make_recs el96 n (by omega) (by omega)
  rw [show (recs m 1 fun _ k => (Value.int .i64 0).cells[k]!) = recs m 1 (fun k _ => .int .i64 (if k < 0 then -1 else 0)) from
    recs_congr _ _ _ _ fun i k _ hk => by obtain rfl : k = 0 := (by omega); rfl] at k1
  rw [show (recs n 2 fun _ k => (Value.agg #[.int .i64 0, .int .i64 0]).cells[k]!) = recs n 2 (fun k _ => .int .i64 (if k < 0 then -1 else 0)) from
    recs_congr _ _ _ _ fun i k _ hk => by
      have : k = 0 ∨ k = 1 := by omega
      rcases this with rfl | rfl <;> rfl] at k2
  generalize hR1 : (recs m 1 fun k _ => Value.int .i64 (if k < 0 then -1 else 0)) = R1 at k1
  generalize hR2 : (recs n 2 fun k _ => Value.int .i64 (if k < 0 then -1 else 0)) = R2 at k2
  have HR := Lib.hid (And.intro hR1 hR2)
  clear hR1 hR2
  go_enter Try.func20, Try.ntmps20
  go_upto_region 1 with fail
  go_cut [5] (fun v wx => LaidV w n m v wx)
  case first =>
    go_region_held3 (fun _ => True) (exact trivial)
      (first
      | (go_at_call 73; (with_reducible refine (C2.out _).mono ?_); rintro e w1 ⟨rfl, rfl⟩)
      | (go_at_call 73; (with_reducible refine (C1.out _).mono ?_); rintro e w1 ⟨rfl, rfl⟩))
    all_goals
      go_wp2_with fail
      go_meet
      case rel => first | exact laid1 HR.out | exact laid2 HR.out
  case rest =>
    obtain ⟨g, a, b, rfl, L⟩ := hcut
    clear k1 k2 HR C1 C2
    obtain ⟨c0, c1, cf⟩ := L.1.c2
    have HL := Lib.hid L
    clear L
    go_wp2_with fail
    go_loopw [21] (fun v wr => ∃ k : Nat, k ≤ m ∧ v = .int .i64 k ∧ Laid w n m k 0 g a b wr) (fun v _ => m - (intOf v).toNat)
    case atStart => exact ⟨0, by omega, rfl, HL.out⟩
    case round =>
      obtain ⟨k, hk, rfl, L⟩ := hrel
      clear c0 c1 cf
      obtain ⟨c0, c1, cf⟩ := L.1.c2
      by_cases hlt : k < m
      · have hd : decide ((k : Int) < (m : Int)) = true := by simpa using hlt
        have o0 := (L.2.1.cell k).trans (by simpa using recs_get m 1 _ k 0 hlt (by omega))
        have o1 := L.2.1.frozen
        have HL := Lib.hid L
        clear L
        go_wp2_with fail
        go_roundw
        case rel => exact ⟨k + 1, by omega, by go_num, HL.out.st1⟩
        case measure => simp [intOf]; omega
      · obtain rfl : m = k := by omega
        have hd : decide ((m : Int) < (m : Int)) = false := by simp
        have HL := Lib.hid L
        clear L
        go_wp2_with fail
        go_loopw [36] (fun v wr => ∃ j : Nat, j ≤ n ∧ v = .int .i64 j ∧ Laid w n m m j g a b wr) (fun v _ => n - (intOf v).toNat)
        case atStart => exact ⟨0, by omega, rfl, HL.out⟩
        case round =>
          obtain ⟨j, hj, rfl, L⟩ := hrel
          clear c0 c1 cf hd
          obtain ⟨c0, c1, cf⟩ := L.1.c2
          by_cases hlt : j < n
          · have hd : decide ((j : Int) < (n : Int)) = true := by simpa using hlt
            have o0 := (L.2.2.1.cell (j * 2)).trans (by simpa using recs_get n 2 _ j 0 hlt (by omega))
            have o1 := (L.2.2.1.cell (j * 2 + 1)).trans (recs_get n 2 _ j 1 hlt (by omega))
            have o2 := L.2.2.1.frozen
            have HL := Lib.hid L
            clear L
            go_wp2_with fail
            go_roundw
            case rel => exact ⟨j + 1, by omega, by go_num, HL.out.st2⟩
            case measure => simp [intOf]; omega
          · obtain rfl : n = j := by omega
            have hd : decide ((n : Int) < (n : Int)) = false := by simp
            have HL := Lib.hid L
            clear L
            go_wp2_with fail
            go_ret
            exact ⟨g, a, b, rfl, HL.out.fin hn64 hm64, HL.out.2.2.2⟩
end Go.Proofs.Ytkkobbomipcpoaa
