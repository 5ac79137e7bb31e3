/- The page's example (awake) of chapter 29 (book), and the walk of the law BookNil. -/
import Derived.Test.YtkkobbomipcpoaaBk7
namespace Go.Proofs.Ytkkobbomipcpoaa
open Go.RowKit TagP
set_option linter.unusedVariables false

theorem same_any (ws : List Int) (v v2 : Value) (w : World) (s1 : Sl 3 .i64 w v ws) (s2 : Sl 3 .i64 w v2 ws) (hl : ws.length ≤ 1000) : Calls Try.prog 15 #[v, v2] w fun e w' => e = .returned (.bool true) ∧ Gr w w' := by
  obtain ⟨a, cp, rfl, h1, h2, r1⟩ := s1.row
  obtain ⟨a2, cp2, rfl, h12, h22, r2⟩ := s2.row
  have HR := Lib.hid (And.intro r1 r2)
  clear s1 s2 r1 r2
  go_enter Try.func15, Try.ntmps15
  go_wp2
  go_loopw [5] (fun i wr => ∃ k : Nat, k ≤ ws.length ∧ i = .int .i64 k ∧ Gr w wr) (fun i _ => ws.length - (intOf i).toNat)
  case atStart => exact ⟨0, by omega, rfl, Gr.refl w⟩
  case round =>
    obtain ⟨k, hk, rfl, gr⟩ := hrel
    by_cases hlt : k < ws.length
    · rcases HR.out.1 with h0 | ⟨b, off, rfl, hc⟩
      · simp [h0] at hlt
      rcases HR.out.2 with h0 | ⟨b2, off2, rfl, hc2⟩
      · simp [h0] at hlt
      have c1 := gr.cell_some (hc k hlt)
      have c2 := gr.cell_some (hc2 k hlt)
      generalize ws.getD k 0 = z at c1 c2
      clear hc hc2
      have i1 : (0 : Int) ≤ (k : Int) := by omega
      have i2 : (k : Int) < (ws.length : Int) := by omega
      go_wp2_with fail
      go_quiet (fail)
      go_wp2
      go_roundw
      case rel => exact ⟨k + 1, by omega, by go_num, gr.drewN _⟩
      case measure => simp [intOf]; omega
    · obtain rfl : ws.length = k := by omega
      go_wp2
      go_ret
      exact ⟨rfl, gr⟩

theorem fine0 {c : Int} (h : 1 ≤ c) : Fine (s0 c) := ⟨fun i => by show (0 : Int) ≤ 0 ∧ (0 : Int) < c; omega, fun i => by show (0 : Int) ≤ 0 ∧ (0 : Int) ≤ _; omega⟩
theorem Fine.pl {s : BS} (fi : Fine s) (i : Nat) (cpu level now : Int) (anew : Bool) (hc : cpuB s.c cpu = true) (hn : 0 ≤ now ∧ now ≤ 18446744073709551615) : Fine (plS s i cpu level now anew) := by
  have hc' : 0 ≤ cpu ∧ cpu < s.c := by unfold cpuB at hc; simpa using hc
  refine ⟨fun j => ?_, fun j => ?_⟩
  · show 0 ≤ upd s.hm i cpu j ∧ upd s.hm i cpu j < s.c
    unfold upd; split
    · exact hc'
    · exact fi.hm j
  · show 0 ≤ (if freshB s i anew = true then upd s.sc i now else s.sc) j ∧ _
    show 0 ≤ (if freshB s i anew = true then upd s.sc i now else s.sc) j ∧ (if freshB s i anew = true then upd s.sc i now else s.sc) j ≤ _
    split
    · unfold upd; split
      · exact hn
      · exact fi.sc j
    · exact fi.sc j
def exB : BS := plS (s0 2) 3 1 5 10 true
theorem exB_l : ldL exB 64 = [0, 1] := by kernel_rfl
theorem exB_t : lateL exB 20 10 64 = [3] := by kernel_rfl
theorem lit1 (w : World) (x : Int) : Sl 3 .i64 (w.alloc (.cells #[.int .i64 x] 3)) (.slice (some ⟨w.heap.size, 0, none⟩) 1 1) [x] :=
  ⟨some ⟨w.heap.size, 0, none⟩, 1, rfl, by simp, by omega, .inr ⟨w.heap.size, 0, _, rfl, Blk.new w 3 #[.int .i64 x], by simp, fun i y hy => by
    match i with
    | 0 => simp at hy; subst hy; rfl
    | i + 1 => simp at hy⟩⟩
theorem lit2 (w : World) (x y : Int) : Sl 3 .i64 (w.alloc (.cells #[.int .i64 x, .int .i64 y] 3)) (.slice (some ⟨w.heap.size, 0, none⟩) 2 2) [x, y] :=
  ⟨some ⟨w.heap.size, 0, none⟩, 2, rfl, by simp, by omega, .inr ⟨w.heap.size, 0, _, rfl, Blk.new w 3 #[.int .i64 x, .int .i64 y], by simp, fun i z hz => by
    match i with
    | 0 => simp at hz; subst hz; rfl
    | 1 => simp at hz; subst hz; rfl
    | i + 2 => simp at hz⟩⟩
theorem awake29 (w : World) : Calls Try.prog 51 #[] w fun e w' => e = .returned (.bool true) ∧ Gr w w' := by
  have C1 := Lib.hid (fun w => bnew 2 w)
  rw [show clampI 2 1 64 = 2 from rfl] at C1
  go_enter Try.func51, Try.ntmps51
  go_wp2_with fail
  refine (C1.out _).mono ?_
  rintro e w1 ⟨rfl, l1, g1⟩
  have hg1 := g1.size_le
  generalize hB : w.heap.size = B at *
  have HB := Lib.hid hB
  clear hB
  go_wp2_with fail
  refine (bplace_yes (B + 1) B (s0 2) 3 1 5 10 true w1 l1 (by omega) rfl (by show (0 : Int) < _; omega)).mono ?_
  rintro e w2 ⟨rfl, l2, k2⟩
  have g2 : Gr w w2 := g1.chs k2 (by have := HB.out; simp; omega)
  rw [show ((s0 2).last + 1) * 256 + ((3 : Nat) : Int) = 259 from rfl]
  have L2 := Lib.hid l2
  have fi : Fine (plS (s0 2) 3 1 5 10 true) := (fine0 (by omega)).pl 3 1 5 10 true rfl (by omega)
  have CL := Lib.hid (fun w' (g' : Gr w2 w') => bloads (B + 1) B _ w' (l2.gr g') fi)
  have CT := Lib.hid (fun w' (g' : Gr w2 w') => blate (B + 1) B _ 20 10 w' (l2.gr g') fi (by omega) (by omega))
  rw [show ldL (plS (s0 2) 3 1 5 10 true) 64 = [0, 1] from exB_l] at CL
  rw [show lateL (plS (s0 2) 3 1 5 10 true) 20 10 64 = [3] from exB_t] at CT
  clear l1 l2 k2 g1 hg1
  go_wp2_with (go_at_call 55; refine (CL.out _ (Gr.refl _)).mono ?_; rintro e w3 ⟨v3, rfl, s3, g3⟩; obtain ⟨a3, c3, rfl, h31, h32⟩ := s3.len)
  have S3 : Hid (Sl 3 .i64 w3 (.slice a3 2 c3) [0, 1]) := Lib.hid s3
  have HS := Lib.hid (lit2 w3 0 1)
  clear s3 h31 h32
  have g3' := g3.al (.cells #[.int .i64 0, .int .i64 1] 3)
  have S3' := Lib.hid (S3.out.gr ((Gr.refl w3).al (.cells #[.int .i64 0, .int .i64 1] 3)))
  generalize w3.alloc (.cells #[.int .i64 0, .int .i64 1] 3) = W3 at *
  refine (same_any [0, 1] _ _ _ S3'.out HS.out (by simp)).mono ?_
  rintro e w4 ⟨rfl, g4⟩
  have G4 := g3'.tr g4
  go_wp2_with (go_at_call 57; refine (CT.out _ G4).mono ?_; rintro e w5 ⟨v5, rfl, s5, g5⟩; obtain ⟨a5, c5, rfl, h51, h52⟩ := s5.len)
  have S5 : Hid (Sl 3 .i64 w5 (.slice a5 1 c5) [3]) := Lib.hid s5
  have HS5 := Lib.hid (lit1 w5 3)
  clear s5 h51 h52
  have g5' := g5.al (.cells #[.int .i64 3] 3)
  have S5' := Lib.hid (S5.out.gr ((Gr.refl w5).al (.cells #[.int .i64 3] 3)))
  generalize w5.alloc (.cells #[.int .i64 3] 3) = W5 at *
  refine (same_any [3] _ _ _ S5'.out HS5.out (by simp)).mono ?_
  rintro e w6 ⟨rfl, g6⟩
  go_wp2_with fail
  go_ret
  exact ⟨rfl, g2.tr (G4.tr (g5'.tr g6))⟩

theorem bookNil_walk (slot now : Int) (w : World) (hs : -9223372036854775808 ≤ slot ∧ slot ≤ 9223372036854775807) (hn : 0 ≤ now ∧ now ≤ 18446744073709551615) :
    Calls Try.prog 12 #[.int .i64 slot, .int .u64 now] w fun e w' => e = .returned (.bool true) ∧ Gr w w' := by
  clear hs hn
  go_enter Try.func12, Try.ntmps12
  go_wp2_with (first
    | (go_at_call 48; refine (bplace_n _ _ _ _ _ _).mono ?_; rintro e w' ⟨rfl, rfl⟩)
    | (go_at_call 49; refine (blive_nil _ _).mono ?_; rintro e w' ⟨rfl, rfl⟩)
    | (go_at_call 47; refine (bdrop_nil _ _).mono ?_; rintro e w' ⟨rfl, rfl⟩)
    | (go_at_call 50; refine (bword_nil _ _).mono ?_; rintro e w' ⟨rfl, rfl⟩)
    | (go_at_call 60; refine (bhome_nil _ _).mono ?_; rintro e w' ⟨rfl, rfl⟩)
    | (go_at_call 61; refine (bsethome_nil _ _ _).mono ?_; rintro e w' ⟨rfl, rfl⟩)
    | (go_at_call 62; refine (bqueued_nil _ _).mono ?_; rintro e w' ⟨rfl, rfl⟩)
    | (go_at_call 63; refine (bsince_nil _ _).mono ?_; rintro e w' ⟨rfl, rfl⟩)
    | (go_at_call 64; refine (bmoved_nil _ _).mono ?_; rintro e w' ⟨rfl, rfl⟩)
    | (go_at_call 65; refine (bmark_nil _ _).mono ?_; rintro e w' ⟨rfl, rfl⟩)
    | (go_at_call 55; refine (bloads_nil _).mono ?_; rintro e w' ⟨rfl, rfl⟩)
    | (go_at_call 57; refine (blate_nil _ _ _).mono ?_; rintro e w' ⟨rfl, rfl⟩)
    | (go_at_call 51; refine (awake29 _).mono ?_; rintro e w1 ⟨rfl, g1⟩))
  go_ret
  exact ⟨rfl, g1⟩
end Go.Proofs.Ytkkobbomipcpoaa
