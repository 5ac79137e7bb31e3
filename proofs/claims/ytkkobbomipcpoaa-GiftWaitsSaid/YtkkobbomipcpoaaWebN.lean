/- Chapter 24 (web): a web that is nil; the page's example; the walk of the law WebNil. -/
import Derived.Test.YtkkobbomipcpoaaWebF
namespace Go.Proofs.Ytkkobbomipcpoaa
open Go.RowKit
set_option linter.unusedVariables false
set_option maxHeartbeats 1000000
theorem walk_nil84 (O : Nat) (t : Int) (w : World) : Calls Try.prog 78 #[.pointer none, .int .i64 t, .func (.func 84) #[] #[.pointer (some ⟨O, 0, none⟩)]] w fun e w' => e = .returned (.bool false) ∧ Gr w w' := by
  have hal := hal133
  go_enter Try.func78, Try.ntmps78
  go_wp2_with fail
  go_step3
  go_wp2_with fail
  go_step3
  go_wp2_with (go_at_call 29; refine (next_nil _ _).mono ?_; rintro e w1 ⟨rfl, rfl⟩)
  clear hal
  go_loopw [8] (fun v wr => v = .int .i64 (-1) ∧ Gr w wr) (fun _ _ => 0)
  case atStart => exact ⟨rfl, (Gr.refl w).al _⟩
  case round =>
    obtain ⟨rfl, gr⟩ := hrel
    go_wp2_with fail
    rw [Exit.noGoto_ret]
    go_ret
    exact ⟨rfl, gr⟩
theorem chain_nil (t : Int) (w : World) : Calls Try.prog 28 #[.pointer none, .int .i64 t] w fun e w' => e = .returned (.slice none 0 0) ∧ Gr w w' := by
  have C := Lib.hid (walk_nil84 w.heap.size t (w.alloc (.cells #[.slice none 0 0] 22)))
  go_enter Try.func28, Try.ntmps28
  go_wp2_with (go_at_call 78; refine (C.out).mono ?_; rintro e w1 ⟨rfl, g1⟩; obtain ⟨d1, d2⟩ := ((Blk.new w 22 #[.slice none 0 0]).gr g1).c1)
  go_ret
  exact ⟨rfl, ((Gr.refl w).al _).tr g1⟩
theorem closes_nil (t u : Int) (w : World) : Calls Try.prog 25 #[.pointer none, .int .i64 t, .int .i64 u] w fun e w' => e = .returned (.bool false) ∧ Gr w w' := by
  go_enter Try.func25, Try.ntmps25
  go_wp2_with (go_at_call 77; refine (th_nil _ _).mono ?_; rintro e w1 ⟨rfl, rfl⟩)
  go_ret
  exact ⟨rfl, (Gr.refl w).al _⟩
theorem ring_nil (w : World) : Calls Try.prog 27 #[.pointer none] w fun e w' => e = .returned (.int .i64 (-1)) ∧ w = w' := by
  go_enter Try.func27, Try.ntmps27
  go_wp2
  go_ret
  exact ⟨rfl, rfl⟩
theorem on_nil (x : Int) (w : World) : Calls Try.prog 45 #[.pointer none, .int .i64 x] w fun e w' => e = .returned (.slice none 0 0) ∧ w = w' := by
  go_enter Try.func45, Try.ntmps45
  go_wp2_with (go_at_call 76; refine (lo_nil _ _).mono ?_; rintro e w1 ⟨rfl, rfl⟩)
  go_ret
  exact ⟨rfl, rfl⟩
theorem same_any (ws : List Int) (v v2 : Value) (w : World) (s1 : Sl 3 .i64 w v ws) (s2 : Sl 3 .i64 w v2 ws) (hl : ws.length ≤ 1000) : Calls Try.prog 15 #[v, v2] w fun e w' => e = .returned (.bool true) ∧ Gr w w' := by
  obtain ⟨a, cp, rfl, h1, h2, r1⟩ := s1.row
  obtain ⟨a2, cp2, rfl, h12, h22, r2⟩ := s2.row
  have HR := Lib.hid (And.intro r1 r2)
  clear s1 s2 r1 r2
  go_enter Try.func15, Try.ntmps15
  go_wp2
  go_loopw [5] (fun i wr => ∃ k : Nat, k ≤ ws.length ∧ i = .int .i64 k ∧ Gr w wr) (fun i _ => ws.length - (intOf i).toNat)
  case atStart => exact ⟨0, by omega, rfl, Gr.refl w⟩
  case round =>
    obtain ⟨k, hk, rfl, gr⟩ := hrel
    by_cases hlt : k < ws.length
    · rcases HR.out.1 with h0 | ⟨b, off, rfl, hc⟩
      · simp [h0] at hlt
      rcases HR.out.2 with h0 | ⟨b2, off2, rfl, hc2⟩
      · simp [h0] at hlt
      have c1 := gr.cell_some (hc k hlt)
      have c2 := gr.cell_some (hc2 k hlt)
      generalize ws.getD k 0 = z at c1 c2
      clear hc hc2
      have i1 : (0 : Int) ≤ (k : Int) := by omega
      have i2 : (k : Int) < (ws.length : Int) := by omega
      go_wp2_with fail
      go_quiet (fail)
      go_wp2
      go_roundw
      case rel => exact ⟨k + 1, by omega, by go_num, gr.drewN _⟩
      case measure => simp [intOf]; omega
    · obtain rfl : ws.length = k := by omega
      go_wp2
      go_ret
      exact ⟨rfl, gr⟩
/-- The page's example. -/
def exS : WebS := (((webS0 3 1).ownS 0 1).waitS ((((webS0 3 1).ownS 0 1).lo 0) && (((webS0 3 1).ownS 0 1).th 0)) 0 0 (-1))
def exT : WebS := exS.waitS (exS.th 2 && exS.th 1) 1 (-1) 2
theorem exT_first : First exT.next 0 2 := by
  refine ⟨?_, ?_⟩
  · unfold Stop; decide
  · intro j hj
    have : j = 0 ∨ j = 1 := by omega
    rcases this with rfl | rfl <;> (unfold Stop; decide)
theorem exT_trail : trail exT.next 0 2 = [1, 2] := by decide
theorem exT_closes : exT.closes 2 0 = true := by decide
theorem exT_ring : exT.ring = -1 := by decide
set_option maxRecDepth 100000 in
theorem awake24_any (w : World) : Calls Try.prog 31 #[] w fun e w' => e = .returned (.bool true) ∧ Gr w w' := by
  have C0 := Lib.hid (webNew_any 3 1 w)
  rw [show (clampI 3 0 64).toNat = 3 by decide, show (clampI 1 0 64).toNat = 1 by decide] at C0
  go_enter Try.func31, Try.ntmps31
  go_upto_region 2 with (go_at_call 20; refine (C0.out).mono ?_; rintro e w0 ⟨g, a, b, rfl, l, gr, hk⟩)
  have C1 := Lib.hid (uown g a b _ w0 l 0 1)
  have HA := Lib.hid (And.intro gr hk)
  clear l gr hk C0
  go_upto_region 3 with (go_at_call 42; refine (C1.out).mono ?_; rintro e w1 ⟨rfl, l1, c1⟩)
  have C2 := Lib.hid (ulock g a b _ w1 l1 0 0)
  have HB := Lib.hid c1
  clear l1 c1 C1
  go_upto_region 4 with (go_at_call 43; refine (C2.out).mono ?_; rintro e w2 ⟨rfl, l2, c2⟩)
  have C3 := Lib.hid (ujoin g a b _ w2 l2 1 2)
  have HC := Lib.hid c2
  clear l2 c2 C2
  go_upto_region 5 with (go_at_call 44; refine (C3.out).mono ?_; rintro e w3 ⟨rfl, l3, c3⟩)
  have HL := Lib.hid (show WebAt w3 g a b exT from l3)
  have hg3 : Gr w w3 := ((HA.out.1.chs HB.out (fun x hx => HA.out.2 x (List.mem_cons_of_mem _ hx))).chs HC.out (fun x hx => HA.out.2 x (List.mem_cons_of_mem _ hx))).chs c3 (fun x hx => HA.out.2 x (List.mem_cons_of_mem _ hx))
  clear HB HC c3 l3 C3
  have C4 := Lib.hid (chain_any g a b exT w3 HL.out 0)
  have C6 := Lib.hid (fun w' (h : Gr w3 w') => closes_any g a b exT w' (HL.out.gr h) 2 0)
  have C7 := Lib.hid (fun w' (h : Gr w3 w') => ring_any g a b exT w' (HL.out.gr h))
  rw [exT_closes] at C6
  rw [exT_ring] at C7
  go_wp2_with (first
    | (go_at_call 28; refine (C4.out).mono ?_; rintro e w4 ⟨k, hF, v, rfl, hv, hsb, g4⟩; obtain rfl := hF.uniq exT_first; rw [exT_trail] at hv; have C5 := Lib.hid (same_any [1, 2] v (.slice (some ⟨w4.heap.size, 0, none⟩) 2 2) (w4.alloc (.cells #[.int .i64 1, .int .i64 2] 3)) (hv.gr ((Gr.refl w4).al _)) ⟨_, 2, rfl, by simp, by omega, .inr ⟨w4.heap.size, 0, _, rfl, Blk.new w4 3 _, by simp, fun i x hx => by rcases i with _ | _ | i <;> simp_all⟩⟩ (by simp)); have HG4 := Lib.hid (g4.al (.cells #[.int .i64 1, .int .i64 2] 3)); clear hv hsb g4 hF)
    | (go_at_call 15; refine (C5.out).mono ?_; rintro e w5 ⟨rfl, g5⟩; have HG5 := Lib.hid (HG4.out.tr g5); clear g5)
    | (go_at_call 25; refine (C6.out _ HG5.out).mono ?_; rintro e w6 ⟨rfl, g6⟩; have HG6 := Lib.hid (HG5.out.tr g6); clear g6)
    | (go_at_call 27; refine (C7.out _ HG6.out).mono ?_; rintro e w7 ⟨rfl, g7⟩))
  go_ret
  exact ⟨rfl, hg3.tr (HG6.out.tr g7)⟩
theorem webNil_walk (x y : Int) (w : World) (hx : -9223372036854775808 ≤ x ∧ x ≤ 9223372036854775807) (hy : -9223372036854775808 ≤ y ∧ y ≤ 9223372036854775807) : Calls Try.prog 9 #[.int .i64 x, .int .i64 y] w fun e w' => e = .returned (.bool true) ∧ Gr w w' := by
  clear hx hy
  go_enter Try.func9, Try.ntmps9
  go_wp2_with (first
    | (go_at_call 41; refine (waits_nil _ _).mono ?_; rintro e w1 ⟨rfl, rfl⟩)
    | (go_at_call 42; refine (own_nil _ _ _).mono ?_; rintro e w1 ⟨rfl, rfl⟩)
    | (go_at_call 43; refine (lock_nil _ _ _).mono ?_; rintro e w1 ⟨rfl, g1⟩)
    | (go_at_call 44; refine (join_nil _ _ _).mono ?_; rintro e w2 ⟨rfl, g2⟩)
    | (go_at_call 22; refine (clear_nil _ _).mono ?_; rintro e w3 ⟨rfl, g3⟩)
    | (go_at_call 25; refine (closes_nil _ _ _).mono ?_; rintro e w4 ⟨rfl, g4⟩)
    | (go_at_call 24; refine (owner_nil _ _).mono ?_; rintro e w5 ⟨rfl, rfl⟩)
    | (go_at_call 29; refine (next_nil _ _).mono ?_; rintro e w5 ⟨rfl, rfl⟩)
    | (go_at_call 28; refine (chain_nil _ _).mono ?_; rintro e w6 ⟨rfl, g6⟩)
    | (go_at_call 27; refine (ring_nil _).mono ?_; rintro e w7 ⟨rfl, rfl⟩)
    | (go_at_call 45; refine (on_nil _ _).mono ?_; rintro e w7 ⟨rfl, rfl⟩)
    | (go_at_call 31; refine (awake24_any _).mono ?_; rintro e w8 ⟨rfl, g8⟩))
  go_ret
  exact ⟨rfl, g1.tr (g2.tr (g3.tr (g4.tr (g6.tr g8))))⟩
end Go.Proofs.Ytkkobbomipcpoaa
