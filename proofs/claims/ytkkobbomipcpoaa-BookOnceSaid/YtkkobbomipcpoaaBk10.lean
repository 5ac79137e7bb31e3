/- Chapter 29 (book): a place of both books tells the same; the walk of the law BookPlays. -/
import Derived.Test.YtkkobbomipcpoaaBk9
namespace Go.Proofs.Ytkkobbomipcpoaa
open Go.RowKit TagP
set_option linter.unusedVariables false
set_option maxHeartbeats 1000000

set_option maxRecDepth 100000 in
theorem same29 (g h r : Nat) (of : Nat → Int) (s : BS) (w : World) (slot : Int) (B : Both w g h r of s) :
    Calls Try.prog 54 #[.pointer (some ⟨g, 0, none⟩), .pointer (some ⟨r, 0, none⟩), .int .i64 slot] w fun e w' => e = .returned (.bool true) ∧ Gr w w' := by
  have CI := Lib.hid (fun w => dis slot w)
  have CW := Lib.hid (fun w l => bword g h s slot w l)
  have CH := Lib.hid (fun w l => bhome g h s slot w l)
  have CQ := Lib.hid (fun w l => bqueued g h s slot w l)
  have CS := Lib.hid (fun w l => bsince g h s slot w l)
  have CM := Lib.hid (fun w l => bmoved g h s slot w l)
  have CL := Lib.hid (fun w l => dlevel r of s slot w l)
  have HB := Lib.hid B
  by_cases hp : placeB slot = true
  · rw [hp] at CI
    obtain ⟨h3, h4⟩ := (place_iff slot).1 hp
    obtain ⟨i, rfl⟩ := Int.eq_ofNat_of_zero_le h3
    have hi : i < 64 := by omega
    have e1 : Value.int .u64 (nowI s.f i) = oneR s i 1 := by unfold nowI oneR; rw [if_pos hp]; rfl
    have e2 : Value.int .i64 (homeI s i) = oneR s i 2 := by unfold homeI oneR; rw [if_pos hp]; rfl
    have hsb : stB s.f (i : Int) = decide (s.f i ≠ 0) := by unfold stB; rw [hp, Int.toNat_natCast]; simp
    have e4 : Value.int .u64 (sinceI s i) = oneR s i 4 := by
      unfold sinceI oneR; rw [hsb]
      by_cases hf : s.f i = 0
      · simp [hf]
      · simp [hf]
    have e5 : Value.bool (movedB s i) = oneR s i 5 := by unfold movedB oneR; rw [hsb]; rfl
    obtain ⟨c0, c1, c2, c3, c4, c5, cf⟩ := B.d.one hi
    rw [← e1] at c1
    rw [← e2] at c2
    rw [← e4] at c4
    rw [← e5] at c5
    simp only [oneR] at c0 c3
    generalize decide (s.f i ≠ 0) = b0 at c0
    generalize (if s.f i ≠ 0 then s.lv i else 0) = z3 at c3
    have hr := B.d.hdr.lt
    clear e1 e2 e4 e5 hsb hp B
    generalize nowI s.f i = n1 at *
    generalize homeI s i = n2 at *
    generalize queuedI s i = n3 at *
    generalize sinceI s i = n4 at *
    generalize movedB s i = n5 at *
    have g2 : Gr w (w.alloc (.cells #[.bool b0, .int .u64 n1, .int .i64 n2, .int .i64 z3, .int .u64 n4, .bool n5] 125)) := (Gr.refl w).al _
    have hX := Blk.new w 125 #[.bool b0, .int .u64 n1, .int .i64 n2, .int .i64 z3, .int .u64 n4, .bool n5]
    have hcell : ∀ w' X, Blk w' X 125 #[.bool b0, .int .u64 n1, .int .i64 n2, .int .i64 z3, .int .u64 n4, .bool n5] → w'.cell? ⟨X, 1, none⟩ = some (.int .u64 n1) ∧ w'.cell? ⟨X, 2, none⟩ = some (.int .i64 n2) ∧ w'.cell? ⟨X, 4, none⟩ = some (.int .u64 n4) ∧ w'.cell? ⟨X, 5, none⟩ = some (.bool n5) :=
      fun w' X b => ⟨b.cell 1, b.cell 2, b.cell 4, b.cell 5⟩
    go_enter Try.func54, Try.ntmps54
    go_upto_region 4 with (go_at_call 107; refine (CI.out _).mono ?_; rintro e w' ⟨rfl, rfl⟩)
    have B2 := Lib.hid (HB.out.gr g2)
    obtain ⟨x1, x2, x4, x5⟩ := hcell _ _ hX
    clear hX hcell c0 c1 c2 c3 c4 c5 cf hr
    have G2 := Lib.hid g2
    clear g2
    generalize w.alloc (.cells #[.bool b0, .int .u64 n1, .int .i64 n2, .int .i64 z3, .int .u64 n4, .bool n5] 125) = W at *
    generalize w.heap.size = X at *
    go_quiet ((first
      | (go_at_call 50; exact quietS (CW.out _ (B2.out.l.gr ((Gr.refl W).drewN _))))
      | (go_at_call 60; exact quietS (CH.out _ (B2.out.l.gr ((Gr.refl W).drewN _))))
      | (go_at_call 62; exact quietS (CQ.out _ (B2.out.l.gr ((Gr.refl W).drewN _))))
      | (go_at_call 109; exact quietS (CL.out _ (B2.out.d.gr ((Gr.refl W).drewN _))))
      | (go_at_call 63; exact quietS (CS.out _ (B2.out.l.gr ((Gr.refl W).drewN _))))
      | (go_at_call 64; exact quietS (CM.out _ (B2.out.l.gr ((Gr.refl W).drewN _))))))
    all_goals
      go_wp2
      go_ret
      exact ⟨rfl, G2.out.drewN _⟩
  · have hp : placeB slot = false := by simpa using hp
    rw [hp] at CI
    rw [show nowI s.f slot = 0 by unfold nowI; rw [hp]; rfl] at CW
    rw [show homeI s slot = 0 by unfold homeI; rw [hp]; rfl] at CH
    rw [show queuedI s slot = 8 by unfold queuedI; rw [stB_placeF hp]; rfl] at CQ CL
    rw [show sinceI s slot = 0 by unfold sinceI; rw [stB_placeF hp]; rfl] at CS
    rw [show movedB s slot = false by unfold movedB; rw [stB_placeF hp]; rfl] at CM
    clear hp B
    have g2 : Gr w (w.alloc (.cells #[.bool false, .int .u64 0, .int .i64 0, .int .i64 0, .int .u64 0, .bool false] 125)) := (Gr.refl w).al _
    have hX := Blk.new w 125 #[.bool false, .int .u64 0, .int .i64 0, .int .i64 0, .int .u64 0, .bool false]
    have hcell : ∀ w' X, Blk w' X 125 #[.bool false, .int .u64 0, .int .i64 0, .int .i64 0, .int .u64 0, .bool false] → w'.cell? ⟨X, 1, none⟩ = some (.int .u64 0) ∧ w'.cell? ⟨X, 2, none⟩ = some (.int .i64 0) ∧ w'.cell? ⟨X, 4, none⟩ = some (.int .u64 0) ∧ w'.cell? ⟨X, 5, none⟩ = some (.bool false) :=
      fun w' X b => ⟨b.cell 1, b.cell 2, b.cell 4, b.cell 5⟩
    go_enter Try.func54, Try.ntmps54
    go_upto_region 4 with (go_at_call 107; refine (CI.out _).mono ?_; rintro e w' ⟨rfl, rfl⟩)
    have B2 := Lib.hid (HB.out.gr g2)
    obtain ⟨x1, x2, x4, x5⟩ := hcell _ _ hX
    clear hX hcell
    have G2 := Lib.hid g2
    clear g2
    generalize w.alloc (.cells #[.bool false, .int .u64 0, .int .i64 0, .int .i64 0, .int .u64 0, .bool false] 125) = W at *
    generalize w.heap.size = X at *
    go_quiet ((first
      | (go_at_call 50; exact quietS (CW.out _ (B2.out.l.gr ((Gr.refl W).drewN _))))
      | (go_at_call 60; exact quietS (CH.out _ (B2.out.l.gr ((Gr.refl W).drewN _))))
      | (go_at_call 62; exact quietS (CQ.out _ (B2.out.l.gr ((Gr.refl W).drewN _))))
      | (go_at_call 109; exact quietS (CL.out _ (B2.out.d.gr ((Gr.refl W).drewN _))))
      | (go_at_call 63; exact quietS (CS.out _ (B2.out.l.gr ((Gr.refl W).drewN _))))
      | (go_at_call 64; exact quietS (CM.out _ (B2.out.l.gr ((Gr.refl W).drewN _))))))
    all_goals
      go_wp2
      go_ret
      exact ⟨rfl, G2.out.drewN _⟩
end Go.Proofs.Ytkkobbomipcpoaa
