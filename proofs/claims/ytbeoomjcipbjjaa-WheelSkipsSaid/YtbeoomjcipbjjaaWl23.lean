/- What both wheels tell (like) of chapter 19. -/
import Derived.Test.YtbeoomjcipbjjaaWl22
namespace Go.Proofs.Ytbeoomjcipbjjaa
open Go.RowKit
set_option linter.unusedVariables false

set_option maxRecDepth 100000 in
set_option maxHeartbeats 4000000 in
theorem like19 (g : Nat) (S : List Nat) (r : Nat) (s : TS) (w : World) (wa : WA w g S s) (d : DW w r s) :
    Calls Try.prog 26 #[.pointer (some ⟨g, 0, none⟩), .pointer (some ⟨r, 0, none⟩)] w fun e w' => e = .returned (.bool true) ∧ Gr w w' := by
  have HB := Lib.hid (And.intro wa d)
  have C1 := Lib.hid (wnext g S s w wa)
  have C2 := Lib.hid (fun w' (c : Gr w w') => dnext r s w' (d.gr c))
  have C3 := Lib.hid (fun w' (c : Gr w w') => wall g S s w' (wa.gr c))
  have C4 := Lib.hid (fun w' (c : Gr w w') => dall r s w' (d.gr c).dx)
  have C5 : Hid (∀ w', Gr w w' → Calls Try.prog 15 #[.pointer (some ⟨g, 0, none⟩)] w' fun e w'' => e = .returned (.int .u64 s.now) ∧ w' = w'') := Lib.hid (fun w' c => by
    obtain ⟨L, V, m, _, _⟩ := (wa.gr c).ex
    exact wnow g s L V w' m)
  have C6 : Hid (∀ (i : Int) w', Gr w w' → Calls Try.prog 27 #[.pointer (some ⟨g, 0, none⟩), .int .i64 i] w' fun e w'' => e = .returned (.tuple #[.int .u64 (if hasB s i then s.du i.toNat else 0), .bool (hasB s i)]) ∧ w' = w'') := Lib.hid (fun i w' c => by
    obtain ⟨L, V, m, _, _⟩ := (wa.gr c).ex
    exact wdue g s L V i w' m (fun q => (wa.tg.no0 q).1))
  clear wa d
  go_enter Try.func26, Try.ntmps26
  go_upto_region 3 with (first
    | (go_at_call 28; refine (C1.out).mono ?_; rintro e w1 ⟨l, hall, rfl, g1⟩; have H1 := Lib.hid (And.intro hall g1); clear hall g1)
    | (go_at_call 49; refine (C2.out _ H1.out.2).mono ?_; rintro e w2 ⟨l2, hall2, rfl, g2⟩; obtain rfl := H1.out.1.uniq hall2; have H2 := Lib.hid (H1.out.2.tr g2); clear hall2 g2))
  obtain ⟨c0, _, _⟩ := (HB.out.2.gr H2.out).head
  generalize nextT s l = nx at *
  generalize (!l.isEmpty) = ie at *
  obtain ⟨b, hb⟩ : ∃ b, s.now = b := ⟨_, rfl⟩
  rw [hb] at C5 c0
  have HBn := Lib.hid hb
  clear hb
  have q1 : (b != b) = false := by simp
  have q2 : (nx != nx) = false := by simp
  have q3 : (ie != ie) = false := by simp
  have hl64 := H1.out.1.len
  go_cut [47] (fun v wx => v = .bool false ∧ Gr w wx)
  case first =>
    have B0 := Lib.hid (H2.out.drew)
    clear C1 C2
    go_region_held3 (fun w' => w'.cell? ⟨r, 0, none⟩ = some (.int .u64 b))
      (first | exact c0 | exact G3.out.cell_some c0 | exact G4.out.cell_some c0 | exact G5.out.cell_some c0)
      (first
      | (go_at_call 15; refine (C5.out _ B0.out).mono ?_; rintro e w' ⟨rfl, rfl⟩)
      | (go_at_call 14; refine (C3.out _ B0.out).mono ?_; rintro e w3 ⟨v3, l3, rfl, hall3, r3, g3⟩; obtain rfl := H1.out.1.uniq hall3; have H3 := Lib.hid (And.intro r3 (B0.out.tr g3)); have G3 := Lib.hid ((Gr.refl _).drew.tr g3); clear hall3 r3 g3)
      | (go_at_call 50; refine (C4.out _ H3.out.2).mono ?_; rintro e w4 ⟨v4, l4, rfl, hall4, r4, g4⟩; obtain rfl := H1.out.1.uniq hall4; have H4 := Lib.hid (And.intro (H3.out.1.gr g4) (And.intro r4 (H3.out.2.tr g4))); have G4 := Lib.hid (G3.out.tr g4); clear hall4 r4 g4)
      | (go_at_call 19; refine (same_any l _ _ _ H4.out.1 H4.out.2.1 (by omega)).mono ?_; rintro e w5 ⟨rfl, g5⟩; have G5 := Lib.hid (G4.out.tr g5); have H5 := Lib.hid (H4.out.2.2.tr g5)))
    all_goals
      go_wp2_with fail
      go_meet
      case rel => exact ⟨rfl, H5.out⟩
  case rest =>
    obtain ⟨rfl, gc⟩ := hcut
    have HG := Lib.hid gc
    clear C1 C2 C3 C4 C5 c0 q1 q2 q3 H1 H2 gc hl64
    go_wp2_with fail
    go_loopw [9, 10, 11, 12] (fun i _ _ _ wr => ∃ k : Nat, k ≤ 66 ∧ i = .int .i64 ((k : Int) - 1) ∧ Gr w wr) (fun i _ _ _ _ => 66 - (intOf i + 1).toNat)
    case atStart => exact ⟨0, by omega, rfl, HG.out⟩
    case round =>
      obtain ⟨k, hk, rfl, gr⟩ := hrel
      by_cases hlt : k < 66
      · have CD := Lib.hid (C6.out ((k : Int) - 1) wr gr)
        by_cases hp : 1 ≤ k ∧ k < 65
        · obtain ⟨p, rfl⟩ : ∃ p, k = p + 1 := ⟨k - 1, by omega⟩
          have hp64 : p < 64 := by omega
          have e1 : ((p + 1 : Nat) : Int) - 1 = (p : Int) := by omega
          rw [e1] at CD ⊢
          rw [hasB_at s p hp64, Int.toNat_natCast] at CD
          have CI := Lib.hid (fun w => inB (p : Int) w)
          rw [show decide (0 ≤ (p : Int) ∧ (p : Int) < 64) = true by simp; omega] at CI
          have d1 : decide ((p : Int) ≤ 64) = true := by simp; omega
          have d2 : (p : Int) < 64 := by omega
          obtain ⟨c2, c3⟩ := (HB.out.2.gr gr).tm hp64
          have hrw : r < wr.heap.size := (HB.out.2.gr gr).hdr.lt
          have HR := Lib.hid gr
          clear gr
          by_cases hn : s.no p = 0
          · have hz := HB.out.2.tg.zero p hn
            rw [hn] at c3 CD
            rw [hz] at c2 CD
            have d3 : (decide ((0 : Int) ≠ 0)) = false := rfl
            rw [d3] at CD
            have d4 : decide ((0 : Int) < 0) = false := rfl
            clear hn hz hp hlt
            go_wp2_with (first
              | (go_at_call 27; refine (CD.out).mono ?_; rintro e w1 ⟨rfl, rfl⟩)
              | (go_at_call 51; refine (CI.out _).mono ?_; rintro e w2 ⟨rfl, rfl⟩))
            go_roundw
            case rel => exact ⟨p + 2, by omega, by go_num, HR.out.tr ((Gr.refl wr).al _)⟩
            case measure => simp [intOf]; omega
          · have d3 : decide (s.no p ≠ 0) = true := by simpa using hn
            rw [d3, if_pos rfl] at CD
            have d4 : decide (0 < s.no p) = true := by simp; have := (HB.out.2.tg.no0 p).1; omega
            generalize s.no p = y at *
            generalize s.du p = z at *
            clear hn d3 hp hlt
            go_wp2_with (first
              | (go_at_call 27; refine (CD.out).mono ?_; rintro e w1 ⟨rfl, rfl⟩)
              | (go_at_call 51; refine (CI.out _).mono ?_; rintro e w2 ⟨rfl, rfl⟩))
            go_roundw
            case rel => exact ⟨p + 2, by omega, by go_num, HR.out.tr ((Gr.refl wr).al _)⟩
            case measure => simp [intOf]; omega
        · have hb : hasB s ((k : Int) - 1) = false := by unfold hasB; rw [show decide (0 ≤ (k : Int) - 1 ∧ (k : Int) - 1 < 64) = false by simp; omega]; rfl
          have CI := Lib.hid (fun w => inB ((k : Int) - 1) w)
          rw [show decide (0 ≤ (k : Int) - 1 ∧ (k : Int) - 1 < 64) = false by simp; omega] at CI
          rw [hb] at CD
          have d1 : decide ((k : Int) - 1 ≤ 64) = true := by simp; omega
          have hk66 : (k : Int) ≤ 66 := by omega
          have HR := Lib.hid gr
          have HK := Lib.hid hlt
          clear gr hp hlt hb
          obtain ⟨i, hi⟩ : ∃ i : Int, (k : Int) - 1 = i := ⟨_, rfl⟩
          rw [hi] at CD CI d1 ⊢
          have HI := Lib.hid hi
          clear hi
          go_wp2_with (first
            | (go_at_call 27; refine (CD.out).mono ?_; rintro e w1 ⟨rfl, rfl⟩)
            | (go_at_call 51; refine (CI.out _).mono ?_; rintro e w2 ⟨rfl, rfl⟩))
          go_roundw
          case rel => exact ⟨k + 1, by have := HK.out; omega, by rw [← HI.out]; congr 1; rw [IntWalk.wrap64_in _ (by omega)]; omega, HR.out.tr ((Gr.refl wr).al _)⟩
          case measure => rw [← HI.out, IntWalk.wrap64_in _ (by omega)]; have := HK.out; simp [intOf]; omega
      · obtain rfl : k = 66 := by omega
        go_wp2_with fail
        go_ret
        exact ⟨rfl, gr⟩
end Go.Proofs.Ytbeoomjcipbjjaa
