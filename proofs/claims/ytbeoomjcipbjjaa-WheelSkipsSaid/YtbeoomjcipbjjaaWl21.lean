/- The document's Skip (chapter 19), for every input. -/
import Derived.Test.YtbeoomjcipbjjaaWl20
namespace Go.Proofs.Ytbeoomjcipbjjaa
open Go.RowKit
set_option linter.unusedVariables false

theorem all_min {s : TS} (t : TG s) {x : Int} {l : List Int} (h : IsAll s (x :: l)) : s.no x.toNat ≠ 0 ∧ ∀ q, s.no q ≠ 0 → s.du x.toNat ≤ s.du q := by
  obtain ⟨p, rfl, hp, hn⟩ := (h.2 x).1 (by simp)
  refine ⟨by simpa using hn, fun q hq => ?_⟩
  have hq64 : q < 64 := by
    refine Classical.byContradiction fun e => hq (t.big q (by omega))
  rcases List.mem_cons.1 ((h.2 q).2 ⟨q, rfl, hq64, hq⟩) with e | e
  · rw [← e]; simp
  · have := (List.pairwise_cons.1 h.1).1 q e
    unfold aheadT at this
    simp only [Int.toNat_natCast] at this ⊢
    omega
/-- A Skip of n ticks, of the document's wheel. -/
def DSkipped (r : Nat) (s : TS) (n : Int) (w : World) (e : Ending) (w' : World) : Prop :=
  ∃ v l x s', e = .returned (.tuple #[v, .int .u64 x]) ∧ SkipEnd s n l x s' ∧ Sl 3 .i64 w' v l ∧ DW w' r s' ∧ Ch [r] w w'
theorem skip_still {s : TS} {n m : Int} (hm : 0 ≤ m ∧ m ≤ n ∧ (m = n ∨ s.now + m = 18446744073709551615) ∧ s.now + m ≤ 18446744073709551615) (q : Quiet s m) : SkipEnd s n [] m (advT s m) :=
  .inr ⟨hm.1, hm.2.1, q, hm.2.2.1, hm.2.2.2, rfl, rfl⟩
set_option maxRecDepth 100000 in
set_option maxHeartbeats 1000000 in
theorem dskip (r : Nat) (s : TS) (n : Int) (w : World) (m : DW w r s) (hn : 0 ≤ n ∧ n ≤ 18446744073709551615) : Calls Try.prog 45 #[.pointer (some ⟨r, 0, none⟩), .int .u64 n] w (DSkipped r s n w) := by
  obtain ⟨hn0, hn1⟩ := hn
  obtain ⟨c0, _, cf⟩ := m.head
  have hb0 := m.tg.now0
  have hb1 := m.tg.nowM
  have HD := Lib.hid m
  obtain ⟨k, hk⟩ : ∃ k, (if 18446744073709551615 - s.now < n then 18446744073709551615 - s.now else n) = k := ⟨_, rfl⟩
  have hkk : 0 ≤ k ∧ k ≤ n ∧ (k = n ∨ s.now + k = 18446744073709551615) ∧ s.now + k ≤ 18446744073709551615 := by split at hk <;> omega
  have HK := Lib.hid hkk
  obtain ⟨b, hb⟩ : ∃ b, s.now = b := ⟨_, rfl⟩
  rw [hb] at c0 hb0 hb1 hk hkk
  obtain ⟨hk0, hk1, _, hk3⟩ := hkk
  have HB := Lib.hid hb
  have CN := Lib.hid (dnext r s w m)
  clear m hb
  go_enter Try.func45, Try.ntmps45
  go_upto_if 16 with fail
  go_cut [1] (fun v wx => v = .int .u64 k ∧ w = wx)
  case first =>
    by_cases h1 : 18446744073709551615 - b < n
    · rw [if_pos h1] at hk
      have hd : decide (18446744073709551615 - b < n) = true := by simpa using h1
      go_wp2_with fail
      go_meet
      case rel => exact ⟨by rw [hk], rfl⟩
    · rw [if_neg h1] at hk
      have hd : decide (18446744073709551615 - b < n) = false := by simpa using h1
      go_wp2_with fail
      go_meet
      case rel => exact ⟨rfl, rfl⟩
  case rest =>
    obtain ⟨rfl, rfl⟩ := hcut
    clear hk
    go_upto_region 5 with (go_at_call 49; refine (CN.out).mono ?_; rintro e w1 ⟨l, hall, rfl, g1⟩; have HL := Lib.hid (And.intro hall g1); have c0' := g1.cell_some c0; clear hall g1)
    have fz : ∀ j, w1.frozen? ⟨r, j, none⟩ = false := (HD.out.gr HL.out.2).head.2.2
    cases l with
    | nil =>
      have hq : Quiet s k := fun p hp => by
        have hp64 : p < 64 := by
          refine Classical.byContradiction fun e => hp (HD.out.tg.big p (by omega))
        have := (HL.out.1.2 p).2 ⟨p, rfl, hp64, hp⟩
        simp at this
      have HE := Lib.hid (And.intro (skip_still HK.out hq) (show DW (w1.setCell ⟨r, 0, none⟩ (.int .u64 (b + k))) r (advT s k) by rw [← HB.out]; exact DW.mk (dcNow (HD.out.gr HL.out.2).hdr (s.now + k)) (HD.out.tg.adv HK.out.1 HK.out.2.2.2 hq)))
      clear c0 cf hq
      go_wp2_with fail
      go_ret2
      exact ⟨_, [], k, _, rfl, HE.out.1, Sl.nil _ _ _, HE.out.2, (HL.out.2.ch _).st (by simp) _⟩
    | cons x t =>
      obtain ⟨p, rfl, hp64, hp0⟩ := (HL.out.1.2 x).1 (by simp)
      have hmin := (all_min HD.out.tg HL.out.1).2
      have hlate := HD.out.tg.late p hp0
      have hda := (HD.out.tg.du0 p).2
      rw [Int.toNat_natCast] at hmin
      rw [show nextT s ((p : Int) :: t) = s.du p from rfl, show ((p : Int) :: t).isEmpty = false from rfl]
      rw [HB.out] at hlate
      have HM := Lib.hid hmin
      by_cases hg : k < s.du p - b
      · have hq : Quiet s k := fun q hq0 => by have := hmin q hq0; rw [HB.out]; omega
        have HE := Lib.hid (And.intro (skip_still HK.out hq) (show DW (w1.setCell ⟨r, 0, none⟩ (.int .u64 (b + k))) r (advT s k) by rw [← HB.out]; exact DW.mk (dcNow (HD.out.gr HL.out.2).hdr (s.now + k)) (HD.out.tg.adv HK.out.1 HK.out.2.2.2 hq)))
        have hd : decide (k < s.du p - b) = true := by simpa using hg
        clear c0 cf hq hmin
        generalize s.du p = a at *
        go_wp2_with fail
        go_ret2
        exact ⟨_, [], k, _, rfl, HE.out.1, Sl.nil _ _ _, HE.out.2, (HL.out.2.ch _).st (by simp) _⟩
      · have hd : decide (k < s.du p - b) = false := by simpa using hg
        obtain ⟨j, hj⟩ : ∃ j, j = s.du p - b - 1 := ⟨_, rfl⟩
        have hq : Quiet s j := fun q hq0 => by have := hmin q hq0; rw [HB.out]; omega
        have hM : s.now + j ≤ 18446744073709551615 := by rw [HB.out]; omega
        have hDW : DW (w1.setCell ⟨r, 0, none⟩ (.int .u64 (s.now + j))) r (advT s j) := DW.mk (dcNow (HD.out.gr HL.out.2).hdr (s.now + j)) (HD.out.tg.adv (by omega) hM hq)
        have CT := Lib.hid (dturn r (advT s j) _ hDW (by show s.now + j < _; rw [HB.out]; omega))
        rw [HB.out, show b + j = s.du p - 1 by omega] at CT
        have HE : Hid (∀ l', IsDue (advT s j) l' → SkipEnd s n l' (s.du p - b) (turnT (advT s j))) := Lib.hid (fun l' h => .inl ⟨j, by omega, by have := HK.out.2.1; omega, hq, by rw [HB.out]; omega, h, fun e => by
          have := (h.2 p).2 ⟨p, rfl, hp64, hp0, by show s.du p = s.now + j + 1; rw [HB.out]; omega⟩
          rw [e] at this; simp at this, by omega, rfl⟩)
        clear c0 cf hq hmin hDW hM hg
        generalize s.du p = a at *
        go_wp2_with (go_at_call 44; refine (CT.out).mono ?_; rintro e w2 ⟨v2, l2, rfl, hdue, r2, m2, k2⟩; have HR := Lib.hid (And.intro hdue (And.intro r2 (And.intro m2 k2))); clear hdue r2 m2 k2)
        go_ret2
        exact ⟨_, l2, a - b, _, rfl, HE.out l2 HR.out.1, HR.out.2.1, HR.out.2.2.1, ((HL.out.2.ch _).st (by simp) _).tr HR.out.2.2.2 (fun x hx => .inl hx)⟩
end Go.Proofs.Ytbeoomjcipbjjaa
