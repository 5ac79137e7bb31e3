/- The contracts of a wheel's Next and Skip, for every input. -/
import Derived.Test.YtbeoomjcipbjjaaWl12
namespace Go.Proofs.Ytbeoomjcipbjjaa
open Go.RowKit
set_option linter.unusedVariables false

def nextT (s : TS) : List Int → Int
  | [] => 0
  | x :: _ => s.du x.toNat
def NextEnd (s : TS) (w : World) (e : Ending) (w' : World) : Prop := ∃ l, IsAll s l ∧ e = .returned (.tuple #[.int .u64 (nextT s l), .bool (!l.isEmpty)]) ∧ Gr w w'
theorem wnext_nil (w : World) : Calls Try.prog 28 #[.pointer none] w fun e w' => e = .returned (.tuple #[.int .u64 0, .bool false]) ∧ Gr w w' := by
  have HA := Lib.hid (fun w => wall_nil w)
  go_enter Try.func28, Try.ntmps28
  go_wp2_with (go_at_call 14; refine (HA.out _).mono ?_; rintro e w1 ⟨rfl, g1⟩)
  refine wp_loop_rounds 1 ?_
  rw [rounds_succ]
  go_wp2
  go_ret2
  exact ⟨rfl, g1⟩
theorem wnext (g : Nat) (S : List Nat) (s : TS) (w : World) (h : WA w g S s) : Calls Try.prog 28 #[.pointer (some ⟨g, 0, none⟩)] w (NextEnd s w) := by
  have HA := Lib.hid (wall g S s w h)
  have HW := Lib.hid h
  clear h
  go_enter Try.func28, Try.ntmps28
  go_wp2_with (go_at_call 14; refine (HA.out).mono ?_; rintro e w1 ⟨v, l, rfl, hall, r1, g1⟩; have HL := Lib.hid (And.intro hall (And.intro r1 g1)); obtain ⟨na, ka, rfl, _, _⟩ := r1.len; clear hall r1 g1)
  cases l with
  | nil =>
    refine wp_loop_rounds 1 ?_
    rw [rounds_succ]
    go_wp2
    go_ret2
    exact ⟨[], HL.out.1, rfl, HL.out.2.2⟩
  | cons x r =>
    obtain ⟨p, rfl, hp, hn⟩ := (HL.out.1.2 x).1 (by simp)
    obtain ⟨b, o, c, he, _, _, hc, _, _⟩ := HL.out.2.1.cells (by simp)
    cases he
    have hc0 := hc 0 (by simp)
    rw [show (((p : Int) :: r).getD 0 0) = (p : Int) from rfl, Nat.add_zero] at hc0
    obtain ⟨L, V, m, _, _⟩ := HW.out.ex
    obtain ⟨c1, _⟩ := (m.gr HL.out.2.2).tm hp
    have hlen : ((p : Int) :: r).length = r.length + 1 := rfl
    have i1 : (p : Int) < 64 := by omega
    have HX := Lib.hid (show nextT s ((p : Int) :: r) = s.du p from rfl)
    generalize s.du p = z at *
    clear hc m hn
    rw [hlen]
    have hd : decide ((0 : Int) < ((r.length + 1 : Nat) : Int)) = true := by simp
    have hd2 : decide (0 < r.length + 1) = true := by simp
    refine wp_loop_rounds 1 ?_
    rw [rounds_succ]
    go_wp2
    go_ret2
    exact ⟨(p : Int) :: r, HL.out.1, by rw [HX.out]; rfl, HL.out.2.2⟩

theorem advT_zero (s : TS) : advT s 0 = s := by cases s; simp [advT]
/-- A Skip of n ticks. -/
def Skipped (g : Nat) (S : List Nat) (s : TS) (n : Int) (w : World) (e : Ending) (w' : World) : Prop :=
  ∃ v l x s' S', e = .returned (.tuple #[v, .int .u64 x]) ∧ SkipEnd s n l x s' ∧ Sl 3 .i64 w' v l ∧ WA w' g S' s' ∧ Ch S w w' ∧ Foot w S S' ∧ Disj (sb v) S' ∧ Foot w S (sb v)
theorem wskip_nil (n : Int) (w : World) (hn : 0 ≤ n ∧ n ≤ 18446744073709551615) : Calls Try.prog 18 #[.pointer none, .int .u64 n] w fun e w' => e = .returned (.tuple #[.slice none 0 0, .int .u64 0]) ∧ w = w' := by
  obtain ⟨h0, h1⟩ := hn
  by_cases hz : n = 0
  · subst hz
    go_enter Try.func18, Try.ntmps18
    go_wp2
    refine wp_loop_rounds 1 ?_
    rw [rounds_succ]
    go_wp2
    go_ret2
    exact ⟨rfl, rfl⟩
  · have hd : decide (0 < n) = true := by simp; omega
    clear hz
    go_enter Try.func18, Try.ntmps18
    go_wp2
    refine wp_loop_rounds 1 ?_
    rw [rounds_succ]
    go_wp2
    go_ret2
    exact ⟨rfl, rfl⟩
set_option maxHeartbeats 2000000 in
theorem wskip (g : Nat) (S : List Nat) (s : TS) (n : Int) (w : World) (h : WA w g S s) (hn : 0 ≤ n ∧ n ≤ 18446744073709551615) : Calls Try.prog 18 #[.pointer (some ⟨g, 0, none⟩), .int .u64 n] w (Skipped g S s n w) := by
  obtain ⟨hn0, hn1⟩ := hn
  have HS := Lib.hid h
  clear h
  go_enter Try.func18, Try.ntmps18
  go_wp2_with fail
  go_loopw [6] (fun i wr => ∃ (k : Int) (S' : List Nat), 0 ≤ k ∧ k ≤ n ∧ i = .int .u64 k ∧ Quiet s k ∧ s.now + k ≤ 18446744073709551615 ∧ WA wr g S' (advT s k) ∧ Ch S w wr ∧ Foot w S S') (fun i _ => (n - intOf i).toNat)
  case atStart => exact ⟨0, S, by omega, hn0, rfl, fun p hp => by have := HS.out.tg.late p hp; omega, by have := HS.out.tg.nowM; omega, by rw [advT_zero]; exact HS.out, Ch.refl _ _, Foot.refl _ _⟩
  case round =>
    obtain ⟨k, S', hk0, hkn, rfl, hq, hkM, hwa, hch, hft⟩ := hrel
    have HK := Lib.hid (And.intro hq (And.intro hwa (And.intro hch hft)))
    by_cases hlt : k < n
    · have hd : decide (k < n) = true := by simpa using hlt
      obtain ⟨L, V, m, _, _⟩ := hwa.ex
      obtain ⟨c0, _, _⟩ := m.head
      have hnow : (advT s k).now = s.now + k := rfl
      rw [hnow] at c0
      clear m hq hch hft hnow
      by_cases hM : s.now + k = 18446744073709551615
      · have e1 : (s.now + k == 18446744073709551615) = true := by simpa using hM
        have HM := Lib.hid hM
        generalize s.now + k = z at c0 e1
        clear hM hwa hkM
        go_wp2_with fail
        go_ret2
        refine ⟨_, [], k, _, S', rfl, .inr ⟨hk0, by omega, HK.out.1, .inr HM.out, by have := HM.out; omega, rfl, rfl⟩, Sl.nil _ _ _, HK.out.2.1, HK.out.2.2.1, HK.out.2.2.2, fun b hb => by simp [sb] at hb, fun b hb => by simp [sb] at hb⟩
      · have e1 : (s.now + k == 18446744073709551615) = false := by simpa using hM
        have hlt2 : (advT s k).now < 18446744073709551615 := by show s.now + k < _; omega
        have CT := Lib.hid (wturn g S' (advT s k) wr hwa hlt2)
        have HN := Lib.hid (And.intro hkM hM)
        generalize s.now + k = z at c0 e1
        clear hM hwa hkM hlt2
        go_upto_region 7 with (go_at_call 13; refine (CT.out).mono ?_; rintro e w1 ⟨v, l, S2, rfl, hdue, r1, wa1, k1, f1, d1, fv1⟩; obtain ⟨na, ka, rfl, _, _⟩ := r1.len)
        have HR := Lib.hid (And.intro hdue (And.intro r1 (And.intro wa1 (And.intro k1 (And.intro f1 (And.intro d1 fv1))))))
        clear hdue r1 wa1 k1 f1 d1 fv1
        have hk1 : k + 1 ≤ 18446744073709551615 := by omega
        cases l with
        | nil =>
          have HQ := Lib.hid (Quiet.step HS.out.tg (by have := HS.out.tg.now0; omega) HK.out.1 HR.out.1 rfl)
          go_wp2_with fail
          go_roundw
          case rel => exact ⟨k + 1, S2, by omega, by omega, rfl, HQ.out.1, by have := HN.out; omega, by rw [← HQ.out.2]; exact HR.out.2.2.1, HK.out.2.2.1.foot HR.out.2.2.2.1 HK.out.2.2.2, HK.out.2.2.2.tr HR.out.2.2.2.2.1 HK.out.2.2.1.size⟩
          case measure => simp [intOf]; omega
        | cons y t =>
          have hlen : (y :: t).length = t.length + 1 := rfl
          rw [hlen]
          have hd2 : decide (0 < t.length + 1) = true := by simp
          go_wp2_with fail
          go_ret2
          exact ⟨_, y :: t, k + 1, _, S2, rfl, .inl ⟨k, hk0, hlt, HK.out.1, by have := HN.out; omega, HR.out.1, by simp, rfl, rfl⟩, HR.out.2.1, HR.out.2.2.1, HK.out.2.2.1.foot HR.out.2.2.2.1 HK.out.2.2.2, HK.out.2.2.2.tr HR.out.2.2.2.2.1 HK.out.2.2.1.size, HR.out.2.2.2.2.2.1, HK.out.2.2.2.tr HR.out.2.2.2.2.2.2 HK.out.2.2.1.size⟩
    · obtain rfl : k = n := by omega
      have hd : decide (k < k) = false := by simp
      clear hq hwa hch hft
      go_wp2_with fail
      go_ret2
      exact ⟨_, [], k, _, S', rfl, .inr ⟨hk0, by omega, HK.out.1, .inl rfl, hkM, rfl, rfl⟩, Sl.nil _ _ _, HK.out.2.1, HK.out.2.2.1, HK.out.2.2.2, fun b hb => by simp [sb] at hb, fun b hb => by simp [sb] at hb⟩
end Go.Proofs.Ytbeoomjcipbjjaa
