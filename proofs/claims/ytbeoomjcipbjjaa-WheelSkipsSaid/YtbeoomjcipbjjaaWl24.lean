/- The walk of the law WheelPlays of chapter 19 (wheel): it returns true for every input, and changes nothing that was there. -/
import Derived.Test.YtbeoomjcipbjjaaWl23
namespace Go.Proofs.Ytbeoomjcipbjjaa
open Go.RowKit
set_option linter.unusedVariables false

theorem zero41 (n : Int) : Try.zeroCells41.setIfInBounds 0 (.int .u64 n) = (tab 130 (dcF (newS n))).toArray := by kernel_rfl
theorem DW.new0 (n : Int) (w : World) (hn : 0 ≤ n ∧ n ≤ 18446744073709551615) : DW (w.alloc (.cells (Try.zeroCells41.setIfInBounds 0 (.int .u64 n)) 41)) w.heap.size (newS n) :=
  ⟨by rw [zero41]; exact Blk.new w 41 _, newS_tg hn⟩
/-- Both wheels at the same state, in blocks that are new since w, behind k calls. -/
structure Both (w wr : World) (g : Nat) (S : List Nat) (r : Nat) (s : TS) (k : Nat) : Prop where
  wa : WA wr g S s
  d : DW wr r s
  few : s.last ≤ k
  gr : Gr w wr
  nr : w.heap.size ≤ r
  fS : Foot w [] S
theorem Both.more {w wr w' : World} {g : Nat} {S : List Nat} {r : Nat} {s : TS} {k : Nat} (b : Both w wr g S r s k) (q : Gr wr w') : Both w w' g S r s k :=
  ⟨b.wa.gr q, b.d.gr q, b.few, b.gr.tr q, b.nr, b.fS⟩
theorem Both.chg {w wr w' : World} {g : Nat} {S T : List Nat} {r : Nat} {s : TS} {k : Nat} (b : Both w wr g S r s k) (q : Ch T wr w') (hS : Disj S T) (hr : r ∉ T) (g' : Gr w w') : Both w w' g S r s k :=
  ⟨b.wa.ch q hS, b.d.ch q hr, b.few, g', b.nr, b.fS⟩
theorem Both.does {w wr w' : World} {g : Nat} {S : List Nat} {r : Nat} {s : TS} {k : Nat} {kd p n : Int} {raw : Bool} {e : Ending} (b : Both w wr g S r s k) (h : DoesW g S r s kd p n raw wr e w') :
    e = .returned (.bool true) ∧ ∃ s' S', StepR s kd p n raw s' ∧ Both w w' g S' r s' (k + 1) ∧ Ch (r :: S) wr w' ∧ Foot wr S S' := by
  obtain ⟨he, s', S', h1, h2, h3, h4, h5⟩ := h
  refine ⟨he, s', S', h1, ⟨h2, h3, by have := h1.last; have := b.few; omega, b.gr.chs h4 (fun x hx => ?_), b.nr, b.fS.tr h5 b.gr.size_le⟩, h4, h5⟩
  rcases List.mem_cons.1 hx with rfl | hx
  · exact b.nr
  · rcases b.fS x hx with h | h
    · cases h
    · exact h
/-- The calls of an argument that is a slice of them. -/
def ActAt (F : Nat → Nat → Value) (i : Nat) : Prop := ∃ (kd p n : Int) (raw : Bool), F i 0 = .int .u8 kd ∧ F i 1 = .int .i64 p ∧ F i 2 = .int .u64 n ∧ F i 3 = .bool raw ∧ (0 ≤ kd ∧ kd ≤ 255) ∧ (0 ≤ n ∧ n ≤ 18446744073709551615)
theorem acts_of {w : World} {ar : Option Addr} {len cap : Nat} {F : Nat → Nat → Value} (h : RecsIn Try.prog 44 w ar len cap 4 F) : ∀ i, i < len → ActAt F i := fun i hi => by
  obtain ⟨kd, e0, b0⟩ := h.kind 3 i 0 (some .u8) hi (by omega) (by kernel_rfl)
  obtain ⟨p, e1, _⟩ := h.kind 3 i 1 (some .i64) hi (by omega) (by kernel_rfl)
  obtain ⟨n, e2, b2⟩ := h.kind 3 i 2 (some .u64) hi (by omega) (by kernel_rfl)
  obtain ⟨raw, e3⟩ := h.kind 3 i 3 none hi (by omega) (by kernel_rfl)
  exact ⟨kd, p, n, raw, e0, e1, e2, e3, bd_u8 b0, bd_u64 b2⟩
set_option maxRecDepth 100000 in
set_option maxHeartbeats 4000000 in
theorem wheelPlays_walk (x : Int) (ar : Option Addr) (len cap : Nat) (F : Nat → Nat → Value) (w : World) (hx : 0 ≤ x ∧ x ≤ 18446744073709551615) (h : RecsIn Try.prog 44 w ar len cap 4 F) :
    Calls Try.prog 6 #[.int .u64 x, .slice ar len cap] w fun e w' => e = .returned (.bool true) ∧ Gr w w' := by
  have HA := Lib.hid (acts_of h)
  have HR := Lib.hid h.row
  have CN := Lib.hid (fun w => wnewA x w hx)
  have HX := Lib.hid hx
  obtain ⟨hlen, hcap, _, _⟩ := h
  clear hx
  go_enter Try.func6, Try.ntmps6
  go_upto_region 2 with (go_at_call 11; refine (CN.out _).mono ?_; rintro e w1 ⟨rfl, S1, h1, g1, f1⟩)
  generalize w.heap.size = g at *
  have H1 := Lib.hid (And.intro h1 (And.intro g1 f1))
  clear h1 g1 f1 CN
  go_upto_region 3 with fail
  have B0 : Both w (w1.alloc (.cells (Try.zeroCells41.setIfInBounds 0 (.int .u64 x)) 41)) g S1 w1.heap.size (newS x) 0 :=
    ⟨H1.out.1.gr ((Gr.refl w1).al _), DW.new0 x w1 HX.out, Int.le_refl _, H1.out.2.1.al _, H1.out.2.1.size_le, H1.out.2.2⟩
  generalize w1.alloc (.cells (Try.zeroCells41.setIfInBounds 0 (.int .u64 x)) 41) = W0 at *
  generalize w1.heap.size = r at *
  have HB0 := Lib.hid B0
  have CW := Lib.hid (awake19)
  clear B0 H1
  go_wp2_with (go_at_call 26; refine (like19 g S1 r (newS x) _ HB0.out.wa HB0.out.d).mono ?_; rintro e w2 ⟨rfl, g2⟩)
  go_loopw [7] (fun i wr => ∃ (k : Nat) (S : List Nat) (s : TS), k ≤ len ∧ k ≤ 40 ∧ i = .int .i64 k ∧ Both w wr g S r s k) (fun i _ => len - (intOf i).toNat)
  case atStart => exact ⟨0, S1, newS x, by omega, by omega, rfl, HB0.out.more g2⟩
  case round =>
    obtain ⟨k, S, s, hk, hk40, rfl, hb⟩ := hrel
    have HH := Lib.hid hb
    clear hb
    by_cases hlt : k < len
    · have hd : decide ((k : Int) < (len : Int)) = true := by simpa using hlt
      by_cases h40 : k < 40
      · have hd2 : decide ((k : Int) < 40) = true := by simp; omega
        rcases HR.out with h0 | ⟨bz, off, rfl, hc⟩
        · omega
        obtain ⟨kd, p, n, raw, e0, e1, e2, e3, hkd, hn⟩ := HA.out k hlt
        have c0 := HH.out.gr.cell_some (hc k 0 hlt (by omega))
        have c1 := HH.out.gr.cell_some (hc k 1 hlt (by omega))
        have c2 := HH.out.gr.cell_some (hc k 2 hlt (by omega))
        have c3 := HH.out.gr.cell_some (hc k 3 hlt (by omega))
        rw [e0] at c0
        rw [e1] at c1
        rw [e2] at c2
        rw [e3] at c3
        have HC := Lib.hid (does19 g S r s wr kd p n raw HH.out.wa HH.out.d hkd hn (by have := HH.out.few; omega))
        clear e0 e1 e2 e3 hc hkd hn g2
        simp only [Nat.add_zero] at c0
        go_wp2_with (first
          | (go_at_call 17; refine (HC.out).mono ?_; rintro e w3 hdo; obtain ⟨rfl, s', S', hs, hb3, _, _⟩ := HH.out.does hdo; have H3 := Lib.hid hb3; clear hdo hs hb3)
          | (go_at_call 26; refine (like19 g S' r s' _ H3.out.wa H3.out.d).mono ?_; rintro e w4 ⟨rfl, g4⟩))
        go_roundw
        case rel => exact ⟨k + 1, S', s', by omega, by omega, by go_num, H3.out.more g4⟩
        case measure => simp [intOf]; omega
      · obtain rfl : k = 40 := by omega
        go_wp2_with (go_at_call 16; refine (CW.out _).mono ?_; rintro e w8 ⟨rfl, g8⟩)
        go_ret
        exact ⟨rfl, HH.out.gr.tr g8⟩
    · obtain rfl : k = len := by omega
      have hd : decide ((k : Int) < (k : Int)) = false := by simp
      go_wp2_with (go_at_call 16; refine (CW.out _).mono ?_; rintro e w8 ⟨rfl, g8⟩)
      go_ret
      exact ⟨rfl, HH.out.gr.tr g8⟩
end Go.Proofs.Ytbeoomjcipbjjaa
