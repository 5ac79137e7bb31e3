/- The walk of the law ShelfPlays of chapter 16 (shelf): it returns true for every input, and changes nothing that was there. -/
import Derived.Test.YtfppmdnpjihcpaaShelfW
namespace Go.Proofs.Ytfppmdnpjihcpaa
open Go.RowKit LinesP
set_option linter.unusedVariables false
/-- Both shelves, alike, behind a number of calls. -/
def TwoS (w wr : World) (g h cap : Nat) : Prop := Gr w wr ∧ ∃ ws cl on, Both w.heap.size wr g h cap ws cl on
theorem TwoS.gr {w wr w' : World} {g h cap : Nat} (t : TwoS w wr g h cap) (k : Gr wr w') : TwoS w w' g h cap := ⟨t.1.tr k, by obtain ⟨ws, cl, on, b⟩ := t.2; exact ⟨ws, cl, on, b.gr k⟩⟩
set_option maxRecDepth 100000 in
set_option maxHeartbeats 4000000 in
theorem shelfPlays_walk (n : Int) (a : Option Addr) (len cap : Nat) (F : Nat → Nat → Value) (w : World) (hn : -9223372036854775808 ≤ n ∧ n ≤ 9223372036854775807) (h : RecsIn Try.prog 46 w a len cap 2 F) :
    Calls Try.prog 11 #[.int .i64 n, .slice a len cap] w fun e w' => e = .returned (.bool true) ∧ Gr w w' := by
  obtain ⟨hlen, hcap, hrow, hkind⟩ := h
  have hk0 : ∀ i, i < len → ∃ n, F i 0 = .int .u8 n ∧ 0 ≤ n ∧ n ≤ 255 := fun i hi => by
    obtain ⟨n, h1, h2⟩ := hkind 2 i 0 (some .u8) hi (by omega) (by kernel_rfl); exact ⟨n, h1, bd_u8 h2⟩
  have hk1 : ∀ i, i < len → ∃ n, F i 1 = .int .u64 n := fun i hi => by
    obtain ⟨n, h1, h2⟩ := hkind 2 i 1 (some .u64) hi (by omega) (by kernel_rfl); exact ⟨n, h1⟩
  have HK := Lib.hid (And.intro hk0 hk1)
  have HR := Lib.hid hrow
  clear hkind hk0 hk1 hrow
  go_enter Try.func11, Try.ntmps11
  go_wp2_with fail
  refine (shelfNew_any n _).mono ?_
  rintro e w1 ⟨rfl, l1, g1, z1⟩
  go_wp2_with fail
  refine (dsNew_any n _).mono ?_
  rintro e w2 ⟨rfl, d2, g2⟩
  have T2 : TwoS w w2 w.heap.size w1.heap.size (clampI n 1 256).toNat := ⟨g1.tr g2, _, _, _, both_new l1 g1 d2 g2⟩
  have hhd : ∀ x, x ∈ [w.heap.size, w1.heap.size] → w.heap.size ≤ x := by intro x hx; simp at hx; omega
  clear l1 g1 d2 g2
  generalize (clampI n 1 256).toNat = C at *
  generalize w1.heap.size = hh at *
  clear w1 z1
  go_wp2_with fail
  go_loopw [7] (fun i wr => ∃ k : Nat, k ≤ len ∧ k ≤ 80 ∧ i = .int .i64 k ∧ TwoS w wr w.heap.size hh C) (fun i _ => len - (intOf i).toNat)
  case atStart => exact ⟨0, by omega, by omega, rfl, T2⟩
  case round =>
    obtain ⟨k, hk, hk80, rfl, T⟩ := hrel
    by_cases hlt : k < len
    · have hd : decide ((k : Int) < (len : Int)) = true := by simpa using hlt
      by_cases h80 : k < 80
      · have hd2 : decide ((k : Int) < 80) = true := by simp; omega
        rcases HR.out with h0 | ⟨bz, off, rfl, hc⟩
        · omega
        obtain ⟨kd, e0, hkd⟩ := HK.out.1 k hlt
        obtain ⟨x, e1⟩ := HK.out.2 k hlt
        have c0 := T.1.cell_some (hc k 0 hlt (by omega))
        have c1 := T.1.cell_some (hc k 1 hlt (by omega))
        rw [e0] at c0
        rw [e1] at c1
        clear e0 e1 hc
        simp only [Nat.add_zero] at c0
        obtain ⟨gr, ws, cl, on, b⟩ := T
        obtain ⟨r, went, ws', cl', on', C0⟩ := does_any w.heap.size wr w.heap.size hh C ws cl on b gr.size_le kd x hkd
        have CD := Lib.hid C0
        clear C0
        go_wp2_with fail
        with_reducible refine (CD.out).mono ?_
        clear CD c0 c1
        rintro e w3 ⟨rfl, b3, k3, _⟩
        have g3 : Gr w w3 := Below.trans gr.below k3
        have T3 : TwoS w w3 w.heap.size hh C := ⟨g3, _, _, _, b3⟩
        obtain ⟨v, c, v2, l, hcl, hon, d, dj, b1, b2⟩ := b3
        obtain ⟨a2, cp2, hv2, h12, h22⟩ := d.words.len
        subst hv2
        obtain ⟨d0, d1, d2, d3, df⟩ := d.hdr.c4
        have hll := l.len
        have hl2 := l.cap2
        have C54 := Lib.hid (fun w' (g' : Gr w3 w') => slen_any _ _ _ _ w' c (l.gr g'))
        have C55 := Lib.hid (fun w' (g' : Gr w3 w') => sclaimed_any _ _ _ _ w' c (l.gr g'))
        rw [hcl] at C55
        have C39 := Lib.hid (fun w' (g' : Gr w3 w') => sall_any _ _ _ _ w' c (l.gr g'))
        have DW := Lib.hid (fun w' (g' : Gr w3 w') => d.words.gr g')
        have DB := Lib.hid (fun w' (g' : Gr w3 w') => d.hdr.gr g')
        clear l d dj b1 b2 hcl hon gr
        have HW := Lib.hid (show ws'.length ≤ 1000 by omega)
        go_upto_region 9 with fail
        have e1 : ((ws'.length : Int) != (ws'.length : Int)) = false := by simp
        have e2 : (cl' != cl') = false := by simp
        go_region_held3 (fun w' => w'.cell? ⟨hh, 1, none⟩ = some (.slice a2 ws'.length cp2) ∧ w'.cell? ⟨hh, 2, none⟩ = some (.bool cl'))
          (first | exact ⟨d1, d2⟩ | exact ⟨(DB.out _ hh6).c4.2.1, (DB.out _ hh6).c4.2.2.1⟩ | exact ⟨(DB.out _ hh5).c4.2.1, (DB.out _ hh5).c4.2.2.1⟩)
          (first
          | (go_at_call 54; refine (C54.out _ ((Gr.refl _).drew)).mono ?_; rintro e w4 ⟨rfl, rfl⟩)
          | (go_at_call 55; refine (C55.out _ ((Gr.refl _).drew)).mono ?_; rintro e w4 ⟨rfl, rfl⟩)
          | (go_at_call 39; refine (C39.out _ ((Gr.refl _).drew)).mono ?_; rintro e w5 ⟨v5, rfl, s5, g5, n5⟩; have hh5 := ((Gr.refl w3).drew).tr g5; obtain ⟨a5, cp5, rfl, h15, h25⟩ := s5.len)
          | (go_at_call 40; refine (wsame_any ws' _ _ _ s5 (DW.out _ hh5) HW.out).mono ?_; rintro e w6 ⟨rfl, g6⟩; have hh6 := hh5.tr g6))
        all_goals
          go_wp2_with fail
          go_roundw
          case rel => exact ⟨k + 1, by omega, by omega, by go_num, T3.gr hh6⟩
          case measure => simp [intOf]; omega
      · have hd2 : decide ((k : Int) < 80) = false := by simp; omega
        go_wp2_with (go_at_call 21; refine (awake16_any _).mono ?_; rintro e w9 ⟨rfl, g9⟩)
        go_ret
        exact ⟨rfl, T.1.tr g9⟩
    · have hd : decide ((k : Int) < (len : Int)) = false := by simpa using hlt
      go_wp2_with (go_at_call 21; refine (awake16_any _).mono ?_; rintro e w9 ⟨rfl, g9⟩)
      go_ret
      exact ⟨rfl, T.1.tr g9⟩
end Go.Proofs.Ytfppmdnpjihcpaa
