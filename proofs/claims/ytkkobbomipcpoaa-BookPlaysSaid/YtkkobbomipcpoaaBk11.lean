/- The walk of the law BookPlays of chapter 29 (book): it returns true for every input, and changes nothing that was there. -/
import Derived.Test.YtkkobbomipcpoaaBk10
namespace Go.Proofs.Ytkkobbomipcpoaa
open Go.RowKit TagP
set_option linter.unusedVariables false
theorem both_new {w1 w2 : World} {g h r : Nat} {c : Int} (l1 : BookAt w1 g h (s0 c)) (d2 : DocAt w2 r (fun _ => 0) (s0 c)) (g2 : Gr w1 w2) (hr : w1.heap.size ≤ r) : Both w2 g h r (fun _ => 0) (s0 c) :=
  ⟨l1.gr g2, d2, fine0 l1.c1.1, fun i => .inl rfl, by have := l1.hdr.lt; omega, by have := l1.tag.lt; omega⟩
set_option maxRecDepth 100000 in
set_option maxHeartbeats 4000000 in
theorem bookPlays_walk (cp : Int) (ad : Option Addr) (len cap : Nat) (F : Nat → Nat → Value) (now ticks u : Int) (w : World) (hcp : -9223372036854775808 ≤ cp ∧ cp ≤ 9223372036854775807) (h : RecsIn Try.prog 73 w ad len cap 6 F)
    (hn : 0 ≤ now ∧ now ≤ 18446744073709551615) (ht : 0 ≤ ticks ∧ ticks ≤ 18446744073709551615) (hu : 0 ≤ u ∧ u ≤ 18446744073709551615) :
    Calls Try.prog 11 #[.int .i64 cp, .slice ad len cap, .int .u64 now, .int .u64 ticks, .int .u64 u] w fun e w' => e = .returned (.bool true) ∧ Gr w w' := by
  clear hcp
  obtain ⟨hlen, hcap, hrow, hkind⟩ := h
  have hk0 : ∀ i, i < len → ∃ n, F i 0 = .int .u8 n ∧ 0 ≤ n ∧ n ≤ 255 := fun i hi => by
    obtain ⟨n, h1, h2⟩ := hkind 2 i 0 (some .u8) hi (by omega) (by kernel_rfl); exact ⟨n, h1, bd_u8 h2⟩
  have hk1 : ∀ i, i < len → ∃ n, F i 1 = .int .i64 n := fun i hi => by
    obtain ⟨n, h1, h2⟩ := hkind 2 i 1 (some .i64) hi (by omega) (by kernel_rfl); exact ⟨n, h1⟩
  have hk2 : ∀ i, i < len → ∃ n, F i 2 = .int .i64 n := fun i hi => by
    obtain ⟨n, h1, h2⟩ := hkind 2 i 2 (some .i64) hi (by omega) (by kernel_rfl); exact ⟨n, h1⟩
  have hk3 : ∀ i, i < len → ∃ n, F i 3 = .int .i64 n := fun i hi => by
    obtain ⟨n, h1, h2⟩ := hkind 2 i 3 (some .i64) hi (by omega) (by kernel_rfl); exact ⟨n, h1⟩
  have hk4 : ∀ i, i < len → ∃ n, F i 4 = .int .u64 n ∧ 0 ≤ n ∧ n ≤ 18446744073709551615 := fun i hi => by
    obtain ⟨n, h1, h2⟩ := hkind 2 i 4 (some .u64) hi (by omega) (by kernel_rfl); exact ⟨n, h1, bd_u64 h2⟩
  have hk5 : ∀ i, i < len → ∃ b, F i 5 = .bool b := fun i hi => hkind 2 i 5 none hi (by omega) (by kernel_rfl)
  have HK := Lib.hid (And.intro hk0 (And.intro hk1 (And.intro hk2 (And.intro hk3 (And.intro hk4 hk5)))))
  have HR := Lib.hid hrow
  have HU := Lib.hid (And.intro hn (And.intro ht hu))
  clear hkind hk0 hk1 hk2 hk3 hk4 hk5 hrow hn ht hu
  go_enter Try.func11, Try.ntmps11
  go_wp2_with fail
  refine (bnew cp _).mono ?_
  rintro e w1 ⟨rfl, l1, g1⟩
  go_wp2_with fail
  refine (dnew cp _).mono ?_
  rintro e w2 ⟨rfl, d2, g2⟩
  have HT := Lib.hid (And.intro (both_new l1 d2 g2 (Nat.le_refl _)) (g1.tr g2))
  have hs0 : (s0 (clampI cp 1 64)).last = 0 := rfl
  have hg : w.heap.size ≤ w.heap.size + 1 ∧ w.heap.size ≤ w.heap.size ∧ w.heap.size ≤ w1.heap.size := by have := g1.size_le; omega
  have HG := Lib.hid (show ∀ x ∈ [w.heap.size + 1, w.heap.size, w1.heap.size], w.heap.size ≤ x from fun x hx => by simp at hx; omega)
  have HS0 := Lib.hid hs0
  clear l1 d2 g1 g2 hg hs0
  generalize s0 (clampI cp 1 64) = S0 at *
  generalize w.heap.size + 1 = g at *
  generalize w1.heap.size = r at *
  obtain ⟨h, hh⟩ : ∃ h, w.heap.size = h := ⟨_, rfl⟩
  rw [hh] at HT HG
  have HH := Lib.hid hh
  clear hh
  go_wp2_with fail
  go_loopw [13] (fun i wr => ∃ (k : Nat) (s : BS) (of : Nat → Int), k ≤ len ∧ k ≤ 60 ∧ i = .int .i64 k ∧ Both wr g h r of s ∧ s.last ≤ k ∧ Gr w wr) (fun i _ => len - (intOf i).toNat)
  case atStart => exact ⟨0, S0, _, by omega, by omega, rfl, HT.out.1, by rw [HS0.out]; simp, HT.out.2⟩
  case round =>
    obtain ⟨k, s, of, hk, hk60, rfl, B, hlast, gr⟩ := hrel
    clear HT
    by_cases hgo : k < len ∧ k < 60
    · obtain ⟨hlt, h60⟩ := hgo
      have hd : decide ((k : Int) < (len : Int)) = true := by simpa using hlt
      have hd2 : decide ((k : Int) < 60) = true := by simp; omega
      rcases HR.out with h0 | ⟨bz, off, rfl, hc⟩
      · omega
      obtain ⟨kd, e0, hkd⟩ := HK.out.1 k hlt
      obtain ⟨slot, e1⟩ := HK.out.2.1 k hlt
      obtain ⟨cpu, e2⟩ := HK.out.2.2.1 k hlt
      obtain ⟨level, e3⟩ := HK.out.2.2.2.1 k hlt
      obtain ⟨nw, e4, hnw⟩ := HK.out.2.2.2.2.1 k hlt
      obtain ⟨anew, e5⟩ := HK.out.2.2.2.2.2 k hlt
      have c0 := hc k 0 hlt (by omega)
      have c1 := hc k 1 hlt (by omega)
      have c2 := hc k 2 hlt (by omega)
      have c3 := hc k 3 hlt (by omega)
      have c4 := hc k 4 hlt (by omega)
      have c5 := hc k 5 hlt (by omega)
      rw [e0] at c0; rw [e1] at c1; rw [e2] at c2; rw [e3] at c3; rw [e4] at c4; rw [e5] at c5
      clear e0 e1 e2 e3 e4 e5 hc
      simp only [Nat.add_zero] at c0
      replace c0 := gr.cell_some c0
      replace c1 := gr.cell_some c1
      replace c2 := gr.cell_some c2
      replace c3 := gr.cell_some c3
      replace c4 := gr.cell_some c4
      replace c5 := gr.cell_some c5
      have CD := Lib.hid (does29 g h r of s wr kd slot cpu level nw anew B hkd hnw (by omega))
      have HL := Lib.hid hlast
      clear B hlast hkd hnw
      go_wp2_with fail
      refine (CD.out).mono ?_
      rintro e w3 ⟨rfl, of', s', b3, hl3, ch3⟩
      have g3 : Gr w w3 := gr.chs ch3 (by rw [HH.out]; exact HG.out)
      have hl3' : s'.last ≤ (k : Int) + 1 := by have := HL.out; omega
      have HL3 := Lib.hid hl3'
      have CS := Lib.hid (fun w' (g' : Gr w3 w') x => same29 g h r of' s' w' x (b3.gr g'))
      have C55 := Lib.hid (fun w' (g' : Gr w3 w') => bloads g h s' w' (b3.l.gr g') b3.fi)
      have C56 := Lib.hid (fun w' (g' : Gr w3 w') => dloads r of' s' w' (b3.d.gr g') b3.fi)
      have C57 := Lib.hid (fun w' (g' : Gr w3 w') => blate g h s' now ticks w' (b3.l.gr g') b3.fi HU.out.1 HU.out.2.1)
      have C58 := Lib.hid (fun w' (g' : Gr w3 w') => dlate r of' s' now ticks w' (b3.d.gr g') b3.fi HU.out.1 HU.out.2.1)
      have C49 := Lib.hid (fun w' (g' : Gr w3 w') => blive g h s' u w' (b3.l.gr g') HU.out.2.2.1 HU.out.2.2.2)
      have C59 := Lib.hid (fun w' (g' : Gr w3 w') => dlive r of' s' u w' (b3.d.gr g') b3.wd)
      have HLL := Lib.hid (show (ldL s' 64).length ≤ 1000 ∧ (lateL s' now ticks 64).length ≤ 1000 from ⟨by rw [ldL_len]; have := b3.l.c1; omega, by have := lateL_len s' now ticks 64; omega⟩)
      have hlv : (liveB s'.f u = true ∧ liveI s'.f u = u % 256 ∧ dliveI s'.f u = u % 256 ∧ 0 ≤ u % 256) ∨ (liveB s'.f u = false ∧ liveI s'.f u = 0 ∧ dliveI s'.f u = -1) := by
        by_cases hb : liveB s'.f u = true
        · left
          refine ⟨hb, ?_, ?_, by omega⟩
          · unfold liveI; unfold liveB at hb; rw [if_pos hb]
          · unfold dliveI; rw [if_pos hb]
        · right
          refine ⟨by simpa using hb, ?_, ?_⟩
          · unfold liveI; unfold liveB at hb; rw [if_neg hb]
          · unfold dliveI; rw [if_neg hb]
      have HB3 := Lib.hid b3
      generalize ldL s' 64 = zs at *
      generalize lateL s' now ticks 64 = ys at *
      generalize liveB s'.f u = lb at *
      generalize liveI s'.f u = li at *
      generalize dliveI s'.f u = di at *
      have HLV := Lib.hid hlv
      clear b3 hl3 hl3' ch3 CD c0 c1 c2 c3 c4 c5 hlv
      go_wp2_with fail
      go_loopw [14] (fun v wx => ∃ q : Nat, q ≤ 66 ∧ v = .int .i64 ((q : Int) - 1) ∧ Gr w3 wx) (fun v _ => (65 - intOf v).toNat)
      case atStart => exact ⟨0, by omega, rfl, Gr.refl _⟩
      case round =>
        obtain ⟨q, hq, rfl, gx⟩ := hrel
        obtain ⟨z, hz⟩ : ∃ z : Int, (q : Int) - 1 = z := ⟨_, rfl⟩
        have HZ := Lib.hid hz
        rw [hz]
        by_cases hqm : q ≤ 65
        · have hd : decide (z ≤ 64) = true := by simp; omega
          have hz1 : -1 ≤ z := by omega
          have hz2 : z ≤ 100 := by omega
          clear hz
          go_wp2_with (go_at_call 54; refine (CS.out _ gx z).mono ?_; rintro e w4 ⟨rfl, g4⟩)
          go_roundw
          case rel => exact ⟨q + 1, by omega, by have := HZ.out; go_num, gx.tr g4⟩
          case measure => simp [intOf]; have := HZ.out; omega
        · have hd : decide (z ≤ 64) = false := by simp; omega
          clear hz
          rcases HLV.out with ⟨rfl, e1, e2, e3⟩ | ⟨rfl, e1, e2⟩
          · rw [e1] at C49
            rw [e2] at C59
            generalize u % 256 = m at *
            have d1 : decide (0 ≤ m) = true := by simpa using e3
            clear e1 e2
            go_wp2_with (first
              | (go_at_call 55; refine (C55.out _ gx).mono ?_; rintro e w4 ⟨v4, rfl, s4, g4⟩; obtain ⟨a4, c4, rfl, _, _⟩ := s4.len; have G4 := gx.tr g4)
              | (go_at_call 56; refine (C56.out _ G4).mono ?_; rintro e w5 ⟨v5, rfl, s5, g5⟩; obtain ⟨a5, c5, rfl, _, _⟩ := s5.len; have G5 := G4.tr g5)
              | (go_at_call 15; ((with_reducible refine (same_any zs _ _ _ (s4.gr g5) s5 HLL.out.1).mono ?_); rintro e w6 ⟨rfl, g6⟩; have G6 := G5.tr g6))
              | (go_at_call 57; refine (C57.out _ G6).mono ?_; rintro e w7 ⟨v7, rfl, s7, g7⟩; obtain ⟨a7, c7, rfl, _, _⟩ := s7.len; have G7 := G6.tr g7)
              | (go_at_call 58; refine (C58.out _ G7).mono ?_; rintro e w8 ⟨v8, rfl, s8, g8⟩; obtain ⟨a8, c8, rfl, _, _⟩ := s8.len; have G8 := G7.tr g8)
              | (go_at_call 15; ((with_reducible refine (same_any ys _ _ _ (s7.gr g8) s8 HLL.out.2).mono ?_); rintro e w9 ⟨rfl, g9⟩; have G9 := G8.tr g9))
              | (go_at_call 49; refine (C49.out _ G9).mono ?_; rintro e w10 ⟨rfl, g10⟩; have G10 := G9.tr g10)
              | (go_at_call 59; refine (C59.out _ G10).mono ?_; rintro e w' ⟨rfl, rfl⟩))
            go_roundw
            case rel => exact ⟨k + 1, s', of', by omega, by omega, by go_num, HB3.out.gr G10, by have := HL3.out; omega, g3.tr G10⟩
            case measure => simp [intOf]; omega
          · rw [e1] at C49
            rw [e2] at C59
            clear e1 e2
            go_wp2_with (first
              | (go_at_call 55; refine (C55.out _ gx).mono ?_; rintro e w4 ⟨v4, rfl, s4, g4⟩; obtain ⟨a4, c4, rfl, _, _⟩ := s4.len; have G4 := gx.tr g4)
              | (go_at_call 56; refine (C56.out _ G4).mono ?_; rintro e w5 ⟨v5, rfl, s5, g5⟩; obtain ⟨a5, c5, rfl, _, _⟩ := s5.len; have G5 := G4.tr g5)
              | (go_at_call 15; ((with_reducible refine (same_any zs _ _ _ (s4.gr g5) s5 HLL.out.1).mono ?_); rintro e w6 ⟨rfl, g6⟩; have G6 := G5.tr g6))
              | (go_at_call 57; refine (C57.out _ G6).mono ?_; rintro e w7 ⟨v7, rfl, s7, g7⟩; obtain ⟨a7, c7, rfl, _, _⟩ := s7.len; have G7 := G6.tr g7)
              | (go_at_call 58; refine (C58.out _ G7).mono ?_; rintro e w8 ⟨v8, rfl, s8, g8⟩; obtain ⟨a8, c8, rfl, _, _⟩ := s8.len; have G8 := G7.tr g8)
              | (go_at_call 15; ((with_reducible refine (same_any ys _ _ _ (s7.gr g8) s8 HLL.out.2).mono ?_); rintro e w9 ⟨rfl, g9⟩; have G9 := G8.tr g9))
              | (go_at_call 49; refine (C49.out _ G9).mono ?_; rintro e w10 ⟨rfl, g10⟩; have G10 := G9.tr g10)
              | (go_at_call 59; refine (C59.out _ G10).mono ?_; rintro e w' ⟨rfl, rfl⟩))
            go_roundw
            case rel => exact ⟨k + 1, s', of', by omega, by omega, by go_num, HB3.out.gr G10, by have := HL3.out; omega, g3.tr G10⟩
            case measure => simp [intOf]; omega
    · have hds : (k < len ∧ decide ((k : Int) < 60) = false) ∨ ¬ k < len := by
        by_cases hlt : k < len
        · exact .inl ⟨hlt, by simp; omega⟩
        · exact .inr hlt
      clear hgo B
      rcases hds with ⟨hd, hd2⟩ | hd
      all_goals
        go_wp2_with (go_at_call 51; refine (awake29 _).mono ?_; rintro e w9 ⟨rfl, g9⟩)
        go_ret
        exact ⟨rfl, gr.tr g9⟩
end Go.Proofs.Ytkkobbomipcpoaa
