/- The walk of the law NapJust of chapter 27 (nap): it returns true for every input, and changes nothing that was there. -/
import Derived.Test.YtbeoomjcipbjjaaNp8
import Derived.Test.YtbeoomjcipbjjaaNp6
namespace Go.Proofs.Ytbeoomjcipbjjaa
open Go.RowKit
set_option linter.unusedVariables false

set_option maxRecDepth 100000 in
set_option maxHeartbeats 2000000 in
theorem njust_rest (b n : Int) (a : Option Addr) (cap : Nat) (zs : List Int) (w : World) (hb : 0 ≤ b ∧ b ≤ 9223372036854775808) (hn : 0 ≤ n ∧ n ≤ 65535) (h : SliceIn .u16 w a cap zs) (x : Int) (hx : (if 9223372036854775808 < x then x - 9223372036854775808 else x) = b) (hxb : 0 ≤ x ∧ x ≤ 18446744073709551615) :
    Calls Try.prog 5 #[.int .u64 x, .int .u16 n, .slice a zs.length cap] w fun e w' => e = .returned (.bool true) ∧ Gr w w' := by
  obtain ⟨hlen, hcap, hrow, hwf, hnil⟩ := h
  have hz : ∀ i, i < zs.length → 0 ≤ zs.getD i 0 ∧ zs.getD i 0 ≤ 65535 := fun i hi => by
    have e : zs.getD i 0 = zs[i] := by simp [List.getD, hi]
    rw [e]; exact bd_u16 (hwf _ (List.getElem_mem hi))
  have HR := Lib.hid (And.intro hrow hz)
  have CN := Lib.hid (fun w => nnew b w ⟨hb.1, by omega⟩)
  have HB := Lib.hid (And.intro hb hxb)
  have HNN := Lib.hid hn
  have CW := Lib.hid (awake27)
  obtain ⟨hn0, hn1⟩ := hn
  clear hrow hwf hz hnil hb hxb
  go_enter Try.func5, Try.ntmps5
  go_upto_if 17 with fail
  go_cut [0] (fun v wx => v = .int .u64 b ∧ w = wx)
  case first =>
    by_cases h1 : 9223372036854775808 < x
    · rw [if_pos h1] at hx
      have hd : decide (9223372036854775808 < x) = true := by simpa using h1
      have hu := HB.out
      go_wp2_with fail
      go_meet
      case rel => exact ⟨rfl, rfl⟩
    · rw [if_neg h1] at hx
      have hd : decide (9223372036854775808 < x) = false := by simpa using h1
      go_wp2_with fail
      go_meet
      case rel => exact ⟨rfl, rfl⟩
  case rest =>
    obtain ⟨rfl, rfl⟩ := hcut
    go_upto_region 4 with (go_at_call 20; refine (CN.out _).mono ?_; rintro e w1 hn; obtain ⟨q, g, C, S1, rfl, h1⟩ := NF.new hn; clear hn)
    have H1 := Lib.hid h1
    clear h1 CN hx
    go_upto_region 5 with fail
    obtain ⟨k, hk⟩ : ∃ k : Int, n % 3000 + 1 = k := ⟨_, rfl⟩
    have hkb : 0 < k ∧ k ≤ 3000 := by omega
    obtain ⟨hk0, hk1⟩ := hkb
    rw [hk]
    clear hk
    go_wp2_with fail
    go_loopw [9] (fun i wr => ∃ (j : Nat) (S : List Nat) (s : TS) (K : Nat → Int), j ≤ zs.length ∧ j ≤ 60 ∧ i = .int .i64 j ∧ NF w wr q g C S s K ∧ JI0 b j s K) (fun i _ => zs.length - (intOf i).toNat)
    case atStart => exact ⟨0, S1, _, _, by omega, by omega, rfl, H1.out, JI0.start b⟩
    case round =>
      obtain ⟨j, S, s, K, hj, hj60, rfl, hN, hI⟩ := hrel
      have HN := Lib.hid (And.intro hN hI)
      clear hN hI H1
      by_cases hlt : j < zs.length ∧ j < 60
      · obtain ⟨hlt, h60⟩ := hlt
        have i2 : decide ((j : Int) < 60) = true := by simp; omega
        rcases HR.out.1 with h0 | ⟨bz, off, rfl, hc⟩
        · simp [h0] at hlt
        have c1 := HN.out.1.gr.cell_some (hc j hlt)
        have hz := HR.out.2 j hlt
        obtain ⟨hz1, hz2⟩ := hz
        generalize zs.getD j 0 = z at *
        have CB := Lib.hid (nbegin q g C S s K ((j + 1 : Nat) : Int) 2 (z % 3000) _ HN.out.1.m (by omega) (by have := HN.out.2.last; omega))
        have HX := Lib.hid (HN.out.2.next HN.out.1.m.wa.tg h60 HB.out.1.2 (t := z % 3000) (by omega))
        rw [show ((j + 1 : Nat) : Int) = (j : Int) + 1 by omega] at CB HX
        clear hc
        go_upto_region 8 with fail
        go_wp2_with (go_at_call 21; refine (CB.out).mono ?_; rintro e w2 ⟨rfl, hn⟩; obtain ⟨S2, h2⟩ := HN.out.1.to hn; have H2 := Lib.hid h2; clear h2 hn)
        go_roundw
        case rel => exact ⟨j + 1, S2, _, _, by omega, by omega, by go_num, H2.out, HX.out⟩
        case measure => simp [intOf]; omega
      · have hd : j = zs.length ∨ (j < zs.length ∧ decide ((j : Int) < 60) = false) := by
          by_cases e : j = zs.length
          · exact .inl e
          · exact .inr ⟨by omega, by simp; omega⟩
        clear hlt
        have hd' : Hid (j ≤ zs.length) := Lib.hid hj
        clear hj hj60
        rcases hd with rfl | ⟨hd, hd2⟩
        all_goals
          have CB := Lib.hid (nbegin q g C S s K 0 1 k _ HN.out.1.m (by omega) (by have := HN.out.2.last; omega))
          have hbv : begV K 0 1 k = .tuple #[.bool true, .int .i64 0] := by
            unfold begV
            rw [show begOk K 0 1 k = _ from begOk_at K (p := 0) (by omega) HN.out.2.zero (.inl rfl), show decide (k ≠ 0) = true by simp; omega]
            unfold begE
            rw [if_pos (by omega), if_pos (.inl rfl), show kdS K 0 = K 0 from kdS_at K (i := 0) (by omega), HN.out.2.zero]
            rfl
          rw [hbv] at CB
          have HX := Lib.hid (JI.start HN.out.1.m.wa.tg HN.out.2 HB.out.1.2 ⟨hk0, hk1⟩)
          clear hbv
          go_wp2_with (go_at_call 21; refine (CB.out).mono ?_; rintro e w2 ⟨rfl, hn⟩; obtain ⟨S2, h2⟩ := HN.out.1.to hn; have H2 := Lib.hid h2; clear h2 hn)
          generalize begS s K 0 1 k = s2 at *
          generalize begK K 0 1 k = K2 at *
          clear CB HN
          go_loopw [12, 13, 14, 15] (fun t _ _ _ wr => ∃ (T : Int) (S : List Nat) (s : TS) (K : Nat → Int), 0 ≤ T ∧ T ≤ 3001 ∧ t = .int .u64 (T + 1) ∧ NF w wr q g C S s K ∧ JI b k T s K) (fun t _ _ _ _ => (3002 - intOf t).toNat)
          case atStart => exact ⟨0, S2, s2, K2, by omega, by omega, rfl, H2.out, HX.out⟩
          case round =>
            obtain ⟨T, S3, s3, K3, hT0, hT1, rfl, hN, hI⟩ := hrel
            have HN := Lib.hid (And.intro hN hI)
            clear hN hI H2 HX
            by_cases hlt : T < 3001
            · have hd3 : decide (T + 1 ≤ 3001) = true := by simp; omega
              have CT := Lib.hid (ntick q g C S3 s3 K3 _ HN.out.1.m (by have := HN.out.2.now; have := HB.out.1; omega))
              have HRG := Lib.hid (fun l hd => HN.out.2.rang HN.out.1.m.nk (l := l) hd)
              have HNX := Lib.hid (HN.out.2.next HN.out.1.m.nk hT0)
              have HZ := Lib.hid (And.intro HN.out.2.zero HN.out.1.m.nk.tim)
              go_wp2_with (go_at_call 22; refine (CT.out).mono ?_; rintro e w4 hn; obtain ⟨v4, l4, S4, rfl, hd4, sc4, h4, fv4, _, _⟩ := HN.out.1.tick hn; have hl64 := hd4.len; obtain ⟨a4, c4, rfl, _, _⟩ := sc4.len; have H4 := Lib.hid (And.intro h4 (And.intro hd4 sc4)); clear hn h4 hd4 sc4 fv4)
              go_loopw [13, 15] (fun v i wy => ∃ r : Nat, r ≤ l4.length ∧ i = .int .i64 r ∧ v = .bool (rgB l4 r) ∧ w4 = wy) (fun _ i _ => l4.length - (intOf i).toNat)
              case atStart => exact ⟨0, by omega, rfl, by rw [rgB_zero], rfl⟩
              case round =>
                obtain ⟨r, hr, rfl, rfl, rfl⟩ := hrel
                by_cases hrl : r < l4.length
                · have i1 : (r : Int) < (l4.length : Int) := by omega
                  obtain ⟨p, hp1, hp2⟩ := H4.out.2.1.at_ hrl
                  obtain ⟨b4, o4, c5, he, _, _, hc4, _, _⟩ := H4.out.2.2.cells (by omega)
                  cases he
                  obtain ⟨d0, d1⟩ := dueC_get K3 l4 r hrl
                  have hs := rgB_step l4 hrl
                  have hmem : (p : Int) ∈ l4 := by
                    rw [← hp1, show l4.getD r 0 = l4[r] by simp [List.getD, hrl]]
                    exact List.getElem_mem hrl
                  rw [hp1] at d0 d1 hs
                  rw [Int.toNat_natCast] at d1
                  have c0 := hc4 _ _ d0
                  have c1 := hc4 _ _ d1
                  rw [← Nat.add_assoc] at c1
                  clear hc4 d0 d1 hp1 HRG
                  by_cases h0 : p = 0
                  · subst h0
                    have hk1' : K3 0 = 1 := by
                      obtain ⟨p', e, _, q1, _⟩ := (H4.out.2.1.2 _).1 hmem
                      obtain rfl : p' = 0 := by omega
                      have h1 := HZ.out.2 0 q1
                      have h2 := HZ.out.1
                      split at h2
                      · exact h2
                      · exact absurd h2 h1
                    rw [hk1'] at c1
                    have hs' := Lib.hid (show rgB l4 (r + 1) = true by rw [hs]; simp)
                    clear hs hk1' hmem
                    generalize rgB l4 r = rb at *
                    cases rb
                    all_goals
                      go_wp2_with fail
                      go_roundw
                      case rel => exact ⟨r + 1, by omega, by go_num, by rw [hs'.out], trivial⟩
                      case measure => simp [intOf]; omega
                  · have q1 : ((p : Int) == 0) = false := by simp; omega
                    have hs' := Lib.hid (show rgB l4 (r + 1) = rgB l4 r by rw [hs]; simp; omega)
                    clear hs hmem h0
                    generalize K3 p = z at c1
                    generalize rgB l4 r = rb at *
                    cases rb
                    all_goals
                      go_wp2_with fail
                      go_roundw
                      case rel => exact ⟨r + 1, by omega, by go_num, by rw [hs'.out], trivial⟩
                      case measure => simp [intOf]; omega
                · obtain rfl : r = l4.length := by omega
                  have hrg : rgB l4 l4.length = (T + 1 == k) := by
                    rw [rgB_end, Bool.eq_iff_iff]
                    simp only [decide_eq_true_eq, beq_iff_eq]
                    exact HRG.out l4 H4.out.2.1
                  have CK := Lib.hid (nkind q g C S4 _ _ 0 _ H4.out.1.m)
                  rw [show kdS (tickK s3 K3) 0 = _ from kdS_at _ (i := 0) (by omega), HNX.out.zero] at CK
                  generalize rgB l4 l4.length = rb at *
                  subst hrg
                  clear hrl
                  by_cases e1 : T + 1 < k
                  · rw [if_pos e1] at CK
                    have q1 : (T + 1 == k) = false := by simp; omega
                    have q2 : decide (T + 1 < k) = true := by simpa using e1
                    clear e1
                    go_wp2_with (go_at_call 23; refine (CK.out).mono ?_; rintro e w6 ⟨rfl, rfl⟩)
                    go_roundw
                    case rel => exact ⟨T + 1, S4, _, _, by omega, by omega, by go_num, H4.out.1, HNX.out⟩
                    case measure => simp [intOf]; omega
                  · rw [if_neg e1] at CK
                    have q2 : decide (T + 1 < k) = false := by simpa using e1
                    by_cases e2 : T + 1 = k
                    · have q1 : (T + 1 == k) = true := by simpa using e2
                      clear e1 e2
                      go_wp2_with (go_at_call 23; refine (CK.out).mono ?_; rintro e w6 ⟨rfl, rfl⟩)
                      go_roundw
                      case rel => exact ⟨T + 1, S4, _, _, by omega, by omega, by go_num, H4.out.1, HNX.out⟩
                      case measure => simp [intOf]; omega
                    · have q1 : (T + 1 == k) = false := by simpa using e2
                      clear e1 e2
                      go_wp2_with (go_at_call 23; refine (CK.out).mono ?_; rintro e w6 ⟨rfl, rfl⟩)
                      go_roundw
                      case rel => exact ⟨T + 1, S4, _, _, by omega, by omega, by go_num, H4.out.1, HNX.out⟩
                      case measure => simp [intOf]; omega
            · obtain rfl : T = 3001 := by omega
              have hd3 : decide ((3001 : Int) + 1 ≤ 3001) = false := by decide
              have CL := Lib.hid (nlen q g C S3 s3 K3 _ HN.out.1.m)
              rw [HN.out.2.done HN.out.1.m.nk] at CL
              go_wp2_with (first | (go_at_call 24; refine (CL.out).mono ?_; rintro e w4 ⟨rfl, rfl⟩) | (go_at_call 25; refine (CW.out _).mono ?_; rintro e w8 ⟨rfl, g8⟩))
              go_ret
              exact ⟨rfl, HN.out.1.gr.tr g8⟩
theorem napJust_walk (x n : Int) (a : Option Addr) (cap : Nat) (zs : List Int) (w : World) (hx : 0 ≤ x ∧ x ≤ 18446744073709551615) (hn : 0 ≤ n ∧ n ≤ 65535) (h : SliceIn .u16 w a cap zs) :
    Calls Try.prog 5 #[.int .u64 x, .int .u16 n, .slice a zs.length cap] w fun e w' => e = .returned (.bool true) ∧ Gr w w' :=
  njust_rest _ n a cap zs w (by split <;> omega) hn h x rfl hx
end Go.Proofs.Ytbeoomjcipbjjaa
