/- The walk of the law LinesPlay of chapter 14 (lines): it returns true for every input, and changes nothing that was there. -/
import Derived.Test.YtfppmdnpjihcpaaLinesDoes
namespace Go.Proofs.Ytfppmdnpjihcpaa
open Go.RowKit LinesP
set_option linter.unusedVariables false

def Twin (w wr : World) (g h r m : Nat) : Prop := Gr w wr ∧ w.heap.size ≤ h ∧ w.heap.size ≤ r ∧ ∃ t c d, Both wr g h r m t c d
theorem Twin.does {w wr w' : World} {g h r m : Nat} {e : Ending} (T : Twin w wr g h r m) (p : DoesPost g h r m wr e w') : Twin w w' g h r m :=
  ⟨T.1.chs p.2.2 (by have h1 := T.2.1; have h2 := T.2.2.1; simp; omega), T.2.1, T.2.2.1, p.2.1⟩
theorem Twin.gr {w wr w' : World} {g h r m : Nat} (T : Twin w wr g h r m) (k : Gr wr w') : Twin w w' g h r m :=
  ⟨T.1.tr k, T.2.1, T.2.2.1, by obtain ⟨t, c, d, b⟩ := T.2.2.2; exact ⟨t, c, d, b.gr k⟩⟩

set_option maxRecDepth 100000 in
set_option maxHeartbeats 4000000 in
theorem linesPlay_walk (n : Int) (a : Option Addr) (len cap : Nat) (F : Nat → Nat → Value) (w : World) (hn : -9223372036854775808 ≤ n ∧ n ≤ 9223372036854775807) (h : RecsIn Try.prog 60 w a len cap 3 F) :
    Calls Try.prog 6 #[.int .i64 n, .slice a len cap] w fun e w' => e = .returned (.bool true) ∧ Gr w w' := by
  obtain ⟨hlen, hcap, hrow, hkind⟩ := h
  have hk0 : ∀ i, i < len → ∃ n, F i 0 = .int .u8 n ∧ 0 ≤ n ∧ n ≤ 255 := fun i hi => by
    obtain ⟨n, h1, h2⟩ := hkind 2 i 0 (some .u8) hi (by omega) (by kernel_rfl); exact ⟨n, h1, bd_u8 h2⟩
  have hk1 : ∀ i, i < len → ∃ n, F i 1 = .int .i64 n ∧ -9223372036854775808 ≤ n ∧ n ≤ 9223372036854775807 := fun i hi => by
    obtain ⟨n, h1, h2⟩ := hkind 2 i 1 (some .i64) hi (by omega) (by kernel_rfl); exact ⟨n, h1, bd_i64 h2⟩
  have hk2 : ∀ i, i < len → ∃ n, F i 2 = .int .u16 n ∧ 0 ≤ n ∧ n ≤ 65535 := fun i hi => by
    obtain ⟨n, h1, h2⟩ := hkind 2 i 2 (some .u16) hi (by omega) (by kernel_rfl); exact ⟨n, h1, bd_u16 h2⟩
  have HK := Lib.hid (And.intro hk0 (And.intro hk1 hk2))
  have HR := Lib.hid hrow
  clear hkind hk0 hk1 hk2 hrow
  go_enter Try.func6, Try.ntmps6
  go_wp2_with fail
  refine (lnew_any n _).mono ?_
  rintro e w1 ⟨rfl, l1, g1⟩
  go_wp2_with fail
  refine (rnew_any n _).mono ?_
  rintro e w2 ⟨rfl, r2, g2⟩
  have l2 := l1.gr g2
  have hr0 : w.heap.size + 1 < w1.heap.size := l1.hdr.lt
  have T2 : Twin w w2 (w.heap.size + 1) w.heap.size w1.heap.size (clampI n 0 64).toNat := ⟨g1.tr g2, by omega, by omega, _, _, _, ⟨l2, r2, by omega, by omega, by simp⟩⟩
  have CN := Lib.hid (n_any _ _ _ _ _ _ w2 l2)
  have hm64 := l2.le
  clear l1 g1 r2 g2 l2
  generalize (clampI n 0 64).toNat = m at *
  generalize w1.heap.size = r at *
  clear w1
  go_wp2_with (go_at_call 32; refine (CN.out).mono ?_; rintro e w' ⟨rfl, rfl⟩)
  go_loopw [7] (fun i wr => ∃ k : Nat, k ≤ len ∧ k ≤ 40 ∧ i = .int .i64 k ∧ Twin w wr (w.heap.size + 1) w.heap.size r m) (fun i _ => len - (intOf i).toNat)
  case atStart => exact ⟨0, by omega, by omega, rfl, T2⟩
  case round =>
    obtain ⟨k, hk, hk40, rfl, T⟩ := hrel
    by_cases hlt : k < len
    · have hd : decide ((k : Int) < (len : Int)) = true := by simpa using hlt
      by_cases h40 : k < 40
      · have hd2 : decide ((k : Int) < 40) = true := by simp; omega
        rcases HR.out with h0 | ⟨bz, off, rfl, hc⟩
        · omega
        obtain ⟨kd, e0, hkd⟩ := HK.out.1 k hlt
        obtain ⟨cp, e1, hcp⟩ := HK.out.2.1 k hlt
        obtain ⟨tm, e2, htm⟩ := HK.out.2.2 k hlt
        have c0 := hc k 0 hlt (by omega)
        have c1 := hc k 1 hlt (by omega)
        have c2 := hc k 2 hlt (by omega)
        rw [e0] at c0
        rw [e1] at c1
        rw [e2] at c2
        clear e0 e1 e2 hc
        simp only [Nat.add_zero] at c0
        have HC := Lib.hid (And.intro c0 (And.intro c1 c2))
        clear c0 c1 c2
        obtain ⟨tt, htt⟩ := Int.eq_ofNat_of_zero_le (show 0 ≤ tm % 300 by omega)
        have htt2 : tt < 300 := by omega
        have HT := Lib.hid htt
        clear htt
        obtain ⟨wo, hwo⟩ : ∃ wo, wo = wr := ⟨_, rfl⟩
        subst hwo
        go_wp2_with fail
        go_loopw [8] (fun i wr => ∃ q : Nat, q ≤ tt + 1 ∧ i = .int .i64 q ∧ Twin w wr (w.heap.size + 1) w.heap.size r m) (fun i _ => tt + 1 - (intOf i).toNat)
        case atStart => exact ⟨0, by omega, rfl, T⟩
        case round =>
          obtain ⟨q, hq, rfl, T⟩ := hrel
          have c0 := T.1.cell_some HC.out.1
          have c1 := T.1.cell_some HC.out.2.1
          have c2 := T.1.cell_some HC.out.2.2
          by_cases hq2 : (q : Int) ≤ tm % 300
          · have CD := Lib.hid (does_any (w.heap.size + 1) w.heap.size r m cp kd tm wr T.2.2.2 hkd hcp)
            go_wp2_with fail
            with_reducible refine (CD.out).mono ?_
            rintro e w3 ⟨rfl, b3, k3⟩
            have T3 := T.does ⟨rfl, b3, k3⟩
            go_wp2_with fail
            go_roundw
            case rel => exact ⟨q + 1, by have := HT.out; omega, by go_num, T3⟩
            case measure => simp [intOf]; have := HT.out; omega
          · have hq3 : decide ((q : Int) ≤ tm % 300) = false := by simpa using hq2
            obtain ⟨wi, hwi⟩ : ∃ wi, wi = wr := ⟨_, rfl⟩
            subst hwi
            have HS := Lib.hid (And.intro hq2 hq3)
            go_wp2_with fail
            clear hq2 hq3
            go_loopw [9] (fun i wr => ∃ q : Nat, q ≤ m + 2 ∧ i = .int .i64 ((q : Int) - 1) ∧ Twin w wr (w.heap.size + 1) w.heap.size r m) (fun i _ => ((m : Int) + 1 - intOf i).toNat)
            case atStart => exact ⟨0, by omega, rfl, T⟩
            case round =>
              obtain ⟨q, hq, rfl, T⟩ := hrel
              by_cases hqm : q ≤ m + 1
              · have hd3 : decide ((q : Int) - 1 ≤ (m : Int)) = true := by simp; omega
                obtain ⟨t, c, d, b⟩ := T.2.2.2
                by_cases hx : 0 ≤ (q : Int) - 1 ∧ (q : Int) - 1 < m
                · obtain ⟨i, hi⟩ := Int.eq_ofNat_of_zero_le hx.1
                  have him : i < m := by omega
                  rw [hi] at hd3 ⊢
                  have HI := Lib.hid hi
                  clear hi hx
                  have CW := Lib.hid (waits_some _ _ m t c d i wr b.l him)
                  have R35 := Lib.hid (fun w' => rhas_yes (some ⟨r, 0, none⟩) m i w' him)
                  go_wp2_with fail
                  with_reducible refine (CW.out).mono ?_
                  rintro e w3 ⟨rfl, g3⟩
                  go_upto_region 18 with fail
                  have hX := Blk.new w3 65 #[.bool false, .bool false, .int .i64 0]
                  have g4 : Gr wr (w3.alloc (.cells #[.bool false, .bool false, .int .i64 0] 65)) := g3.al _
                  have b4 := b.gr g4
                  have T4 := T.gr g4
                  have hrX : r < w3.heap.size := (b.rf.gr g3).2.lt
                  have hgX : w.heap.size + 1 < w3.heap.size := (b.l.gr g3).hdr.lt
                  have HB := Lib.hid (And.intro b T)
                  clear b T
                  generalize w3.alloc (.cells #[.bool false, .bool false, .int .i64 0] 65) = W at *
                  generalize w3.heap.size = X at *
                  clear g3
                  obtain ⟨q0, q1, q2, qf⟩ := b4.rf.cells him
                  obtain ⟨x0, x1, x2, xf⟩ := hX.c3
                  have C26 := Lib.hid (fun w' k => depth_some _ _ m t c d i w' (show LinesAt w' (w.heap.size + 1) w.heap.size m t c d from k) him)
                  have C29 := Lib.hid (fun w' k => next_some _ _ m t c d i w' (show LinesAt w' (w.heap.size + 1) w.heap.size m t c d from k) him)
                  have R36 := Lib.hid (fun w' k => rnext_some r m t c d i w' k him)
                  generalize t i = ti at *
                  generalize c i = ci at *
                  generalize d i = di at *
                  generalize nextI t c d i = nx at *
                  go_upto_region 20 with (go_at_call 35; refine (R35.out _).mono ?_; rintro e w' ⟨rfl, rfl⟩)
                  have hX' : Blk (((W.setCell ⟨X, 0, none⟩ (.bool ti)).setCell ⟨X, 1, none⟩ (.bool ci)).setCell ⟨X, 2, none⟩ (.int .i64 di)) X 65 #[.bool ti, .bool ci, .int .i64 di] := by
                    have := ((hX.st 0 (.bool ti)).st 1 (.bool ci)).st 2 (.int .i64 di)
                    simpa using this
                  have k5 : Ch [X] W (((W.setCell ⟨X, 0, none⟩ (.bool ti)).setCell ⟨X, 1, none⟩ (.bool ci)).setCell ⟨X, 2, none⟩ (.int .i64 di)) := (((Ch.refl _ _).st (by simp) _).st (by simp) _).st (by simp) _
                  clear x0 x1 x2 xf q0 q1 q2 qf hX
                  generalize ((W.setCell ⟨X, 0, none⟩ (.bool ti)).setCell ⟨X, 1, none⟩ (.bool ci)).setCell ⟨X, 2, none⟩ (.int .i64 di) = V at *
                  have b5 := b4.ch k5 (by simp; omega) (by simp; omega) (by simp; omega)
                  have T5 : Twin w V (w.heap.size + 1) w.heap.size r m := ⟨T4.1.chs k5 (by simp; omega), T4.2.1, T4.2.2.1, _, _, _, b5⟩
                  obtain ⟨x0, x1, x2, xf⟩ := hX'.c3
                  have hti : (ti != ti) = false := by simp
                  have hci : (ci != ci) = false := by simp
                  have hdi : (di != di) = false := by simp
                  have hnx : (nx != nx) = false := by simp
                  go_quiet ((first
                    | (go_at_call 26; exact quietS (C26.out _ (b5.l.gr ((Gr.refl _).drewN _))))
                    | (go_at_call 29; exact quietS (C29.out _ (b5.l.gr ((Gr.refl _).drewN _))))
                    | (go_at_call 36; exact quietS (R36.out _ (b5.rf.gr ((Gr.refl _).drewN _))))))
                  go_wp2
                  go_roundw
                  case rel => exact ⟨q + 1, by omega, by have := HI.out; go_num, T5.gr ((Gr.refl _).drewN _)⟩
                  case measure => simp [intOf]; have := HI.out; omega
                · have R35 := Lib.hid (fun w' => rhas_no (some ⟨r, 0, none⟩) m _ w' hx)
                  have R36 := Lib.hid (fun w' => rnext_no (some ⟨r, 0, none⟩) m _ w' hx)
                  have hN : ∀ w', LinesAt w' (w.heap.size + 1) w.heap.size m t c d → NoLine w' (some ⟨w.heap.size + 1, 0, none⟩) ((q : Int) - 1) := fun w' l => .inr ⟨_, _, m, t, c, d, rfl, l, hx⟩
                  have C34 := Lib.hid (waits_none _ _ wr (hN wr b.l))
                  have C26 := Lib.hid (fun w' l => depth_none _ _ w' (hN w' l))
                  have C29 := Lib.hid (fun w' l => next_none _ _ w' (hN w' l))
                  clear hN
                  have hxx : (q : Int) - 1 = -1 ∨ (q : Int) - 1 = m := by omega
                  have HQ := Lib.hid (show ∃ z : Int, z = (q : Int) - 1 ∧ -1 ≤ z ∧ z ≤ m from ⟨_, rfl, by omega, by omega⟩)
                  obtain ⟨z, hz, hz1, hz2⟩ := HQ.out
                  rw [← hz] at hd3 R35 R36 C34 C26 C29 ⊢
                  have HZ := Lib.hid (And.intro hz hxx)
                  clear hz hxx hx
                  go_wp2_with fail
                  with_reducible refine (C34.out).mono ?_
                  rintro e w3 ⟨rfl, rfl⟩
                  go_upto_region 18 with fail
                  have hX := Blk.new wr 65 #[.bool false, .bool false, .int .i64 0]
                  have g4 : Gr wr (wr.alloc (.cells #[.bool false, .bool false, .int .i64 0] 65)) := (Gr.refl _).al _
                  have b4 := b.gr g4
                  have T4 := T.gr g4
                  have HB := Lib.hid (And.intro b T)
                  clear b T
                  generalize wr.alloc (.cells #[.bool false, .bool false, .int .i64 0] 65) = W at *
                  generalize wr.heap.size = X at *
                  obtain ⟨x0, x1, x2, xf⟩ := hX.c3
                  go_upto_region 20 with (go_at_call 35; refine (R35.out _).mono ?_; rintro e w' ⟨rfl, rfl⟩)
                  go_quiet ((first
                    | (go_at_call 26; exact quietS (C26.out _ (b4.l.gr ((Gr.refl _).drewN _))))
                    | (go_at_call 29; exact quietS (C29.out _ (b4.l.gr ((Gr.refl _).drewN _))))
                    | (go_at_call 36; exact quietS (R36.out _))))
                  go_wp2
                  go_roundw
                  case rel => exact ⟨q + 1, by omega, by have := HZ.out.1; go_num, T4.gr ((Gr.refl _).drewN _)⟩
                  case measure => simp [intOf]; have := HZ.out.1; omega
              · have hd3 : decide ((q : Int) - 1 ≤ (m : Int)) = false := by simp; omega
                go_wp2_with fail
                go_roundw
                case rel => exact ⟨k + 1, by omega, by omega, by go_num, T⟩
                case measure => simp [intOf]; omega
      · have hd2 : decide ((k : Int) < 40) = false := by simp; omega
        go_wp2_with (go_at_call 30; refine (awake14_any _).mono ?_; rintro e w9 ⟨rfl, g9⟩)
        go_ret
        exact ⟨rfl, T.1.tr g9⟩
    · have hd : decide ((k : Int) < (len : Int)) = false := by simpa using hlt
      go_wp2_with (go_at_call 30; refine (awake14_any _).mono ?_; rintro e w9 ⟨rfl, g9⟩)
      go_ret
      exact ⟨rfl, T.1.tr g9⟩
end Go.Proofs.Ytfppmdnpjihcpaa
