/- The walk of the law WheelJust of chapter 19 (wheel): it returns true for every input, and changes nothing that was there. -/
import Derived.Test.YtbeoomjcipbjjaaWl16
namespace Go.Proofs.Ytbeoomjcipbjjaa
open Go.RowKit
set_option linter.unusedVariables false
theorem el29 : Elem Try.prog 29 4 (.bool false) 1 1 := ⟨Try.underlying29, by kernel_rfl, rfl, by decide⟩
theorem WA.ne {w : World} {g : Nat} {S : List Nat} {s : TS} (h : WA w g S s) {A : Nat} {t : TypeId} {cs : Array Value} (hA : Blk w A t cs) (h1 : t ≠ 86) (h2 : t ≠ 3) : A ∉ S := fun hm => by
  obtain ⟨L, V, m, rfl, _⟩ := h.ex
  rcases mem_wfp.1 hm with rfl | ⟨j, hj, hx⟩
  · have := m.hdr; unfold Arr at this; unfold Blk at this hA; rw [this] at hA; simp at hA; exact h1 hA.2.symm
  · exact (m.sl j hj).ne hA h2 hx
/-- The marks. -/
def mkF (kk : Nat → Int) (n : Nat) (t : Int) (l : List Int) (i : Nat) : Nat → Value := fun p => .bool (RJ kk n t l i p)
/-- 64 marks, none set. -/
def marks0 : Array Value := recs 64 1 fun _ k => (Value.bool false).cells[k]!
theorem marks0_is (zs : List Int) (n : Nat) : marks0 = (tab 64 (mkF (kkT zs) n 0 [] 0)).toArray := by
  unfold marks0 recs
  congr 1
  refine tab_congr _ _ _ fun j hj => ?_
  rw [Nat.div_one, Nat.mod_one]
  show (Value.bool false) = Value.bool (RJ _ _ _ _ _ _)
  rw [show RJ (kkT zs) n 0 [] 0 j = false by simp only [RJ, List.take_nil, List.not_mem_nil, or_false, decide_eq_false_iff_not]; have := kkT_b zs j; omega]
theorem marks0_arr (w : World) (zs : List Int) (n : Nat) : Arr (w.alloc (.cells marks0 4)) w.heap.size 4 64 (mkF (kkT zs) n 0 [] 0) := by
  rw [marks0_is zs n]; exact Blk.new w 4 _
theorem make64 (w : World) : (Instr.makeSlice 29 (.int .i64 64) (.int .i64 64)).run Try.prog w = .ok (.slice (some ⟨w.heap.size, 0, none⟩) 64 64) (w.alloc (.cells marks0 4)) := run_make_recs el29 64 (by omega) (by omega) w
theorem mkF_end {kk : Nat → Int} {n : Nat} {t : Int} {l : List Int} (h : DueJ kk n t l) : mkF kk n t l l.length = mkF kk n (t + 1) [] 0 := funext fun q => congrArg Value.bool (RJ_end h q)
theorem mkF_step {kk : Nat → Int} {n : Nat} {t : Int} {l : List Int} (h : DueJ kk n t l) {i p : Nat} (hi : i < l.length) (hp : l.getD i 0 = p) : updF (mkF kk n t l i) p (.bool true) = mkF kk n t l (i + 1) := funext fun q => by
  show (if q = p then Value.bool true else Value.bool (RJ kk n t l i q)) = Value.bool (RJ kk n t l (i + 1) q)
  rw [← RJ_step h hi hp q]
  by_cases e : q = p <;> simp [e]
set_option maxRecDepth 100000 in
set_option maxHeartbeats 1000000 in
theorem just_rest (b : Int) (a : Option Addr) (cap : Nat) (zs : List Int) (w : World) (hb : 0 ≤ b ∧ b ≤ 9223372036854775808) (h : SliceIn .u16 w a cap zs) (x : Int) (hx : (if 9223372036854775808 < x then x - 9223372036854775808 else x) = b) (hxb : 0 ≤ x ∧ x ≤ 18446744073709551615) :
    Calls Try.prog 3 #[.int .u64 x, .slice a zs.length cap] w fun e w' => e = .returned (.bool true) ∧ Gr w w' := by
  obtain ⟨hlen, hcap, hrow, hwf, hnil⟩ := h
  have hz : ∀ i, i < zs.length → 0 ≤ zs.getD i 0 ∧ zs.getD i 0 ≤ 65535 := fun i hi => by
    have e : zs.getD i 0 = zs[i] := by simp [List.getD, hi]
    rw [e]; exact bd_u16 (hwf _ (List.getElem_mem hi))
  have HR := Lib.hid (And.intro hrow hz)
  obtain ⟨n, hmin⟩ : ∃ n : Nat, min (zs.length : Int) 64 = n := ⟨min zs.length 64, by omega⟩
  have hn : n ≤ 64 ∧ n ≤ zs.length := by omega
  obtain ⟨hn1, hn2⟩ := hn
  have HM := Lib.hid hmin
  have hmk' := make64
  have HK := Lib.hid (kkT_b zs)
  have CN := Lib.hid (fun w => wnewA b w ⟨hb.1, by omega⟩)
  have HB := Lib.hid (And.intro hb hxb)
  clear hrow hwf hz hmin hnil hb hxb
  go_enter Try.func3, Try.ntmps3
  go_upto_if 17 with fail
  go_cut [0] (fun v wx => v = .int .u64 b ∧ w = wx)
  case first =>
    by_cases h1 : 9223372036854775808 < x
    · rw [if_pos h1] at hx
      have hd : decide (9223372036854775808 < x) = true := by simpa using h1
      have hu := HB.out
      go_wp2_with fail
      go_meet
      case rel => exact ⟨rfl, rfl⟩
    · rw [if_neg h1] at hx
      have hd : decide (9223372036854775808 < x) = false := by simpa using h1
      go_wp2_with fail
      go_meet
      case rel => exact ⟨rfl, rfl⟩
  case rest =>
    obtain ⟨rfl, rfl⟩ := hcut
    go_upto_region 4 with (go_at_call 11; refine (CN.out _).mono ?_; rintro e w1 ⟨rfl, S1, h1, g1, f1⟩)
    generalize w.heap.size = g at *
    rw [sJ_zero b (kkT zs)] at h1
    have H1 := Lib.hid (And.intro h1 (And.intro g1 f1))
    clear h1 g1 f1 CN hx
    go_upto_region 5 with fail
    rw [HM.out]
    go_wp2_with fail
    go_loopw [7, 8, 9] (fun m i _ wr => ∃ (q : Nat) (S : List Nat), q ≤ n ∧ i = .int .i64 q ∧ m = .int .u64 (mxJ (kkT zs) q) ∧ WA wr g S (sJ b (kkT zs) q) ∧ Gr w wr ∧ Foot w [] S) (fun _ i _ _ => n - (intOf i).toNat)
    case atStart => exact ⟨0, S1, by omega, rfl, rfl, H1.out.1, H1.out.2.1, H1.out.2.2⟩
    case round =>
      obtain ⟨q, S, hq, rfl, rfl, hwa, gr, fS⟩ := hrel
      have HH := Lib.hid (And.intro hwa (And.intro gr fS))
      clear hwa gr fS
      by_cases hlt : q < n
      · have i1 : (q : Int) < (n : Int) := by omega
        rcases HR.out.1 with h0 | ⟨bz, off, rfl, hc⟩
        · simp [h0] at hn2; omega
        have c1 := HH.out.2.1.cell_some (hc q (by omega))
        have i2 : (q : Int) < (zs.length : Int) := by omega
        have hz := HR.out.2 q (by omega)
        obtain ⟨hz1, hz2⟩ := hz
        have hkq : kkT zs q = zs.getD q 0 % 9000 + 1 := rfl
        have HKQ := Lib.hid hkq
        have HKb := HK.out q
        generalize zs.getD q 0 = z at *
        obtain ⟨he1, he2⟩ := sJ_set b (kkT zs) HK.out q (by omega)
        have CS := Lib.hid (wset g S (sJ b (kkT zs) q) q (b + kkT zs q) wr HH.out.1 (by have := HB.out; omega) (by show (q : Int) < _; omega))
        rw [he1, he2] at CS
        have HX := Lib.hid (show max (mxJ (kkT zs) q) (kkT zs q) = mxJ (kkT zs) (q + 1) from rfl)
        have hmb := (mxJ_b (kkT zs) HK.out q).2.1
        have hbb := HB.out.1
        clear hc he1 he2 H1 hmk'
        go_upto_region 10 with fail
        rw [← hkq]
        generalize kkT zs q = kq at *
        clear hkq
        go_wp2_with (go_at_call 12; refine (CS.out).mono ?_; rintro e w2 ⟨rfl, S2, h2, k2, f2⟩)
        go_roundw
        case rel => exact ⟨q + 1, S2, by omega, by go_num, by rw [← HX.out], h2, HH.out.2.1.new k2 HH.out.2.2, HH.out.2.2.tr f2 HH.out.2.1.size_le⟩
        case measure => simp [intOf]; omega
      · obtain rfl : q = n := by omega
        have i1 : decide ((q : Int) < (q : Int)) = false := by simp
        obtain ⟨hm0, hm1, hm2⟩ := mxJ_b (kkT zs) HK.out q
        have HMX := Lib.hid hm2
        generalize mxJ (kkT zs) q = mx at *
        clear hm2 H1
        rw [TJ_zero b (kkT zs) HK.out] at HH
        go_upto_region 14 with fail
        have HA := Lib.hid (marks0_arr wr zs q)
        have HG := Lib.hid (HH.out.2.1.al (.cells marks0 4))
        have HW := Lib.hid (HH.out.1.gr ((Gr.refl wr).al (.cells marks0 4)))
        have hR : w.heap.size ≤ wr.heap.size := HH.out.2.1.size_le
        have HF := Lib.hid HH.out.2.2
        clear HH
        generalize wr.alloc (.cells marks0 4) = W0 at *
        generalize wr.heap.size = R at *
        clear hmk'
        go_wp2_with fail
        go_loopw [11, 12, 13, 14] (fun t _ _ _ wx => ∃ (T : Int) (S : List Nat), 0 ≤ T ∧ T ≤ mx ∧ t = .int .u64 (T + 1) ∧ WA wx g S (TJ b (kkT zs) q T) ∧ Arr wx R 4 64 (mkF (kkT zs) q T [] 0) ∧ Gr w wx ∧ Foot w [] S) (fun t _ _ _ _ => (mx + 1 - intOf t).toNat)
        case atStart => exact ⟨0, S, by omega, hm0, rfl, HW.out, HA.out, HG.out, HF.out⟩
        case round =>
          obtain ⟨T, S2, hT0, hTm, rfl, hwa, har, gr, fS⟩ := hrel
          have HH := Lib.hid (And.intro hwa (And.intro har (And.intro gr fS)))
          clear hwa har gr fS HA HG HW HF
          by_cases hlt : T < mx
          · have i2 : decide (T + 1 ≤ mx) = true := by simp; omega
            have CT := Lib.hid (wturn g S2 (TJ b (kkT zs) q T) _ HH.out.1 (by show b + T < _; have := HB.out.1; omega))
            rw [TJ_turn b HB.out.1.1 (kkT zs) q T hT0] at CT
            go_upto_region 18 with (go_at_call 13; refine (CT.out).mono ?_; rintro e w5 ⟨v, l, S3, rfl, hdue, r1, wa1, k1, f1, d1, fv1⟩; have hl64 := hdue.len; obtain ⟨nb, kb, rfl, _, _⟩ := r1.len)
            have HD := Lib.hid (TJ_due b HB.out.1.1 (kkT zs) q hn1 T hT0 l hdue)
            have hRS2 := HH.out.1.ne HH.out.2.1 (by decide) (by decide)
            have HA5 := Lib.hid (HH.out.2.1.ch k1 hRS2)
            have HV := Lib.hid (And.intro r1 (r1.ne HA5.out (by decide)))
            have HW5 := Lib.hid (And.intro wa1 (And.intro (HH.out.2.2.1.new k1 HH.out.2.2.2) (HH.out.2.2.2.tr f1 HH.out.2.2.1.size_le)))
            clear hdue r1 wa1 k1 f1 d1 fv1 hRS2 CT HH
            go_wp2_with fail
            go_loopw [13, 14] (fun i _ wy => ∃ r : Nat, r ≤ l.length ∧ i = .int .i64 r ∧ Arr wy R 4 64 (mkF (kkT zs) q T l r) ∧ Ch [R] w5 wy) (fun i _ _ => l.length - (intOf i).toNat)
            case atStart => exact ⟨0, by omega, rfl, by
              have h := HA5.out
              exact h.congr (fun j _ => by show Value.bool (RJ _ _ _ _ _ _) = Value.bool (RJ _ _ _ _ _ _); simp [RJ]), Ch.refl _ _⟩
            case round =>
              obtain ⟨r, hr, rfl, har, hch⟩ := hrel
              have HY := Lib.hid (And.intro har hch)
              clear har hch
              by_cases hrl : r < l.length
              · have j1 : (r : Int) < (l.length : Int) := by omega
                have RS := HV.out.1.ch HY.out.2 (fun x hx hx2 => by simp at hx2; subst hx2; exact HV.out.2 hx)
                obtain ⟨bl, o, c, he, _, _, hc, _, _⟩ := RS.cells (by omega)
                cases he
                obtain ⟨p, hp1, hp2, hp3⟩ := HD.out.at_ r hrl
                have c1 := hc r hrl
                rw [hp1] at c1
                have c3 : _ = some (Value.bool false) := (HY.out.1.cell (i := p) (by omega)).trans (by show some (Value.bool (RJ _ _ _ _ _ _)) = _; rw [RJ_no HD.out hrl hp1])
                have fz := HY.out.1.frozen p
                rcases HR.out.1 with h0 | ⟨bz, off, rfl, hcz⟩
                · simp [h0] at hn2; omega
                have G5 : Gr w _ := HW5.out.2.1.chs HY.out.2 (fun x hx => by simp at hx; subst hx; exact hR)
                have c4 := G5.cell_some (hcz p (by omega))
                have hz := HR.out.2 p (by omega)
                have hkz : zs.getD p 0 % 9000 + 1 = T + 1 := hp3
                have k1 : (zs.getD p 0 % 9000 + 1 != T + 1) = false := by rw [hkz]; simp
                have j2 : (p : Int) < (64 : Int) := by omega
                have j3 : (p : Int) < (zs.length : Int) := by omega
                have j4 : decide ((q : Int) ≤ (p : Int)) = false := by simp; omega
                have j5 : decide ((p : Int) < 0) = false := by simp
                have HP := Lib.hid hp1
                have HN := Lib.hid (mkF_step HD.out hrl hp1)
                generalize zs.getD p 0 = z at *
                obtain ⟨hz1, hz2⟩ := hz
                clear hkz hp3 G5
                cases r with
                | zero =>
                  clear hcz hc RS
                  rw [Nat.add_zero] at c1
                  have j6 : decide ((0 : Int) < ((0 : Nat) : Int)) = false := rfl
                  go_wp2_with fail
                  go_roundw
                  case rel => exact ⟨1, by omega, by go_num, by rw [← HN.out]; exact HY.out.1.st p _, HY.out.2.st (by simp) _⟩
                  case measure => simp [intOf]; omega
                | succ r0 =>
                  have c5 := hc r0 (by omega)
                  have hup := HD.out.up r0 (r0 + 1) (by omega) hrl
                  rw [HP.out] at hup
                  have j6 : decide ((0 : Int) < ((r0 + 1 : Nat) : Int)) = true := by simp
                  have j7 : decide ((p : Int) ≤ l.getD r0 0) = false := by simpa using hup
                  have j8 : ((r0 + 1 : Nat) : Int) - 1 = (r0 : Int) := by omega
                  have j9 : (r0 : Int) < (l.length : Int) := by omega
                  generalize l.getD r0 0 = y at *
                  clear hcz hc RS hup
                  go_wp2_with fail
                  go_roundw
                  case rel => exact ⟨r0 + 1 + 1, by omega, by go_num, by rw [← HN.out]; exact HY.out.1.st p _, HY.out.2.st (by simp) _⟩
                  case measure => simp [intOf]; omega
              · obtain rfl : r = l.length := by omega
                go_wp2_with fail
                go_roundw
                case rel =>
                  have h1 := HY.out.1
                  rw [mkF_end HD.out] at h1
                  exact ⟨T + 1, S3, by omega, by omega, by go_num, HW5.out.1.ch HY.out.2 (fun x hx hx2 => by simp at hx2; subst hx2; exact HW5.out.1.ne HA5.out (by decide) (by decide) hx), h1, HW5.out.2.1.chs HY.out.2 (fun x hx => by simp at hx; subst hx; exact hR), HW5.out.2.2⟩
                case measure => simp [intOf]; omega
          · obtain rfl : T = mx := by omega
            have i2 : decide (T + 1 ≤ T) = false := by simp; omega
            go_wp2_with fail
            have HTA := Lib.hid (TJ_all b (kkT zs) q T HMX.out)
            go_loopw [15] (fun i wx => ∃ r : Nat, r ≤ q ∧ i = .int .i64 r ∧ wr = wx) (fun i _ => q - (intOf i).toNat)
            case atStart => exact ⟨0, by omega, rfl, rfl⟩
            case round =>
              obtain ⟨r, hr, rfl, rfl⟩ := hrel
              by_cases hrq : r < q
              · have c3 : _ = some (Value.bool true) := (HH.out.2.1.cell (i := r) (by omega)).trans (by
                  show some (Value.bool (RJ _ _ _ _ _ _)) = _
                  have := HMX.out r hrq
                  simp [RJ, hrq, this])
                have j2 : (r : Int) < (64 : Int) := by omega
                have j3 : decide ((r : Int) < (q : Int)) = true := by simp; omega
                go_wp2_with fail
                go_roundw
                case rel => exact ⟨r + 1, by omega, by go_num, trivial⟩
                case measure => simp [intOf]; omega
              · obtain rfl : r = q := by omega
                have CA := Lib.hid (wall g S2 _ _ HH.out.1)
                have CW := Lib.hid (awake19)
                have hbb := HB.out.1
                have hnow : (TJ b (kkT zs) r T).now = b + T := rfl
                go_wp2_with (first | (go_at_call 14; refine (CA.out).mono ?_; rintro e w6 ⟨v6, l6, rfl, hall, r6, g6⟩; obtain rfl := HTA.out l6 hall; obtain ⟨nc, kc, rfl, _, _⟩ := r6.len; have HW6 := Lib.hid (And.intro (HH.out.1.gr g6) g6); clear r6 g6 hall) | (go_at_call 15; obtain ⟨L6, V6, m6, _, _⟩ := HW6.out.1.ex; refine (wnow g _ L6 V6 _ m6).mono ?_; rintro e w7 ⟨rfl, rfl⟩; rw [hnow]) | (go_at_call 16; refine (CW.out _).mono ?_; rintro e w8 ⟨rfl, g8⟩))
                go_ret
                exact ⟨rfl, HH.out.2.2.1.tr (HW6.out.2.tr g8)⟩
theorem wheelJust_walk (x : Int) (a : Option Addr) (cap : Nat) (zs : List Int) (w : World) (hx : 0 ≤ x ∧ x ≤ 18446744073709551615) (h : SliceIn .u16 w a cap zs) :
    Calls Try.prog 3 #[.int .u64 x, .slice a zs.length cap] w fun e w' => e = .returned (.bool true) ∧ Gr w w' :=
  just_rest _ a cap zs w (by split <;> omega) h x rfl hx
end Go.Proofs.Ytbeoomjcipbjjaa
