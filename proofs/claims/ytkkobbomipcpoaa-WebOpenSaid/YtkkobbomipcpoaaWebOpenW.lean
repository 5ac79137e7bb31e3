/- The walk of the law WebOpen of chapter 24 (web): it returns true for every input, and changes nothing that was there. -/
import Derived.Test.YtkkobbomipcpoaaWebPlaysW
import Derived.Test.YtkkobbomipcpoaaWebO
namespace Go.Proofs.Ytkkobbomipcpoaa
open Go.RowKit
set_option linter.unusedVariables false
/-- Both webs, of 8 threads and 6 locks, without a ring. -/
structure OpenAt (w : World) (g a b h : Nat) (vo vl vj : Value) (s : WebS) : Prop where
  both : Both w g a b h vo vl vj s
  n8 : s.n = 8
  m6 : s.m = 6
  op : Open s.next
theorem actS_nm (s : WebS) (k x y : Int) : (actS s k x y).n = s.n ∧ (actS s k x y).m = s.m := by
  unfold actS WebS.ownS WebS.waitS
  split
  · split <;> exact ⟨rfl, rfl⟩
  · split
    · split <;> exact ⟨rfl, rfl⟩
    · split
      · split <;> exact ⟨rfl, rfl⟩
      · split <;> exact ⟨rfl, rfl⟩
theorem OpenAt.gr {w w' : World} {g a b h : Nat} {vo vl vj : Value} {s : WebS} (o : OpenAt w g a b h vo vl vj s) (c : Gr w w') : OpenAt w' g a b h vo vl vj s := ⟨o.both.gr c, o.n8, o.m6, o.op⟩
theorem last_next {f : Int → Int} {t : Int} {k : Nat} (F : First f t k) (h : Open f) (ht : t ≠ -1) : f (it f t k) = -1 := F.open h ht
theorem trail_last {f : Int → Int} {t : Int} (k : Nat) : (trail f t (k + 1)).getD k 0 = it f t (k + 1) := by simp [trail]
theorem open_act0 {s : WebS} (h : Open s.next) (A Z : Nat) (hA : A < s.m) (hZ : Z < s.n) (h1 : s.lk Z = -1) (h2 : s.jn Z = -1) : Open (actS s 0 A Z).next := by
  have e : actS s 0 A Z = s.setOw A Z := by
    show s.ownS A Z = s.setOw A Z
    unfold WebS.ownS
    rw [if_pos (by simp [WebS.mayOwn, WebS.lo, WebS.th]; omega)]
    rfl
  rw [e]
  exact WebS.open_setOw h A Z (by simp [WebS.lkOf, WebS.th, hZ, h1]) (by simp [WebS.jnOf, WebS.th, hZ, h2])
theorem open_act1 {s : WebS} (h : Open s.next) (A Z : Nat) (hA : A < s.n) (hZ : Z < s.m) (hc : ∀ k, it s.next (s.owner Z) k ≠ (A : Int)) : Open (actS s 1 A Z).next := by
  have e : actS s 1 A Z = s.setW A Z (-1) := by
    show s.waitS (s.lo Z && s.th A) A Z (-1) = _
    unfold WebS.waitS
    rw [if_pos (by simp [WebS.lo, WebS.th]; omega)]
    rfl
  rw [e]
  exact WebS.open_setW h A Z (-1) hA (by rw [if_pos (by omega)]; exact hc)
theorem open_act2 {s : WebS} (h : Open s.next) (A Z : Nat) (hA : A < s.n) (hZ : Z < s.n) (hc : ∀ k, it s.next (Z : Int) k ≠ (A : Int)) : Open (actS s 2 A Z).next := by
  have e : actS s 2 A Z = s.setW A (-1) Z := by
    show s.waitS (s.th Z && s.th A) A (-1) Z = _
    unfold WebS.waitS
    rw [if_pos (by simp [WebS.th]; omega)]
    rfl
  rw [e]
  exact WebS.open_setW h A (-1) Z hA (by rw [if_neg (by simp)]; exact hc)
theorem open_act3 {s : WebS} (h : Open s.next) (A Z : Nat) (hA : A < s.n) : Open (actS s 3 A Z).next := by
  have e : actS s 3 A Z = s.setW A (-1) (-1) := by
    show s.waitS (s.th A) A (-1) (-1) = _
    unfold WebS.waitS
    rw [if_pos (by simp [WebS.th]; omega)]
    rfl
  rw [e]
  exact WebS.open_clear h A hA
/-- Behind the switch: an act that makes no ring. -/
def Ready (w W : World) (g a b h : Nat) (vo vl vj : Value) (X : Nat) (kd : Int) (A Z : Nat) : Prop :=
  ∃ s, OpenAt W g a b h vo vl vj s ∧ Open (actS s (kd % 4) A Z).next ∧ Gr w W ∧ Blk W X 42 #[.int .u8 kd, .int .i64 A, .int .i64 Z]
set_option maxRecDepth 100000 in
set_option maxHeartbeats 4000000 in
theorem webOpen_walk (ad : Option Addr) (len cap : Nat) (F : Nat → Nat → Value) (w : World) (h : RecsIn Try.prog 42 w ad len cap 3 F) :
    Calls Try.prog 4 #[.slice ad len cap] w fun e w' => e = .returned (.bool true) ∧ Gr w w' := by
  obtain ⟨hlen, hcap, hrow, hkind⟩ := h
  have hk0 : ∀ i, i < len → ∃ n, F i 0 = .int .u8 n ∧ 0 ≤ n ∧ n ≤ 255 := fun i hi => by
    obtain ⟨n, h1, h2⟩ := hkind 2 i 0 (some .u8) hi (by omega) (by kernel_rfl); exact ⟨n, h1, bd_u8 h2⟩
  have hk1 : ∀ i, i < len → ∃ n, F i 1 = .int .i64 n := fun i hi => by
    obtain ⟨n, h1, h2⟩ := hkind 2 i 1 (some .i64) hi (by omega) (by kernel_rfl); exact ⟨n, h1⟩
  have hk2 : ∀ i, i < len → ∃ n, F i 2 = .int .i64 n := fun i hi => by
    obtain ⟨n, h1, h2⟩ := hkind 2 i 2 (some .i64) hi (by omega) (by kernel_rfl); exact ⟨n, h1⟩
  have HK := Lib.hid (And.intro hk0 (And.intro hk1 hk2))
  have HR := Lib.hid hrow
  clear hkind hk0 hk1 hk2 hrow
  go_enter Try.func4, Try.ntmps4
  go_wp2_with fail
  refine (webNew_any 8 6 _).mono ?_
  rintro e w1 ⟨g, a, b, rfl, l1, g1, k1⟩
  go_wp2_with fail
  refine (rnew 8 6 _).mono ?_
  rintro e w2 ⟨h, vo, vl, vj, rfl, r2, g2, k2⟩
  have HS := Lib.hid (show ∀ x ∈ [a, b] ++ rows3 vo vl vj, w.heap.size ≤ x from fun x hx => by
    rcases List.mem_append.1 hx with hx | hx
    · exact k1 x (List.mem_cons_of_mem _ hx)
    · have := k2 x (List.mem_cons_of_mem _ hx); have := g1.size_le; omega)
  have HT := Lib.hid (And.intro (OpenAt.mk (both_new l1 r2 g2 k2) rfl rfl (webS0_open _ _)) (g1.tr g2))
  generalize webS0 (clampI 8 0 64).toNat (clampI 6 0 64).toNat = s0 at HT
  clear l1 g1 k1 r2 g2 k2
  go_wp2_with fail
  go_loopw [5] (fun i wr => ∃ (k : Nat) (s : WebS), k ≤ len ∧ k ≤ 60 ∧ i = .int .i64 k ∧ OpenAt wr g a b h vo vl vj s ∧ Gr w wr) (fun i _ => len - (intOf i).toNat)
  case atStart => exact ⟨0, s0, by omega, by omega, rfl, HT.out⟩
  case round =>
    obtain ⟨k, s, hk, hk40, rfl, O, gr⟩ := hrel
    clear HT
    by_cases hgo : k < len ∧ k < 60
    · obtain ⟨hlt, h40⟩ := hgo
      have hd : decide ((k : Int) < (len : Int)) = true := by simpa using hlt
      have hd2 : decide ((k : Int) < 60) = true := by simp; omega
      rcases HR.out with h0 | ⟨bz, off, rfl, hc⟩
      · omega
      obtain ⟨kd, e0, hkd⟩ := HK.out.1 k hlt
      obtain ⟨A, e1⟩ := HK.out.2.1 k hlt
      obtain ⟨Z, e2⟩ := HK.out.2.2 k hlt
      have c0 := gr.cell_some (hc k 0 hlt (by omega))
      have c1 := gr.cell_some (hc k 1 hlt (by omega))
      have c2 := gr.cell_some (hc k 2 hlt (by omega))
      rw [e0] at c0
      rw [e1] at c1
      rw [e2] at c2
      clear e0 e1 e2 hc
      simp only [Nat.add_zero] at c0
      have hXb := Blk.new wr 42 #[.int .u8 kd, .int .i64 A, .int .i64 Z]
      have g1 : Gr wr (wr.alloc (.cells #[.int .u8 kd, .int .i64 A, .int .i64 Z] 42)) := (Gr.refl wr).al _
      have hXn := O.both.inn
      have O1 := O.gr g1
      go_upto_region 7 with fail
      clear c0 c1 c2 O
      have GR := Lib.hid (gr.tr g1)
      have hXw : w.heap.size ≤ wr.heap.size := gr.size_le
      clear gr g1
      generalize wr.alloc (.cells #[.int .u8 kd, .int .i64 A, .int .i64 Z] 42) = W at *
      generalize wr.heap.size = X at *
      clear wr
      obtain ⟨x0, x1, x2, xf⟩ := hXb.c3
      have HX := Lib.hid (And.intro hXb hXn)
      have HO := Lib.hid O1
      clear hXb hXn O1
      by_cases hr : (0 ≤ A ∧ A ≤ 7) ∧ (0 ≤ Z ∧ Z ≤ 7)
      · obtain ⟨⟨hA0, hA7⟩, ⟨hZ0, hZ7⟩⟩ := hr
        obtain ⟨A, rfl⟩ := Int.eq_ofNat_of_zero_le hA0
        obtain ⟨Z, rfl⟩ := Int.eq_ofNat_of_zero_le hZ0
        have ta : decide (7 < (A : Int)) = false := by simp; omega
        have tz : decide (7 < (Z : Int)) = false := by simp; omega
        have hAn : A < s.n := by have := HO.out.n8; omega
        have hZn : Z < s.n := by have := HO.out.n8; omega
        have hk4 : kd % 4 = 0 ∨ kd % 4 = 1 ∨ kd % 4 = 2 ∨ kd % 4 = 3 := by omega
        go_upto_region 9 with fail
        obtain ⟨k4, hke⟩ : ∃ k4, kd % 4 = k4 := ⟨_, rfl⟩
        rw [hke] at hk4 ⊢
        have HKE := Lib.hid hke
        clear hke
        rcases hk4 with rfl | rfl | rfl | rfl
        · have hf : ∃ z1 z2 : Int, s.lk Z = z1 ∧ s.jn Z = z2 ∧ -1 ≤ z1 ∧ -1 ≤ z2 := ⟨_, _, rfl, rfl, (HO.out.both.l.ok.lk Z).1, (HO.out.both.l.ok.jn Z).1⟩
          obtain ⟨z1, z2, e1, e2, hz1, hz2⟩ := hf
          obtain ⟨b1, off1, cp1, hv1, k11, k12, lc, lf⟩ := HO.out.both.r.lk.at hZn
          obtain ⟨b2, off2, cp2, hv2, k21, k22, jc, jf⟩ := HO.out.both.r.jn.at hZn
          obtain ⟨d0, d1, d2, df⟩ := HO.out.both.r.hdr.c3
          rw [hv1] at d1
          rw [hv2] at d2
          rw [e1] at lc
          rw [e2] at jc
          have i2 : (Z : Int) < (s.n : Int) := by omega
          have HE := Lib.hid (And.intro e1 e2)
          clear e1 e2
          by_cases h5 : A ≤ 5
          · have t5 : decide (5 < (A : Int)) = false := by simp; omega
            by_cases hl : 0 ≤ z1
            · have t6 : decide (0 ≤ z1) = true := by simpa using hl
              go_upto_region 10 with fail
              go_quiet (fail)
              go_wp2_with fail
              go_roundw
              case rel => exact ⟨k + 1, s, by omega, by omega, by go_num, HO.out.gr ((Gr.refl _).drewN _), GR.out.drewN _⟩
              case measure => simp [intOf]; omega
            · have t6 : decide (0 ≤ z1) = false := by simpa using hl
              by_cases hj : 0 ≤ z2
              · have t7 : decide (0 ≤ z2) = true := by simpa using hj
                go_upto_region 10 with fail
                go_quiet (fail)
                go_wp2_with fail
                go_roundw
                case rel => exact ⟨k + 1, s, by omega, by omega, by go_num, HO.out.gr ((Gr.refl _).drewN _), GR.out.drewN _⟩
                case measure => simp [intOf]; omega
              · have t7 : decide (0 ≤ z2) = false := by simpa using hj
                go_upto_region 10 with fail
                go_quiet (fail)
                have RD : Ready w (W.drewN nq) g a b h vo vl vj X kd A Z := ⟨s, HO.out.gr ((Gr.refl _).drewN _), by rw [HKE.out]; exact open_act0 HO.out.op A Z (by have := HO.out.m6; omega) hZn (by have := HE.out.1; omega) (by have := HE.out.2; omega), GR.out.drewN _, HX.out.1.drewN _⟩
                generalize W.drewN nq = V at *
                go_upto_region 21 with fail
                obtain ⟨s2, O2, hop, G2, hX2⟩ := RD
                obtain ⟨y0, y1, y2, yf⟩ := hX2.c3
                have CD := Lib.hid (does24 g a b h vo vl vj s2 _ kd A Z O2.both hkd)
                have hnm := actS_nm s2 (kd % 4) A Z
                have hn8 := O2.n8
                have hm6 := O2.m6
                clear O2 hX2
                generalize actS s2 (kd % 4) A Z = s3 at *
                rw [hn8] at hnm
                rw [hm6] at hnm
                have C27 := Lib.hid (fun w' (b' : Both w' g a b h vo vl vj s3) => ring_any g a b s3 w' b'.l)
                rw [WebS.ring_open hop] at C27
                go_wp2_with (first
                  | (go_at_call 26; refine (CD.out).mono ?_; rintro e w5 ⟨rfl, b5, ch5⟩; have G5 := G2.chs ch5 HS.out)
                  | (go_at_call 27; refine (C27.out _ b5).mono ?_; rintro e w6 ⟨rfl, g6⟩))
                have HQ := Lib.hid (And.intro (OpenAt.mk (b5.gr g6) hnm.1 hnm.2 hop) (G5.tr g6))
                clear C27 CD b5 g6 G5 ch5 hop hnm
                go_loopw [8] (fun t wr => ∃ q : Nat, q ≤ 8 ∧ t = .int .i64 q ∧ OpenAt wr g a b h vo vl vj s3 ∧ Gr w wr) (fun t _ => 8 - (intOf t).toNat)
                case atStart => exact ⟨0, by omega, rfl, HQ.out⟩
                case round =>
                  obtain ⟨q, hq, rfl, O, gr⟩ := hrel
                  clear HQ
                  by_cases hq8 : q < 8
                  · have tq : decide ((q : Int) < 8) = true := by simp; omega
                    have C28 := Lib.hid (chain_any g a b s3 wr O.both.l q)
                    go_upto_region 28 with (go_at_call 28; refine (C28.out).mono ?_; rintro e w7 ⟨k7, F7, v7, rfl, sl7, _, g7⟩)
                    have C29 := Lib.hid (fun w' (g' : Gr wr w') => next_any g a b s3 w' (O.both.l.gr g') (it s3.next q k7))
                    have C30 := Lib.hid (fun w' (g' : Gr wr w') => rnext h vo vl vj s3 w' (O.both.r.gr g') (it s3.next q k7))
                    rw [last_next F7 O.op (by omega)] at C29 C30
                    have hkl : k7 ≤ s3.n := F7.no.le (WebS.next_bd O.both.l.ok)
                    have hn64 := O.both.l.ok.n64
                    cases k7 with
                    | zero =>
                      obtain ⟨av, cpv, rfl, _, _⟩ := sl7.len
                      rw [trail_length]
                      rw [show it s3.next (q : Int) 0 = (q : Int) from rfl] at C29 C30
                      go_wp2_with (first
                        | (go_at_call 29; refine (C29.out _ g7).mono ?_; rintro e w8 ⟨rfl, g8⟩)
                        | (go_at_call 30; refine (C30.out _ (g7.tr g8)).mono ?_; rintro e w9 ⟨rfl, g9⟩))
                      go_roundw
                      case rel => exact ⟨q + 1, by omega, by go_num, O.gr ((g7.tr g8).tr g9), gr.tr ((g7.tr g8).tr g9)⟩
                      case measure => simp [intOf]; omega
                    | succ j =>
                      obtain ⟨b7, off7, cp7, rfl, h71, h72, hc7, _, _⟩ := sl7.cells (by rw [trail_length]; omega)
                      rw [trail_length] at h71 hc7 ⊢
                      have c7 := hc7 j (by omega)
                      rw [trail_last] at c7
                      have HIJ := Lib.hid (show ((j + 1 : Nat) : Int) - 1 = (j : Int) by omega)
                      have tj : decide ((0 : Int) < ((j + 1 : Nat) : Int)) = true := by rw [decide_eq_true_eq]; omega
                      clear hc7 sl7 F7
                      generalize it s3.next (q : Int) (j + 1) = lst7 at *
                      go_upto_region 29 with fail
                      first
                      | go_wp2_with (first
                        | (go_at_call 29; refine (C29.out _ g7).mono ?_; rintro e w8 ⟨rfl, g8⟩)
                        | (go_at_call 30; refine (C30.out _ (g7.tr g8)).mono ?_; rintro e w9 ⟨rfl, g9⟩))
                      go_roundw
                      case rel => exact ⟨q + 1, by omega, by go_num, O.gr ((g7.tr g8).tr g9), gr.tr ((g7.tr g8).tr g9)⟩
                      case measure => simp [intOf]; omega
                  · have tq : decide ((q : Int) < 8) = false := by simp; omega
                    go_wp2_with fail
                    go_roundw
                    case rel => exact ⟨k + 1, s3, by omega, by omega, by go_num, O, gr⟩
                    case measure => simp [intOf]; omega
          · have t5 : decide (5 < (A : Int)) = true := by simp; omega
            go_upto_region 10 with fail
            go_quiet (fail)
            go_wp2_with fail
            go_roundw
            case rel => exact ⟨k + 1, s, by omega, by omega, by go_num, HO.out.gr ((Gr.refl _).drewN _), GR.out.drewN _⟩
            case measure => simp [intOf]; omega
        · by_cases h5 : Z ≤ 5
          · have t5 : decide (5 < (Z : Int)) = false := by simp; omega
            have C22 := Lib.hid (uclear g a b s W HO.out.both.l A)
            rw [show s.th (A : Int) = true by simp [WebS.th]; omega, show s.waitS true (A : Int) (-1) (-1) = s.setW A (-1) (-1) from rfl] at C22
            have C23 := Lib.hid (fun w' (c : WebTo W g a b (s.setW A (-1) (-1)) w') => rwait h vo vl vj s w' (HO.out.both.webTo c) A (-1) (-1) hAn (by omega) (by omega))
            go_upto_region 15 with (first
              | (go_at_call 22; refine (C22.out).mono ?_; rintro e w2 ⟨rfl, t2⟩; have y1 := (HX.out.1.ch t2.2 HX.out.2.1).c3.2.1)
              | (go_at_call 23; refine (C23.out _ t2).mono ?_; rintro e w3 ⟨rfl, t3⟩))
            have O3 : OpenAt w3 g a b h vo vl vj (s.setW A (-1) (-1)) := ⟨(HO.out.both.step t2 t3).1, HO.out.n8, HO.out.m6, WebS.open_clear HO.out.op A hAn⟩
            have hX3 : Blk w3 X 42 #[.int .u8 kd, .int .i64 A, .int .i64 Z] := (HX.out.1.ch t2.2 HX.out.2.1).ch t3.2 HX.out.2.2
            have G3 : Gr w w3 := GR.out.chs (HO.out.both.step t2 t3).2 HS.out
            clear t2 t3 y1 C22 C23 x0 x1 x2 xf
            obtain ⟨s1, hs1⟩ : ∃ s1, s1 = s.setW A (-1) (-1) := ⟨_, rfl⟩
            rw [← hs1] at O3
            have hA1 : A < s1.n := by have := O3.n8; omega
            have hZ1 : Z < s1.n := by have := O3.n8; omega
            obtain ⟨x0, x1, x2, xf⟩ := hX3.c3
            have HO3 := Lib.hid (And.intro O3 (And.intro G3 hX3))
            clear O3 G3 hX3 hs1
            have hZm : Z < s1.m := by have := HO3.out.1.m6; omega
            have C24 := Lib.hid (owner_any g a b s1 w3 HO3.out.1.both.l Z)
            have C25 := Lib.hid (fun o => closes_any g a b s1 w3 HO3.out.1.both.l A o)
            obtain ⟨o, ho⟩ : ∃ o, s1.owner Z = o := ⟨_, rfl⟩
            have hob : -1 ≤ o ∧ o < (s1.n : Int) := by
              rw [← ho]
              unfold WebS.owner
              split
              · exact HO3.out.1.both.l.ok.ow _
              · omega
            rw [ho] at C24
            have HOo := Lib.hid ho
            clear ho
            by_cases ho0 : 0 ≤ o
            · have t6 : decide (0 ≤ o) = true := by simpa using ho0
              have C25 := Lib.hid (C25.out o)
              cases hcl : s1.closes A o
              · rw [hcl] at C25
                have HCL := Lib.hid hcl
                clear hcl
                go_upto_region 21 with (first
                  | (go_at_call 24; refine (C24.out).mono ?_; rintro e w4 ⟨rfl, rfl⟩)
                  | (go_at_call 25; refine (C25.out).mono ?_; rintro e w4 ⟨rfl, g4⟩))
                have RD : Ready w w4 g a b h vo vl vj X kd A Z := ⟨s1, HO3.out.1.gr g4, by rw [HKE.out]; exact open_act1 HO3.out.1.op A Z hA1 hZm (by rw [HOo.out]; exact WebS.closes_no HO3.out.1.both.l.ok (by simp [WebS.th]; omega) (by simp [WebS.th]; omega) HCL.out), HO3.out.2.1.tr g4, HO3.out.2.2.gr g4⟩
                obtain ⟨s2, O2, hop, G2, hX2⟩ := RD
                obtain ⟨y0, y1, y2, yf⟩ := hX2.c3
                have CD := Lib.hid (does24 g a b h vo vl vj s2 _ kd A Z O2.both hkd)
                have hnm := actS_nm s2 (kd % 4) A Z
                have hn8 := O2.n8
                have hm6 := O2.m6
                clear O2 hX2
                generalize actS s2 (kd % 4) A Z = s3 at *
                rw [hn8] at hnm
                rw [hm6] at hnm
                have C27 := Lib.hid (fun w' (b' : Both w' g a b h vo vl vj s3) => ring_any g a b s3 w' b'.l)
                rw [WebS.ring_open hop] at C27
                go_wp2_with (first
                  | (go_at_call 26; refine (CD.out).mono ?_; rintro e w5 ⟨rfl, b5, ch5⟩; have G5 := G2.chs ch5 HS.out)
                  | (go_at_call 27; refine (C27.out _ b5).mono ?_; rintro e w6 ⟨rfl, g6⟩))
                have HQ := Lib.hid (And.intro (OpenAt.mk (b5.gr g6) hnm.1 hnm.2 hop) (G5.tr g6))
                clear C27 CD b5 g6 G5 ch5 hop hnm
                go_loopw [8] (fun t wr => ∃ q : Nat, q ≤ 8 ∧ t = .int .i64 q ∧ OpenAt wr g a b h vo vl vj s3 ∧ Gr w wr) (fun t _ => 8 - (intOf t).toNat)
                case atStart => exact ⟨0, by omega, rfl, HQ.out⟩
                case round =>
                  obtain ⟨q, hq, rfl, O, gr⟩ := hrel
                  clear HQ
                  by_cases hq8 : q < 8
                  · have tq : decide ((q : Int) < 8) = true := by simp; omega
                    have C28 := Lib.hid (chain_any g a b s3 wr O.both.l q)
                    go_upto_region 28 with (go_at_call 28; refine (C28.out).mono ?_; rintro e w7 ⟨k7, F7, v7, rfl, sl7, _, g7⟩)
                    have C29 := Lib.hid (fun w' (g' : Gr wr w') => next_any g a b s3 w' (O.both.l.gr g') (it s3.next q k7))
                    have C30 := Lib.hid (fun w' (g' : Gr wr w') => rnext h vo vl vj s3 w' (O.both.r.gr g') (it s3.next q k7))
                    rw [last_next F7 O.op (by omega)] at C29 C30
                    have hkl : k7 ≤ s3.n := F7.no.le (WebS.next_bd O.both.l.ok)
                    have hn64 := O.both.l.ok.n64
                    cases k7 with
                    | zero =>
                      obtain ⟨av, cpv, rfl, _, _⟩ := sl7.len
                      rw [trail_length]
                      rw [show it s3.next (q : Int) 0 = (q : Int) from rfl] at C29 C30
                      go_wp2_with (first
                        | (go_at_call 29; refine (C29.out _ g7).mono ?_; rintro e w8 ⟨rfl, g8⟩)
                        | (go_at_call 30; refine (C30.out _ (g7.tr g8)).mono ?_; rintro e w9 ⟨rfl, g9⟩))
                      go_roundw
                      case rel => exact ⟨q + 1, by omega, by go_num, O.gr ((g7.tr g8).tr g9), gr.tr ((g7.tr g8).tr g9)⟩
                      case measure => simp [intOf]; omega
                    | succ j =>
                      obtain ⟨b7, off7, cp7, rfl, h71, h72, hc7, _, _⟩ := sl7.cells (by rw [trail_length]; omega)
                      rw [trail_length] at h71 hc7 ⊢
                      have c7 := hc7 j (by omega)
                      rw [trail_last] at c7
                      have HIJ := Lib.hid (show ((j + 1 : Nat) : Int) - 1 = (j : Int) by omega)
                      have tj : decide ((0 : Int) < ((j + 1 : Nat) : Int)) = true := by rw [decide_eq_true_eq]; omega
                      clear hc7 sl7 F7
                      generalize it s3.next (q : Int) (j + 1) = lst7 at *
                      go_upto_region 29 with fail
                      first
                      | go_wp2_with (first
                        | (go_at_call 29; refine (C29.out _ g7).mono ?_; rintro e w8 ⟨rfl, g8⟩)
                        | (go_at_call 30; refine (C30.out _ (g7.tr g8)).mono ?_; rintro e w9 ⟨rfl, g9⟩))
                      go_roundw
                      case rel => exact ⟨q + 1, by omega, by go_num, O.gr ((g7.tr g8).tr g9), gr.tr ((g7.tr g8).tr g9)⟩
                      case measure => simp [intOf]; omega
                  · have tq : decide ((q : Int) < 8) = false := by simp; omega
                    go_wp2_with fail
                    go_roundw
                    case rel => exact ⟨k + 1, s3, by omega, by omega, by go_num, O, gr⟩
                    case measure => simp [intOf]; omega
              · rw [hcl] at C25
                clear hcl
                go_wp2_with (first
                  | (go_at_call 24; refine (C24.out).mono ?_; rintro e w4 ⟨rfl, rfl⟩)
                  | (go_at_call 25; refine (C25.out).mono ?_; rintro e w4 ⟨rfl, g4⟩))
                go_roundw
                case rel => exact ⟨k + 1, s1, by omega, by omega, by go_num, HO3.out.1.gr g4, HO3.out.2.1.tr g4⟩
                case measure => simp [intOf]; omega
            · have t6 : decide (0 ≤ o) = false := by simpa using ho0
              obtain rfl : o = -1 := by omega
              go_upto_region 21 with (first
                | (go_at_call 24; refine (C24.out).mono ?_; rintro e w4 ⟨rfl, rfl⟩))
              have RD : Ready w w3 g a b h vo vl vj X kd A Z := ⟨s1, HO3.out.1, by rw [HKE.out]; exact open_act1 HO3.out.1.op A Z hA1 hZm (fun j => by rw [HOo.out, it_one _ _ s1.next_neg]; omega), HO3.out.2.1, HO3.out.2.2⟩
              obtain ⟨s2, O2, hop, G2, hX2⟩ := RD
              obtain ⟨y0, y1, y2, yf⟩ := hX2.c3
              have CD := Lib.hid (does24 g a b h vo vl vj s2 _ kd A Z O2.both hkd)
              have hnm := actS_nm s2 (kd % 4) A Z
              have hn8 := O2.n8
              have hm6 := O2.m6
              clear O2 hX2
              generalize actS s2 (kd % 4) A Z = s3 at *
              rw [hn8] at hnm
              rw [hm6] at hnm
              have C27 := Lib.hid (fun w' (b' : Both w' g a b h vo vl vj s3) => ring_any g a b s3 w' b'.l)
              rw [WebS.ring_open hop] at C27
              go_wp2_with (first
                | (go_at_call 26; refine (CD.out).mono ?_; rintro e w5 ⟨rfl, b5, ch5⟩; have G5 := G2.chs ch5 HS.out)
                | (go_at_call 27; refine (C27.out _ b5).mono ?_; rintro e w6 ⟨rfl, g6⟩))
              have HQ := Lib.hid (And.intro (OpenAt.mk (b5.gr g6) hnm.1 hnm.2 hop) (G5.tr g6))
              clear C27 CD b5 g6 G5 ch5 hop hnm
              go_loopw [8] (fun t wr => ∃ q : Nat, q ≤ 8 ∧ t = .int .i64 q ∧ OpenAt wr g a b h vo vl vj s3 ∧ Gr w wr) (fun t _ => 8 - (intOf t).toNat)
              case atStart => exact ⟨0, by omega, rfl, HQ.out⟩
              case round =>
                obtain ⟨q, hq, rfl, O, gr⟩ := hrel
                clear HQ
                by_cases hq8 : q < 8
                · have tq : decide ((q : Int) < 8) = true := by simp; omega
                  have C28 := Lib.hid (chain_any g a b s3 wr O.both.l q)
                  go_upto_region 28 with (go_at_call 28; refine (C28.out).mono ?_; rintro e w7 ⟨k7, F7, v7, rfl, sl7, _, g7⟩)
                  have C29 := Lib.hid (fun w' (g' : Gr wr w') => next_any g a b s3 w' (O.both.l.gr g') (it s3.next q k7))
                  have C30 := Lib.hid (fun w' (g' : Gr wr w') => rnext h vo vl vj s3 w' (O.both.r.gr g') (it s3.next q k7))
                  rw [last_next F7 O.op (by omega)] at C29 C30
                  have hkl : k7 ≤ s3.n := F7.no.le (WebS.next_bd O.both.l.ok)
                  have hn64 := O.both.l.ok.n64
                  cases k7 with
                  | zero =>
                    obtain ⟨av, cpv, rfl, _, _⟩ := sl7.len
                    rw [trail_length]
                    rw [show it s3.next (q : Int) 0 = (q : Int) from rfl] at C29 C30
                    go_wp2_with (first
                      | (go_at_call 29; refine (C29.out _ g7).mono ?_; rintro e w8 ⟨rfl, g8⟩)
                      | (go_at_call 30; refine (C30.out _ (g7.tr g8)).mono ?_; rintro e w9 ⟨rfl, g9⟩))
                    go_roundw
                    case rel => exact ⟨q + 1, by omega, by go_num, O.gr ((g7.tr g8).tr g9), gr.tr ((g7.tr g8).tr g9)⟩
                    case measure => simp [intOf]; omega
                  | succ j =>
                    obtain ⟨b7, off7, cp7, rfl, h71, h72, hc7, _, _⟩ := sl7.cells (by rw [trail_length]; omega)
                    rw [trail_length] at h71 hc7 ⊢
                    have c7 := hc7 j (by omega)
                    rw [trail_last] at c7
                    have HIJ := Lib.hid (show ((j + 1 : Nat) : Int) - 1 = (j : Int) by omega)
                    have tj : decide ((0 : Int) < ((j + 1 : Nat) : Int)) = true := by rw [decide_eq_true_eq]; omega
                    clear hc7 sl7 F7
                    generalize it s3.next (q : Int) (j + 1) = lst7 at *
                    go_upto_region 29 with fail
                    first
                    | go_wp2_with (first
                      | (go_at_call 29; refine (C29.out _ g7).mono ?_; rintro e w8 ⟨rfl, g8⟩)
                      | (go_at_call 30; refine (C30.out _ (g7.tr g8)).mono ?_; rintro e w9 ⟨rfl, g9⟩))
                    go_roundw
                    case rel => exact ⟨q + 1, by omega, by go_num, O.gr ((g7.tr g8).tr g9), gr.tr ((g7.tr g8).tr g9)⟩
                    case measure => simp [intOf]; omega
                · have tq : decide ((q : Int) < 8) = false := by simp; omega
                  go_wp2_with fail
                  go_roundw
                  case rel => exact ⟨k + 1, s3, by omega, by omega, by go_num, O, gr⟩
                  case measure => simp [intOf]; omega
          · have t5 : decide (5 < (Z : Int)) = true := by simp; omega
            go_wp2_with fail
            go_roundw
            case rel => exact ⟨k + 1, s, by omega, by omega, by go_num, HO.out, GR.out⟩
            case measure => simp [intOf]; omega
        · skip
          have C22 := Lib.hid (uclear g a b s W HO.out.both.l A)
          rw [show s.th (A : Int) = true by simp [WebS.th]; omega, show s.waitS true (A : Int) (-1) (-1) = s.setW A (-1) (-1) from rfl] at C22
          have C23 := Lib.hid (fun w' (c : WebTo W g a b (s.setW A (-1) (-1)) w') => rwait h vo vl vj s w' (HO.out.both.webTo c) A (-1) (-1) hAn (by omega) (by omega))
          go_upto_region 20 with (first
            | (go_at_call 22; refine (C22.out).mono ?_; rintro e w2 ⟨rfl, t2⟩; have y1 := (HX.out.1.ch t2.2 HX.out.2.1).c3.2.1)
            | (go_at_call 23; refine (C23.out _ t2).mono ?_; rintro e w3 ⟨rfl, t3⟩))
          have O3 : OpenAt w3 g a b h vo vl vj (s.setW A (-1) (-1)) := ⟨(HO.out.both.step t2 t3).1, HO.out.n8, HO.out.m6, WebS.open_clear HO.out.op A hAn⟩
          have hX3 : Blk w3 X 42 #[.int .u8 kd, .int .i64 A, .int .i64 Z] := (HX.out.1.ch t2.2 HX.out.2.1).ch t3.2 HX.out.2.2
          have G3 : Gr w w3 := GR.out.chs (HO.out.both.step t2 t3).2 HS.out
          clear t2 t3 y1 C22 C23 x0 x1 x2 xf
          obtain ⟨s1, hs1⟩ : ∃ s1, s1 = s.setW A (-1) (-1) := ⟨_, rfl⟩
          rw [← hs1] at O3
          have hA1 : A < s1.n := by have := O3.n8; omega
          have hZ1 : Z < s1.n := by have := O3.n8; omega
          obtain ⟨x0, x1, x2, xf⟩ := hX3.c3
          have HO3 := Lib.hid (And.intro O3 (And.intro G3 hX3))
          clear O3 G3 hX3 hs1
          have C25 := Lib.hid (closes_any g a b s1 w3 HO3.out.1.both.l A Z)
          cases hcl : s1.closes A Z
          · rw [hcl] at C25
            have HCL := Lib.hid hcl
            clear hcl
            go_upto_region 21 with (first
              | (go_at_call 25; refine (C25.out).mono ?_; rintro e w4 ⟨rfl, g4⟩))
            have RD : Ready w w4 g a b h vo vl vj X kd A Z := ⟨s1, HO3.out.1.gr g4, by rw [HKE.out]; exact open_act2 HO3.out.1.op A Z hA1 hZ1 (WebS.closes_no HO3.out.1.both.l.ok (by simp [WebS.th]; omega) (by simp [WebS.th]; omega) HCL.out), HO3.out.2.1.tr g4, HO3.out.2.2.gr g4⟩
            obtain ⟨s2, O2, hop, G2, hX2⟩ := RD
            obtain ⟨y0, y1, y2, yf⟩ := hX2.c3
            have CD := Lib.hid (does24 g a b h vo vl vj s2 _ kd A Z O2.both hkd)
            have hnm := actS_nm s2 (kd % 4) A Z
            have hn8 := O2.n8
            have hm6 := O2.m6
            clear O2 hX2
            generalize actS s2 (kd % 4) A Z = s3 at *
            rw [hn8] at hnm
            rw [hm6] at hnm
            have C27 := Lib.hid (fun w' (b' : Both w' g a b h vo vl vj s3) => ring_any g a b s3 w' b'.l)
            rw [WebS.ring_open hop] at C27
            go_wp2_with (first
              | (go_at_call 26; refine (CD.out).mono ?_; rintro e w5 ⟨rfl, b5, ch5⟩; have G5 := G2.chs ch5 HS.out)
              | (go_at_call 27; refine (C27.out _ b5).mono ?_; rintro e w6 ⟨rfl, g6⟩))
            have HQ := Lib.hid (And.intro (OpenAt.mk (b5.gr g6) hnm.1 hnm.2 hop) (G5.tr g6))
            clear C27 CD b5 g6 G5 ch5 hop hnm
            go_loopw [8] (fun t wr => ∃ q : Nat, q ≤ 8 ∧ t = .int .i64 q ∧ OpenAt wr g a b h vo vl vj s3 ∧ Gr w wr) (fun t _ => 8 - (intOf t).toNat)
            case atStart => exact ⟨0, by omega, rfl, HQ.out⟩
            case round =>
              obtain ⟨q, hq, rfl, O, gr⟩ := hrel
              clear HQ
              by_cases hq8 : q < 8
              · have tq : decide ((q : Int) < 8) = true := by simp; omega
                have C28 := Lib.hid (chain_any g a b s3 wr O.both.l q)
                go_upto_region 28 with (go_at_call 28; refine (C28.out).mono ?_; rintro e w7 ⟨k7, F7, v7, rfl, sl7, _, g7⟩)
                have C29 := Lib.hid (fun w' (g' : Gr wr w') => next_any g a b s3 w' (O.both.l.gr g') (it s3.next q k7))
                have C30 := Lib.hid (fun w' (g' : Gr wr w') => rnext h vo vl vj s3 w' (O.both.r.gr g') (it s3.next q k7))
                rw [last_next F7 O.op (by omega)] at C29 C30
                have hkl : k7 ≤ s3.n := F7.no.le (WebS.next_bd O.both.l.ok)
                have hn64 := O.both.l.ok.n64
                cases k7 with
                | zero =>
                  obtain ⟨av, cpv, rfl, _, _⟩ := sl7.len
                  rw [trail_length]
                  rw [show it s3.next (q : Int) 0 = (q : Int) from rfl] at C29 C30
                  go_wp2_with (first
                    | (go_at_call 29; refine (C29.out _ g7).mono ?_; rintro e w8 ⟨rfl, g8⟩)
                    | (go_at_call 30; refine (C30.out _ (g7.tr g8)).mono ?_; rintro e w9 ⟨rfl, g9⟩))
                  go_roundw
                  case rel => exact ⟨q + 1, by omega, by go_num, O.gr ((g7.tr g8).tr g9), gr.tr ((g7.tr g8).tr g9)⟩
                  case measure => simp [intOf]; omega
                | succ j =>
                  obtain ⟨b7, off7, cp7, rfl, h71, h72, hc7, _, _⟩ := sl7.cells (by rw [trail_length]; omega)
                  rw [trail_length] at h71 hc7 ⊢
                  have c7 := hc7 j (by omega)
                  rw [trail_last] at c7
                  have HIJ := Lib.hid (show ((j + 1 : Nat) : Int) - 1 = (j : Int) by omega)
                  have tj : decide ((0 : Int) < ((j + 1 : Nat) : Int)) = true := by rw [decide_eq_true_eq]; omega
                  clear hc7 sl7 F7
                  generalize it s3.next (q : Int) (j + 1) = lst7 at *
                  go_upto_region 29 with fail
                  first
                  | go_wp2_with (first
                    | (go_at_call 29; refine (C29.out _ g7).mono ?_; rintro e w8 ⟨rfl, g8⟩)
                    | (go_at_call 30; refine (C30.out _ (g7.tr g8)).mono ?_; rintro e w9 ⟨rfl, g9⟩))
                  go_roundw
                  case rel => exact ⟨q + 1, by omega, by go_num, O.gr ((g7.tr g8).tr g9), gr.tr ((g7.tr g8).tr g9)⟩
                  case measure => simp [intOf]; omega
              · have tq : decide ((q : Int) < 8) = false := by simp; omega
                go_wp2_with fail
                go_roundw
                case rel => exact ⟨k + 1, s3, by omega, by omega, by go_num, O, gr⟩
                case measure => simp [intOf]; omega
          · rw [hcl] at C25
            clear hcl
            go_wp2_with (first
              | (go_at_call 25; refine (C25.out).mono ?_; rintro e w4 ⟨rfl, g4⟩))
            go_roundw
            case rel => exact ⟨k + 1, s1, by omega, by omega, by go_num, HO3.out.1.gr g4, HO3.out.2.1.tr g4⟩
            case measure => simp [intOf]; omega
        · go_upto_region 21 with fail
          have RD : Ready w W g a b h vo vl vj X kd A Z := ⟨s, HO.out, by rw [HKE.out]; exact open_act3 HO.out.op A Z hAn, GR.out, HX.out.1⟩
          obtain ⟨s2, O2, hop, G2, hX2⟩ := RD
          obtain ⟨y0, y1, y2, yf⟩ := hX2.c3
          have CD := Lib.hid (does24 g a b h vo vl vj s2 _ kd A Z O2.both hkd)
          have hnm := actS_nm s2 (kd % 4) A Z
          have hn8 := O2.n8
          have hm6 := O2.m6
          clear O2 hX2
          generalize actS s2 (kd % 4) A Z = s3 at *
          rw [hn8] at hnm
          rw [hm6] at hnm
          have C27 := Lib.hid (fun w' (b' : Both w' g a b h vo vl vj s3) => ring_any g a b s3 w' b'.l)
          rw [WebS.ring_open hop] at C27
          go_wp2_with (first
            | (go_at_call 26; refine (CD.out).mono ?_; rintro e w5 ⟨rfl, b5, ch5⟩; have G5 := G2.chs ch5 HS.out)
            | (go_at_call 27; refine (C27.out _ b5).mono ?_; rintro e w6 ⟨rfl, g6⟩))
          have HQ := Lib.hid (And.intro (OpenAt.mk (b5.gr g6) hnm.1 hnm.2 hop) (G5.tr g6))
          clear C27 CD b5 g6 G5 ch5 hop hnm
          go_loopw [8] (fun t wr => ∃ q : Nat, q ≤ 8 ∧ t = .int .i64 q ∧ OpenAt wr g a b h vo vl vj s3 ∧ Gr w wr) (fun t _ => 8 - (intOf t).toNat)
          case atStart => exact ⟨0, by omega, rfl, HQ.out⟩
          case round =>
            obtain ⟨q, hq, rfl, O, gr⟩ := hrel
            clear HQ
            by_cases hq8 : q < 8
            · have tq : decide ((q : Int) < 8) = true := by simp; omega
              have C28 := Lib.hid (chain_any g a b s3 wr O.both.l q)
              go_upto_region 28 with (go_at_call 28; refine (C28.out).mono ?_; rintro e w7 ⟨k7, F7, v7, rfl, sl7, _, g7⟩)
              have C29 := Lib.hid (fun w' (g' : Gr wr w') => next_any g a b s3 w' (O.both.l.gr g') (it s3.next q k7))
              have C30 := Lib.hid (fun w' (g' : Gr wr w') => rnext h vo vl vj s3 w' (O.both.r.gr g') (it s3.next q k7))
              rw [last_next F7 O.op (by omega)] at C29 C30
              have hkl : k7 ≤ s3.n := F7.no.le (WebS.next_bd O.both.l.ok)
              have hn64 := O.both.l.ok.n64
              cases k7 with
              | zero =>
                obtain ⟨av, cpv, rfl, _, _⟩ := sl7.len
                rw [trail_length]
                rw [show it s3.next (q : Int) 0 = (q : Int) from rfl] at C29 C30
                go_wp2_with (first
                  | (go_at_call 29; refine (C29.out _ g7).mono ?_; rintro e w8 ⟨rfl, g8⟩)
                  | (go_at_call 30; refine (C30.out _ (g7.tr g8)).mono ?_; rintro e w9 ⟨rfl, g9⟩))
                go_roundw
                case rel => exact ⟨q + 1, by omega, by go_num, O.gr ((g7.tr g8).tr g9), gr.tr ((g7.tr g8).tr g9)⟩
                case measure => simp [intOf]; omega
              | succ j =>
                obtain ⟨b7, off7, cp7, rfl, h71, h72, hc7, _, _⟩ := sl7.cells (by rw [trail_length]; omega)
                rw [trail_length] at h71 hc7 ⊢
                have c7 := hc7 j (by omega)
                rw [trail_last] at c7
                have HIJ := Lib.hid (show ((j + 1 : Nat) : Int) - 1 = (j : Int) by omega)
                have tj : decide ((0 : Int) < ((j + 1 : Nat) : Int)) = true := by rw [decide_eq_true_eq]; omega
                clear hc7 sl7 F7
                generalize it s3.next (q : Int) (j + 1) = lst7 at *
                go_upto_region 29 with fail
                first
                | go_wp2_with (first
                  | (go_at_call 29; refine (C29.out _ g7).mono ?_; rintro e w8 ⟨rfl, g8⟩)
                  | (go_at_call 30; refine (C30.out _ (g7.tr g8)).mono ?_; rintro e w9 ⟨rfl, g9⟩))
                go_roundw
                case rel => exact ⟨q + 1, by omega, by go_num, O.gr ((g7.tr g8).tr g9), gr.tr ((g7.tr g8).tr g9)⟩
                case measure => simp [intOf]; omega
            · have tq : decide ((q : Int) < 8) = false := by simp; omega
              go_wp2_with fail
              go_roundw
              case rel => exact ⟨k + 1, s3, by omega, by omega, by go_num, O, gr⟩
              case measure => simp [intOf]; omega
      · have hds : decide (A < 0) = true ∨ (decide (A < 0) = false ∧ decide (7 < A) = true) ∨ (decide (A < 0) = false ∧ decide (7 < A) = false ∧ decide (Z < 0) = true) ∨ (decide (A < 0) = false ∧ decide (7 < A) = false ∧ decide (Z < 0) = false ∧ decide (7 < Z) = true) := by
          simp only [decide_eq_true_eq, decide_eq_false_iff_not]
          omega
        clear hr
        rcases hds with t1 | ⟨t1, t2⟩ | ⟨t1, t2, t3⟩ | ⟨t1, t2, t3, t4⟩
        all_goals
          go_wp2_with fail
          go_roundw
          case rel => exact ⟨k + 1, s, by omega, by omega, by go_num, HO.out, GR.out⟩
          case measure => simp [intOf]; omega
    · have hds : (k < len ∧ decide ((k : Int) < 60) = false) ∨ ¬ k < len := by
        by_cases hlt : k < len
        · exact .inl ⟨hlt, by simp; omega⟩
        · exact .inr hlt
      clear hgo O
      rcases hds with ⟨hd, hd2⟩ | hd
      all_goals
        go_wp2_with (go_at_call 31; refine (awake24_any _).mono ?_; rintro e w9 ⟨rfl, g9⟩)
        go_ret
        exact ⟨rfl, gr.tr g9⟩
end Go.Proofs.Ytkkobbomipcpoaa
