/- Chapter 24 (web): the web and the document's web, side by side: all that they tell. -/
import Derived.Test.YtkkobbomipcpoaaWebD
namespace Go.Proofs.Ytkkobbomipcpoaa
open Go.RowKit
set_option linter.unusedVariables false
set_option maxHeartbeats 1000000
theorem WebS.on_le {s : WebS} (x : Int) : (s.on x).length ≤ s.n := by
  unfold WebS.on
  split
  · exact onL_le _ _ _
  · simp
set_option maxRecDepth 100000 in
theorem tells24 (g a b h : Nat) (vo vl vj : Value) (s : WebS) (w : World) (B : Both w g a b h vo vl vj s) : Calls Try.prog 40 #[.pointer (some ⟨g, 0, none⟩), .pointer (some ⟨h, 0, none⟩)] w fun e w' => e = .returned (.bool true) ∧ Gr w w' := by
  have hn64 := B.l.ok.n64
  have hm64 := B.l.ok.m64
  have HB := Lib.hid B
  obtain ⟨ao, co, hvo, ho1, ho2⟩ := B.r.ow.hd
  obtain ⟨al, cl, hvl, hl1, hl2⟩ := B.r.lk.hd
  have HD := Lib.hid B.r.hdr
  clear B
  go_enter Try.func40, Try.ntmps40
  go_wp2_with fail
  go_loopw [5] (fun v wr => ∃ q : Nat, q ≤ s.m + 2 ∧ v = .int .i64 ((q : Int) - 1) ∧ Gr w wr) (fun v _ => ((s.m : Int) + 1 - intOf v).toNat)
  case atStart => exact ⟨0, by omega, rfl, Gr.refl w⟩
  case round =>
    obtain ⟨q, hq, rfl, gr⟩ := hrel
    obtain ⟨c0, c1, c2, cf⟩ := (HD.out.gr gr).c3
    by_cases hqm : q ≤ s.m + 1
    · obtain ⟨z, hz⟩ : ∃ z : Int, (q : Int) - 1 = z := ⟨_, rfl⟩
      have HZ := Lib.hid hz
      rw [hz]
      have hd : decide (z ≤ (s.m : Int)) = true := by simp; omega
      have C82 := Lib.hid (rlo h vo vl vj s wr (HB.out.r.gr gr) z)
      have C24 := Lib.hid (owner_any g a b s wr (HB.out.l.gr gr) z)
      have C45 := Lib.hid (on_any g a b s wr (HB.out.l.gr gr) z)
      have C94 := Lib.hid (fun w' (g' : Gr w w') => ron h vo vl vj s w' (HB.out.r.gr g') z)
      have HL := Lib.hid (show (s.on z).length ≤ 1000 by have := s.on_le z; omega)
      generalize s.on z = zs at *
      cases hlo : s.lo z
      · rw [hlo] at C82
        rw [show s.owner z = -1 by simp [WebS.owner, hlo]] at C24
        rw [hvo] at c0
        have hz1 : -1 ≤ z := by omega
        have hz2 : z ≤ 100 := by omega
        clear hz hlo
        go_wp2_with (first
          | (go_at_call 82; refine (C82.out).mono ?_; rintro e w1 ⟨rfl, rfl⟩)
          | (go_at_call 24; refine (C24.out).mono ?_; rintro e w1 ⟨rfl, rfl⟩)
          | (go_at_call 45; refine (C45.out).mono ?_; rintro e w2 ⟨v2, rfl, s2, b2, g2⟩)
          | (go_at_call 94; refine (C94.out _ (gr.tr g2)).mono ?_; rintro e w3 ⟨v3, rfl, s3, b3, g3⟩)
          | (go_at_call 15; refine (same_any zs _ _ _ (s2.gr g3) s3 HL.out).mono ?_; rintro e w4 ⟨rfl, g4⟩))
        go_roundw
        case rel => exact ⟨q + 1, by omega, by have := HZ.out; go_num, ((gr.tr g2).tr g3).tr g4⟩
        case measure => simp [intOf]; have := HZ.out; omega
      · rw [hlo] at C82
        have hlo' := hlo
        simp only [WebS.lo, decide_eq_true_eq] at hlo'
        obtain ⟨i, rfl⟩ := Int.eq_ofNat_of_zero_le hlo'.1
        have hi : i < s.m := by omega
        rw [show s.owner (i : Int) = s.ow i by simp [WebS.owner, hlo]] at C24
        obtain ⟨b1, off, cp, hv, k1, k2, oc, of⟩ := (HB.out.r.gr gr).ow.at hi
        rw [hv] at c0
        have i1 : (0 : Int) ≤ (i : Int) := by omega
        have i2 : (i : Int) < (s.m : Int) := by omega
        generalize s.ow i = o at *
        have ho : (o != o) = false := by simp
        clear hz hlo hlo'
        go_wp2_with (first
          | (go_at_call 82; refine (C82.out).mono ?_; rintro e w1 ⟨rfl, rfl⟩)
          | (go_at_call 24; refine (C24.out).mono ?_; rintro e w1 ⟨rfl, rfl⟩)
          | (go_at_call 45; refine (C45.out).mono ?_; rintro e w2 ⟨v2, rfl, s2, b2, g2⟩)
          | (go_at_call 94; refine (C94.out _ (gr.tr g2)).mono ?_; rintro e w3 ⟨v3, rfl, s3, b3, g3⟩)
          | (go_at_call 15; refine (same_any zs _ _ _ (s2.gr g3) s3 HL.out).mono ?_; rintro e w4 ⟨rfl, g4⟩))
        go_roundw
        case rel => exact ⟨q + 1, by omega, by have := HZ.out; go_num, ((gr.tr g2).tr g3).tr g4⟩
        case measure => simp [intOf]; have := HZ.out; omega
    · have hd : decide ((q : Int) - 1 ≤ (s.m : Int)) = false := by simp; omega
      rw [hvo] at c0
      have GR := Lib.hid gr
      clear gr
      go_wp2_with fail
      clear hd c0 c1 c2 cf
      go_loopw [7] (fun v wr => ∃ q : Nat, q ≤ s.n + 2 ∧ v = .int .i64 ((q : Int) - 1) ∧ Gr w wr) (fun v _ => ((s.n : Int) + 1 - intOf v).toNat)
      case atStart => exact ⟨0, by omega, rfl, GR.out⟩
      case round =>
        obtain ⟨q, hq, rfl, gr⟩ := hrel
        obtain ⟨c0, c1, c2, cf⟩ := (HD.out.gr gr).c3
        by_cases hqm : q ≤ s.n + 1
        · obtain ⟨z, hz⟩ : ∃ z : Int, (q : Int) - 1 = z := ⟨_, rfl⟩
          have HZ := Lib.hid hz
          rw [hz]
          have hd : decide (z ≤ (s.n : Int)) = true := by simp; omega
          have C81 := Lib.hid (rth h vo vl vj s wr (HB.out.r.gr gr) z)
          have C41 := Lib.hid (fun w' (g' : Gr w w') => waits_any g a b s w' (HB.out.l.gr g') z)
          have C29 := Lib.hid (fun w' (g' : Gr w w') => next_any g a b s w' (HB.out.l.gr g') z)
          have C30 := Lib.hid (fun w' (g' : Gr w w') => rnext h vo vl vj s w' (HB.out.r.gr g') z)
          have C28 := Lib.hid (fun w' (g' : Gr w w') => chain_any g a b s w' (HB.out.l.gr g') z)
          have C95 := Lib.hid (fun w' (g' : Gr w w') => rchain h vo vl vj s w' (HB.out.r.gr g') z)
          have HN := Lib.hid (fun k (F : First s.next z k) => show (trail s.next z k).length ≤ 1000 by rw [trail_length]; have := F.no.le (WebS.next_bd HB.out.l.ok); omega)
          generalize s.next = nx at *
          obtain ⟨y, hy⟩ : ∃ y, nx z = y := ⟨_, rfl⟩
          rw [hy] at C29 C30
          have hyy : (y != y) = false := by simp
          clear hy
          cases hth : s.th z
          · rw [hth] at C81
            rw [show s.lkOf z = -1 by simp [WebS.lkOf, hth], show s.jnOf z = -1 by simp [WebS.jnOf, hth]] at C41
            rw [hvl] at c1
            have hz1 : -1 ≤ z := by omega
            have hz2 : z ≤ 100 := by omega
            clear hz hth
            go_wp2_with (first
              | (go_at_call 81; refine (C81.out).mono ?_; rintro e w1 ⟨rfl, rfl⟩)
              | (go_at_call 41; refine (C41.out _ gr).mono ?_; rintro e w1 ⟨rfl, g1⟩; have G1 := gr.tr g1)
              | (go_at_call 29; refine (C29.out _ G1).mono ?_; rintro e w2 ⟨rfl, g2⟩; have G2 := G1.tr g2)
              | (go_at_call 30; refine (C30.out _ G2).mono ?_; rintro e w3 ⟨rfl, g3⟩; have G3 := G2.tr g3)
              | (go_at_call 28; refine (C28.out _ G3).mono ?_; rintro e w4 ⟨k4, F4, v4, rfl, s4, b4, g4⟩; have G4 := G3.tr g4)
              | (go_at_call 95; refine (C95.out _ G4).mono ?_; rintro e w5 ⟨k5, F5, v5, rfl, s5, b5, g5⟩; have G5 := G4.tr g5; obtain rfl := F4.uniq F5)
              | (go_at_call 15; refine (same_any _ _ _ _ (s4.gr g5) s5 (HN.out _ F4)).mono ?_; rintro e w6 ⟨rfl, g6⟩))
            go_roundw
            case rel => exact ⟨q + 1, by omega, by have := HZ.out; go_num, G5.tr g6⟩
            case measure => simp [intOf]; have := HZ.out; omega
          · rw [hth] at C81
            have hth' := hth
            simp only [WebS.th, decide_eq_true_eq] at hth'
            obtain ⟨i, rfl⟩ := Int.eq_ofNat_of_zero_le hth'.1
            have hi : i < s.n := by omega
            rw [show s.lkOf (i : Int) = s.lk i by simp [WebS.lkOf, hth], show s.jnOf (i : Int) = s.jn i by simp [WebS.jnOf, hth]] at C41
            obtain ⟨b1, off, cp, hv, k1, k2, lc, lf⟩ := (HB.out.r.gr gr).lk.at hi
            obtain ⟨b2, off2, cp2, hv2, k12, k22, jc, jf⟩ := (HB.out.r.gr gr).jn.at hi
            rw [hv] at c1
            rw [hv2] at c2
            have i1 : (0 : Int) ≤ (i : Int) := by omega
            have i2 : (i : Int) < (s.n : Int) := by omega
            generalize s.lk i = x1 at *
            generalize s.jn i = x2 at *
            have hx1 : (x1 != x1) = false := by simp
            have hx2 : (x2 != x2) = false := by simp
            clear hz hth hth'
            go_upto_region 14 with (first | (go_at_call 81; refine (C81.out).mono ?_; rintro e w1 ⟨rfl, rfl⟩))
            go_quiet (fail)
            have gr2 := gr.drewN nq
            generalize wr.drewN nq = W at *
            clear gr
            go_wp2_with (first
              | (go_at_call 41; refine (C41.out _ gr2).mono ?_; rintro e w1 ⟨rfl, g1⟩; have G1 := gr2.tr g1)
              | (go_at_call 29; refine (C29.out _ G1).mono ?_; rintro e w2 ⟨rfl, g2⟩; have G2 := G1.tr g2)
              | (go_at_call 30; refine (C30.out _ G2).mono ?_; rintro e w3 ⟨rfl, g3⟩; have G3 := G2.tr g3)
              | (go_at_call 28; refine (C28.out _ G3).mono ?_; rintro e w4 ⟨k4, F4, v4, rfl, s4, b4, g4⟩; have G4 := G3.tr g4)
              | (go_at_call 95; refine (C95.out _ G4).mono ?_; rintro e w5 ⟨k5, F5, v5, rfl, s5, b5, g5⟩; have G5 := G4.tr g5; obtain rfl := F4.uniq F5)
              | (go_at_call 15; refine (same_any _ _ _ _ (s4.gr g5) s5 (HN.out _ F4)).mono ?_; rintro e w6 ⟨rfl, g6⟩))
            go_roundw
            case rel => exact ⟨q + 1, by omega, by have := HZ.out; go_num, G5.tr g6⟩
            case measure => simp [intOf]; have := HZ.out; omega
        · have hd : decide ((q : Int) - 1 ≤ (s.n : Int)) = false := by simp; omega
          rw [hvl] at c1
          have C27 := Lib.hid (ring_any g a b s wr (HB.out.l.gr gr))
          have C96 := Lib.hid (fun w' (g' : Gr w w') => rring h vo vl vj s w' (HB.out.r.gr g'))
          generalize s.ring = y at *
          have hyy : (y == y) = true := by simp
          go_wp2_with (first
            | (go_at_call 27; refine (C27.out).mono ?_; rintro e w1 ⟨rfl, g1⟩)
            | (go_at_call 96; refine (C96.out _ (gr.tr g1)).mono ?_; rintro e w2 ⟨rfl, g2⟩))
          go_ret
          exact ⟨rfl, (gr.tr g1).tr g2⟩
end Go.Proofs.Ytkkobbomipcpoaa
