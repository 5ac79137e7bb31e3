/- The walk of the law GiftWalks of chapter 25 (gift): it returns true for every input, and changes nothing that was there. -/
import Derived.Test.YtkkobbomipcpoaaGiM
namespace Go.Proofs.Ytkkobbomipcpoaa
open Go.RowKit
set_option linter.unusedVariables false
set_option maxHeartbeats 4000000
set_option maxRecDepth 100000 in
theorem giftWalks_walk (vl vw vo : Value) (L W O : List Int) (ev : Value) (eff : List Int) (t : Int) (w : World) (h1 : Rn w vl L) (h2 : Rn w vw W) (h3 : Rn w vo O) (he : Rn w ev eff) (ht : -9223372036854775808 ≤ t ∧ t ≤ 9223372036854775807) :
    Calls Try.prog 5 #[.agg #[vl, vw, vo], ev, .int .i64 t] w fun e w' => e = .returned (.bool true) ∧ Gr w w' := by
  have HEE := Lib.hid he
  obtain ⟨ae, ce, rfl, he1, he2, her, hen⟩ := he
  clear her
  have C13 := Lib.hid (gfew L W O vl vw vo (w.alloc (.cells #[vl, vw, vo] 24)) (h1.gr ((Gr.refl w).al _)) (h2.gr ((Gr.refl w).al _)) (h3.gr ((Gr.refl w).al _)))
  obtain ⟨al, cl, rfl, hl1, hl2, hl, hln⟩ := h1
  obtain ⟨aw, cw, rfl, hw1, hw2, hw, hwn⟩ := h2
  obtain ⟨ao, co, rfl, ho1, ho2, ho, hon⟩ := h3
  clear hl hw ho hln hwn hon
  have hA := Blk.new w 24 #[.slice al L.length cl, .slice aw W.length cw, .slice ao O.length co]
  have g1 := (Gr.refl w).al (.cells #[.slice al L.length cl, .slice aw W.length cw, .slice ao O.length co] 24)
  generalize L.take 70 = L' at *
  generalize W.take 70 = W' at *
  generalize O.take 70 = O' at *
  go_enter Try.func5, Try.ntmps5
  go_upto_region 1 with fail
  generalize w.alloc (.cells #[.slice al L.length cl, .slice aw W.length cw, .slice ao O.length co] 24) = W1 at *
  generalize w.heap.size = A at *
  obtain ⟨x0, x1, x2, xf⟩ := hA.c3
  go_upto_region 2 with (first | (go_at_call 13; refine (C13.out).mono ?_; rintro e w2 ⟨vl', vw', vo', rv, rfl, r1, r2, r3, hrv, g2⟩; have HR := Lib.hid (And.intro r1 (And.intro r2 (And.intro r3 (And.intro hrv (g1.tr g2))))); obtain ⟨al', cl', rfl, _, _, _, _⟩ := r1; obtain ⟨aw', cw', rfl, _, _, _, _⟩ := r2; obtain ⟨ao', co', rfl, _, _, _, _⟩ := r3; obtain ⟨p1, p2, p3, rfl, q1, q2, q3⟩ := hrv; obtain ⟨e1, e2, rfl, _, _⟩ := q1.hd'; obtain ⟨e3, e4, rfl, _, _⟩ := q2.hd'; obtain ⟨e5, e6, rfl, _, _⟩ := q3.hd'; clear q1 q2 q3))
  have b1 := (Blk.new w2 25 #[.slice al' L'.length cl', .slice aw' W'.length cw', .slice ao' O'.length co']).al (.cells #[.slice e1 (clean L' W' O').n e2, .slice e3 (clean L' W' O').n e4, .slice e5 (clean L' W' O').m e6] 26)
  have b2 := Blk.new (w2.alloc (.cells #[.slice al' L'.length cl', .slice aw' W'.length cw', .slice ao' O'.length co'] 25)) 26 #[.slice e1 (clean L' W' O').n e2, .slice e3 (clean L' W' O').n e4, .slice e5 (clean L' W' O').m e6]
  rw [World.size_alloc] at b2
  have g3 := ((Gr.refl w2).al (.cells #[.slice al' L'.length cl', .slice aw' W'.length cw', .slice ao' O'.length co'] 25)).al (.cells #[.slice e1 (clean L' W' O').n e2, .slice e3 (clean L' W' O').n e4, .slice e5 (clean L' W' O').m e6] 26)
  generalize (w2.alloc (.cells #[.slice al' L'.length cl', .slice aw' W'.length cw', .slice ao' O'.length co'] 25)).alloc (.cells #[.slice e1 (clean L' W' O').n e2, .slice e3 (clean L' W' O').n e4, .slice e5 (clean L' W' O').m e6] 26) = W3 at *
  generalize w2.heap.size = P at *
  have GG := Lib.hid (HR.out.2.2.2.2.tr g3)
  have HV := Lib.hid (show GV W3 _ L' W' O' from ⟨_, _, _, rfl, HR.out.1.rd.gr g3, HR.out.2.1.rd.gr g3, HR.out.2.2.1.rd.gr g3⟩)
  have HW := Lib.hid (HR.out.2.2.2.1.gr g3)
  have hok := clean_ok L' W' O'
  have hn64 := hok.n64
  clear HR g1 g2 g3 hA x0 x1 x2 xf
  go_upto_if 24 with fail
  go_cut [1] (fun v wx => v = .slice ae (eff.take 70).length ce ∧ W3 = wx)
  case first =>
    by_cases h70 : 70 < eff.length
    · cases ae with
      | none => have := hen rfl; omega
      | some ad =>
        obtain ⟨bb, oo, sp⟩ := ad
        have e := Lib.hid (show (eff.take 70).length = 70 by rw [List.length_take]; omega)
        have hd : decide ((70 : Int) < (eff.length : Int)) = true := by simp; omega
        have h70' : (70 : Int) ≤ (ce : Int) := by omega
        go_wp2_with fail
        go_meet
        case rel => exact ⟨by rw [e.out], rfl⟩
    · have e := Lib.hid (show (eff.take 70).length = eff.length by rw [List.length_take]; omega)
      have hd : decide ((70 : Int) < (eff.length : Int)) = false := by simp; omega
      go_wp2_with fail
      go_meet
      case rel => exact ⟨by rw [e.out], rfl⟩
  case rest =>
  obtain ⟨rfl, rfl⟩ := hcut
  have HE2 := Lib.hid ((HEE.out.take 70).gr GG.out).rd
  have hle : (eff.take 70).length ≤ 70 := by rw [List.length_take]; omega
  obtain ⟨ef, hef⟩ : ∃ ef, eff.take 70 = ef := ⟨_, rfl⟩
  rw [hef] at HE2 hle ⊢
  clear hef hen HEE
  obtain ⟨s, hs⟩ : ∃ s, clean L' W' O' = s := ⟨_, rfl⟩
  have C32 := Lib.hid (fun w' (g' : Gr W3 w') => gbetter _ _ _ _ ef _ t w' (HV.out.gr g') (HE2.out.gr g'))
  have C34 := Lib.hid (fun w' (g' : Gr W3 w') => gworse _ _ _ _ ef _ t w' (HV.out.gr g') (HE2.out.gr g'))
  rw [hs] at C32 C34 HW hok hn64 b2
  have C33 := Lib.hid (fun w' (g' : Gr W3 w') => rbetter _ s hok w' (HW.out.gr g') ef _ t (HE2.out.gr g'))
  have C35 := Lib.hid (fun w' (g' : Gr W3 w') => rworse _ s hok w' (HW.out.gr g') ef _ t (HE2.out.gr g'))
  clear HV hs HW
  have HB := Lib.hid (And.intro b1 b2)
  obtain ⟨x0, x1, x2, xf⟩ := b1.c3
  clear b1 b2
  go_upto_region 5 with (go_at_call 32; refine (C32.out _ (Gr.refl _)).mono ?_; rintro e w4 ⟨k4, v4, u4, hw4, rfl, s4, m4, g4⟩)
  clear x0 x1 x2 xf C32
  obtain ⟨x0, x1, x2, xf⟩ := (HB.out.2.gr g4).c3
  go_upto_region 6 with (go_at_call 33; refine (C33.out _ g4).mono ?_; rintro e w5 ⟨k5, v5, u5, hw5, rfl, s5, m5, g5⟩)
  obtain rfl := hw4.uniq hw5
  clear x0 x1 x2 xf C33 hw5
  have G5 := g4.tr g5
  obtain ⟨x0, x1, x2, xf⟩ := (HB.out.1.gr G5).c3
  go_upto_region 7 with (go_at_call 34; refine (C34.out _ G5).mono ?_; rintro e w6 ⟨k6, v6, u6, hw6, rfl, s6, m6, g6⟩)
  clear x0 x1 x2 xf C34
  have G6 := G5.tr g6
  obtain ⟨x0, x1, x2, xf⟩ := (HB.out.2.gr G6).c3
  go_upto_region 8 with (go_at_call 35; refine (C35.out _ G6).mono ?_; rintro e w7 ⟨k7, v7, u7, hw7, rfl, s7, m7, g7⟩)
  obtain rfl := hw6.uniq hw7
  clear x0 x1 x2 xf C35 hw7
  have G7 := G6.tr g7
  have l4 := lst_length s.n (stW (betU (s.lev t.toNat)) (fillF ef) (road s.next t k4))
  have l5 := road_length (f := s.next) (t := t) k4
  have l6 := lst_length s.n (stW (worU s) (fillF ef) (road s.next t k6))
  have l7 := road_length (f := s.next) (t := t) k6
  have l8 := hw4.no.le
  have l9 := hw6.no.le
  generalize lst s.n (stW (betU (s.lev t.toNat)) (fillF ef) (road s.next t k4)) = z4 at *
  generalize lst s.n (stW (worU s) (fillF ef) (road s.next t k6)) = z6 at *
  have D1 := Lib.hid (same_any z4 v4 v5 w7 (((s4.gr g5).gr g6).gr g7) ((s5.gr g6).gr g7) (by omega))
  have D2 := Lib.hid (fun w' (g' : Gr w7 w') => same_any _ u4 u5 w' ((((m4.gr g5).gr g6).gr g7).gr g') (((m5.gr g6).gr g7).gr g') (by omega))
  have D3 := Lib.hid (fun w' (g' : Gr w7 w') => same_any z6 v6 v7 w' ((s6.gr g7).gr g') (s7.gr g') (by omega))
  have D4 := Lib.hid (fun w' (g' : Gr w7 w') => same_any _ u6 u7 w' ((m6.gr g7).gr g') (m7.gr g') (by omega))
  clear s4 m4 s5 m5 s6 m6 s7 m7 hw4 hw6 g4 g5 g6 g7 l4 l5 l6 l7 l8 l9
  go_wp2_with (first
    | (go_at_call 15; (with_reducible refine (D1.out).mono ?_); rintro e w8 ⟨rfl, g8⟩)
    | (go_at_call 15; (with_reducible refine (D2.out _ g8).mono ?_); rintro e w9 ⟨rfl, g9⟩; have G9 := g8.tr g9)
    | (go_at_call 15; (with_reducible refine (D3.out _ G9).mono ?_); rintro e w10 ⟨rfl, g10⟩; have G10 := G9.tr g10)
    | (go_at_call 15; (with_reducible refine (D4.out _ G10).mono ?_); rintro e w11 ⟨rfl, g11⟩; have G11 := G10.tr g11)
    | (go_at_call 19; refine (awake25 _).mono ?_; rintro e w12 ⟨rfl, g12⟩))
  go_ret
  exact ⟨rfl, GG.out.tr (G7.tr (G11.tr g12))⟩
end Go.Proofs.Ytkkobbomipcpoaa
