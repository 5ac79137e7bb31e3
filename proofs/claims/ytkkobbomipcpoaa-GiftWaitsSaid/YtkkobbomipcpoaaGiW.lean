/- The walk of the law GiftLevels of chapter 25 (gift): it returns true for every input, and changes nothing that was there. -/
import Derived.Test.YtkkobbomipcpoaaGiV
namespace Go.Proofs.Ytkkobbomipcpoaa
open Go.RowKit
set_option linter.unusedVariables false
set_option maxHeartbeats 4000000
theorem quietS {P : Program} {f : FuncId} {args : Array Value} {w : World} {n : Nat} {v : Value} (h : Calls P f args (w.drewN n) fun e w' => e = .returned v ∧ w.drewN n = w') : Calls P f args (w.drewN n) fun e w'' => e = .returned v ∧ ∃ m, w'' = w.drewN m :=
  h.mono fun _ _ ⟨he, hm⟩ => ⟨he, n, hm.symm⟩
theorem clean_setL (L W O : List Int) (t : Nat) (l : Int) (ht : t < L.length) : (clean (L.set t l) W O).n = (clean L W O).n ∧ (clean (L.set t l) W O).m = (clean L W O).m ∧ (clean (L.set t l) W O).next = (clean L W O).next ∧ (clean (L.set t l) W O).lev = upd (clean L W O).lev t (holdI l) := by
  have hn : (clean (L.set t l) W O).n = (clean L W O).n := by show min (L.set t l).length 64 = min L.length 64; rw [List.length_set]
  have ho : (clean (L.set t l) W O).ow = (clean L W O).ow := by funext i; show atI O i (min (L.set t l).length 64) = atI O i (min L.length 64); rw [List.length_set]
  refine ⟨hn, rfl, ?_, ?_⟩
  · funext x
    unfold GS.next
    rw [hn, ho]
    rfl
  · funext i
    show holdI ((L.set t l).getD i 0) = upd (fun i => holdI (L.getD i 0)) t (holdI l) i
    unfold upd
    by_cases h : i = t
    · subst h
      rw [if_pos rfl]
      simp [ht]
    · rw [if_neg h]
      have : t ≠ i := fun e => h e.symm
      simp [List.getD_eq_getElem?_getD, this]
theorem take_le (L : List Int) (h : L.length ≤ 70) : L.take 70 = L := List.take_of_length_le h
set_option maxRecDepth 100000 in
theorem giftLevels_walk (vl vw vo : Value) (L W O : List Int) (t : Int) (lvl : Int) (w : World) (h1 : Rn w vl L) (h2 : Rn w vw W) (h3 : Rn w vo O) (ht : -9223372036854775808 ≤ t ∧ t ≤ 9223372036854775807) (hlv : -9223372036854775808 ≤ lvl ∧ lvl ≤ 9223372036854775807) :
    Calls Try.prog 6 #[.agg #[vl, vw, vo], .int .i64 t, .int .i64 lvl] w fun e w' => e = .returned (.bool true) ∧ Gr w w' := by
  have C13 := Lib.hid (gfew L W O vl vw vo (w.alloc (.cells #[vl, vw, vo] 24)) (h1.gr ((Gr.refl w).al _)) (h2.gr ((Gr.refl w).al _)) (h3.gr ((Gr.refl w).al _)))
  obtain ⟨al, cl, rfl, hl1, hl2, hl, hln⟩ := h1
  obtain ⟨aw, cw, rfl, hw1, hw2, hw, hwn⟩ := h2
  obtain ⟨ao, co, rfl, ho1, ho2, ho, hon⟩ := h3
  clear hl hw ho hln hwn hon
  have hA := Blk.new w 24 #[.slice al L.length cl, .slice aw W.length cw, .slice ao O.length co]
  have g1 := (Gr.refl w).al (.cells #[.slice al L.length cl, .slice aw W.length cw, .slice ao O.length co] 24)
  have hL70 : (L.take 70).length ≤ 70 := by rw [List.length_take]; omega
  have hW70 : (W.take 70).length ≤ 70 := by rw [List.length_take]; omega
  have hO70 : (O.take 70).length ≤ 70 := by rw [List.length_take]; omega
  generalize L.take 70 = L' at *
  generalize W.take 70 = W' at *
  generalize O.take 70 = O' at *
  go_enter Try.func6, Try.ntmps6
  go_upto_region 1 with fail
  generalize w.alloc (.cells #[.slice al L.length cl, .slice aw W.length cw, .slice ao O.length co] 24) = W1 at *
  generalize w.heap.size = A at *
  obtain ⟨x0, x1, x2, xf⟩ := hA.c3
  go_upto_region 2 with (first | (go_at_call 13; refine (C13.out).mono ?_; rintro e w2 ⟨vl', vw', vo', rv, rfl, r1, r2, r3, hrv, g2⟩; have HR := Lib.hid (And.intro r1 (And.intro r2 (And.intro r3 (And.intro hrv (g1.tr g2))))); obtain ⟨al', cl', rfl, _, _, _, _⟩ := r1; obtain ⟨aw', cw', rfl, _, _, _, _⟩ := r2; obtain ⟨ao', co', rfl, _, _, _, _⟩ := r3; obtain ⟨p1, p2, p3, rfl, q1, q2, q3⟩ := hrv; obtain ⟨e1, e2, rfl, _, _⟩ := q1.hd'; obtain ⟨e3, e4, rfl, _, _⟩ := q2.hd'; obtain ⟨e5, e6, rfl, _, _⟩ := q3.hd'; clear q1 q2 q3))
  have b1 := (Blk.new w2 25 #[.slice al' L'.length cl', .slice aw' W'.length cw', .slice ao' O'.length co']).al (.cells #[.slice e1 (clean L' W' O').n e2, .slice e3 (clean L' W' O').n e4, .slice e5 (clean L' W' O').m e6] 26)
  have b2 := Blk.new (w2.alloc (.cells #[.slice al' L'.length cl', .slice aw' W'.length cw', .slice ao' O'.length co'] 25)) 26 #[.slice e1 (clean L' W' O').n e2, .slice e3 (clean L' W' O').n e4, .slice e5 (clean L' W' O').m e6]
  rw [World.size_alloc] at b2
  have g3 := ((Gr.refl w2).al (.cells #[.slice al' L'.length cl', .slice aw' W'.length cw', .slice ao' O'.length co'] 25)).al (.cells #[.slice e1 (clean L' W' O').n e2, .slice e3 (clean L' W' O').n e4, .slice e5 (clean L' W' O').m e6] 26)
  generalize (w2.alloc (.cells #[.slice al' L'.length cl', .slice aw' W'.length cw', .slice ao' O'.length co'] 25)).alloc (.cells #[.slice e1 (clean L' W' O').n e2, .slice e3 (clean L' W' O').n e4, .slice e5 (clean L' W' O').m e6] 26) = W3 at *
  generalize w2.heap.size = P at *
  have GG := Lib.hid (HR.out.2.2.2.2.tr g3)
  have HV := Lib.hid (show GV W3 _ L' W' O' from ⟨_, _, _, rfl, HR.out.1.rd.gr g3, HR.out.2.1.rd.gr g3, HR.out.2.2.1.rd.gr g3⟩)
  have HW := Lib.hid (HR.out.2.2.2.1.gr g3)
  have HRN := Lib.hid (And.intro (HR.out.1.gr g3) (And.intro (HR.out.2.1.gr g3) (HR.out.2.2.1.gr g3)))
  have hok := clean_ok L' W' O'
  have hn64 := hok.n64
  clear HR g1 g2 g3 hA x0 x1 x2 xf
  obtain ⟨s, hs⟩ : ∃ s, clean L' W' O' = s := ⟨_, rfl⟩
  have C16 := Lib.hid (fun w' (g' : Gr W3 w') => gall _ _ _ _ w' (HV.out.gr g'))
  have HS := Lib.hid hs
  rw [hs] at C16 HW hok hn64 b2 ⊢
  clear hs
  have C36 := Lib.hid (fun w' (g' : Gr W3 w') => rringG _ s hok w' (HW.out.gr g'))
  have HB := Lib.hid (And.intro b1 b2)
  obtain ⟨x0, x1, x2, xf⟩ := b1.c3
  obtain ⟨y0, y1, y2, yf⟩ := b2.c3
  clear b1 b2
  by_cases hth : 0 ≤ t ∧ t < s.n
  · obtain ⟨i, rfl⟩ := Int.eq_ofNat_of_zero_le hth.1
    have hi : i < s.n := by omega
    have t1 : decide ((i : Int) < 0) = false := by simp
    have t2 : decide (s.n ≤ i) = false := by simp; omega
    clear hth
    go_upto_if 34 with (go_at_call 36; refine (C36.out _ (Gr.refl _)).mono ?_; rintro e w4 ⟨b, rfl, hb, g4⟩)
    cases b with
    | true =>
      go_wp2_with (go_at_call 19; refine (awake25 _).mono ?_; rintro e w5 ⟨rfl, g5⟩)
      go_ret
      exact ⟨rfl, (GG.out.tr g4).tr g5⟩
    | false =>
      have HOP := Lib.hid (hb rfl)
      clear hb x0 x1 x2 xf y0 y1 y2 yf t1 t2 C36
      obtain ⟨x0, x1, x2, xf⟩ := (HB.out.1.gr g4).c3
      go_upto_region 5 with (go_at_call 16; refine (C16.out _ g4).mono ?_; rintro e w5 ⟨old, rfl, so, _, g5⟩)
      clear x0 x1 x2 xf
      have G5 := g4.tr g5
      obtain ⟨x0, x1, x2, xf⟩ := (HB.out.1.gr G5).c3
      have hiL : i < L'.length := by
        have : s.n = min L'.length 64 := by rw [← HS.out]; rfl
        omega
      have C37 := Lib.hid (gturned L' W' O' _ _ _ i lvl w5 (HRN.out.1.gr G5) (HRN.out.2.1.gr G5) (HRN.out.2.2.gr G5) hiL hL70)
      have HL2 := Lib.hid (clean_setL L' W' O' i lvl hiL)
      have hLs : (L'.set i lvl).length ≤ 70 := by rw [List.length_set]; exact hL70
      have C13b := Lib.hid (fun vl2 w' (g' : Gr W3 w') (h : Rn w' vl2 (L'.set i lvl)) => gfew (L'.set i lvl) W' O' vl2 _ _ w' h (HRN.out.2.1.gr g') (HRN.out.2.2.gr g'))
      rw [take_le _ hLs, take_le _ hW70, take_le _ hO70] at C13b
      rw [HS.out] at HL2
      obtain ⟨L2, hL2⟩ : ∃ L2, L'.set i lvl = L2 := ⟨_, rfl⟩
      rw [hL2] at C37 HL2 C13b hLs
      clear hL2
      go_upto_region 6 with (first
        | (go_at_call 37; refine (C37.out).mono ?_; rintro e w6 ⟨vl2, rfl, r6, g6⟩; obtain ⟨a6, c6, rfl, h61, h62, h63, h64⟩ := r6; have r6 : Rn w6 (.slice a6 L2.length c6) L2 := ⟨a6, c6, rfl, h61, h62, h63, h64⟩; clear h63 h64)
        | (go_at_call 13; refine (C13b.out _ _ (G5.tr g6) r6).mono ?_; rintro e w7 ⟨vl7, vw7, vo7, rv7, rfl, q1, q2, q3, q4, g7⟩; have HQ := Lib.hid (And.intro q1 (And.intro q2 (And.intro q3 q4))); obtain ⟨a71, c71, rfl, _, _, _, _⟩ := q1; obtain ⟨a72, c72, rfl, _, _, _, _⟩ := q2; obtain ⟨a73, c73, rfl, _, _, _, _⟩ := q3; obtain ⟨m1, m2, m3, rfl, n1, n2, n3⟩ := q4; obtain ⟨d1, d2, rfl, _, _⟩ := n1.hd'; obtain ⟨d3, d4, rfl, _, _⟩ := n2.hd'; obtain ⟨d5, d6, rfl, _, _⟩ := n3.hd'; clear n1 n2 n3))
      have b1 := (Blk.new w7 25 #[.slice a71 L2.length c71, .slice a72 W'.length c72, .slice a73 O'.length c73]).al (.cells #[.slice d1 (clean L2 W' O').n d2, .slice d3 (clean L2 W' O').n d4, .slice d5 (clean L2 W' O').m d6] 26)
      have b2 := Blk.new (w7.alloc (.cells #[.slice a71 L2.length c71, .slice a72 W'.length c72, .slice a73 O'.length c73] 25)) 26 #[.slice d1 (clean L2 W' O').n d2, .slice d3 (clean L2 W' O').n d4, .slice d5 (clean L2 W' O').m d6]
      rw [World.size_alloc] at b2
      have g8 := ((Gr.refl w7).al (.cells #[.slice a71 L2.length c71, .slice a72 W'.length c72, .slice a73 O'.length c73] 25)).al (.cells #[.slice d1 (clean L2 W' O').n d2, .slice d3 (clean L2 W' O').n d4, .slice d5 (clean L2 W' O').m d6] 26)
      generalize (w7.alloc (.cells #[.slice a71 L2.length c71, .slice a72 W'.length c72, .slice a73 O'.length c73] 25)).alloc (.cells #[.slice d1 (clean L2 W' O').n d2, .slice d3 (clean L2 W' O').n d4, .slice d5 (clean L2 W' O').m d6] 26) = W8 at *
      generalize w7.heap.size = P2 at *
      have G8 := ((G5.tr g6).tr g7).tr g8
      have HOLD := Lib.hid (((so.gr g6).gr g7).gr g8)
      have HV2 := Lib.hid (show GV W8 _ L2 W' O' from ⟨_, _, _, rfl, HQ.out.1.rd.gr g8, HQ.out.2.1.rd.gr g8, HQ.out.2.2.1.rd.gr g8⟩)
      have HW2 := Lib.hid (HQ.out.2.2.2.gr g8)
      have hok2 := clean_ok L2 W' O'
      have GG8 := Lib.hid (GG.out.tr G8)
      have HWR := Lib.hid (HW.out.gr G8)
      have HB8 := Lib.hid (And.intro (HB.out.2.gr G8) (And.intro b1 b2))
      clear x0 x1 x2 xf C37 C13b HQ so g4 g5 g6 g7 g8 G5 r6 b1 b2 G8 HV HB HW GG C16 HRN
      obtain ⟨s2, hs2⟩ : ∃ s2, clean L2 W' O' = s2 := ⟨_, rfl⟩
      have C32 := Lib.hid (fun w' (g' : Gr W8 w') => gbetter _ _ _ _ s.all old i w' (HV2.out.gr g') (HOLD.out.rd.gr g'))
      have C34 := Lib.hid (fun w' (g' : Gr W8 w') => gworse _ _ _ _ s.all old i w' (HV2.out.gr g') (HOLD.out.rd.gr g'))
      have C16 := Lib.hid (fun w' (g' : Gr W8 w') => gall _ _ _ _ w' (HV2.out.gr g'))
      rw [hs2] at C32 C34 C16 HW2 HB8 HL2 hok2
      rw [all_effF] at C32 C34
      have hn64' := hok2.n64
      clear hs2 HV2
      have C17 := Lib.hid (fun w' (g' : Gr W8 w') => gallR _ s2 hok2 w' (HW2.out.gr g'))
      obtain ⟨x0, x1, x2, xf⟩ := HB8.out.2.2.c3
      have hal : s2.all.length ≤ 1000 := by have := GS.all_le hok2; omega
      have HWK := Lib.hid (fun k (h : Walked s2.n s2.next (betU (s2.lev i)) (betP (s2.lev i)) (fillF (lst s.n (effF s))) i k) (hle : holdI lvl ≤ s.lev i) => levels_better HL2.out.1 HL2.out.2.2.1 HL2.out.2.2.2 hok hok2 hi hle h)
      have HWW := Lib.hid (fun k (h : Walked s2.n s2.next (worU s2) (worP s2) (fillF (lst s.n (effF s))) i k) => levels_worse HL2.out.1 HL2.out.2.2.1 HL2.out.2.2.2 hok hok2 hi HOP.out h)
      go_upto_region 7 with (go_at_call 17; refine (C17.out _ (Gr.refl _)).mono ?_; rintro e w9 ⟨want, rfl, sw, _, g9⟩)
      clear x0 x1 x2 xf
      obtain ⟨y0, y1, y2, yf⟩ := (HB8.out.1.gr g9).c3
      have HWR9 := HWR.out.gr g9
      obtain ⟨p1, p2, p3, hpe, k1, k2, k3⟩ := HWR9
      obtain ⟨bl, ol, cl9, hvl, _, _, lc⟩ := k1.at' hi
      cases hpe
      cases hvl
      clear k1 k2 k3
      have i1 : (0 : Int) ≤ (i : Int) := by omega
      have i2 : (i : Int) < (s.n : Int) := by omega
      have C38 := Lib.hid (fun w' => rhold lvl w')
      have HX := Lib.hid (And.intro HB8.out.2.1 sw)
      by_cases hle : holdI lvl ≤ s.lev i
      · have td : decide (holdI lvl ≤ s.lev i) = true := by simpa using hle
        have HLE := Lib.hid hle
        generalize s.lev i = lv0 at *
        generalize holdI lvl = hv0 at *
        go_quiet ((go_at_call 38; exact quietS (C38.out _)))
        have g10 := g9.drewN nq
        have sw2 := sw.gr ((Gr.refl w9).drewN nq)
        generalize w9.drewN nq = V9 at *
        obtain ⟨x0, x1, x2, xf⟩ := (HX.out.1.gr g10).c3
        go_upto_region 9 with (go_at_call 32; refine (C32.out _ g10).mono ?_; rintro e w11 ⟨k11, v11, u11, hk, rfl, s11, m11, g11⟩)
        rw [Int.toNat_natCast] at hk s11
        rw [HWK.out k11 hk HLE.out] at s11
        have D1 := Lib.hid (same_any s2.all v11 want w11 s11 (sw2.gr g11) hal)
        go_wp2_with (first
          | (go_at_call 15; refine (D1.out).mono ?_; rintro e w12 ⟨rfl, g12⟩)
          | (go_at_call 19; refine (awake25 _).mono ?_; rintro e w13 ⟨rfl, g13⟩))
        go_ret
        exact ⟨rfl, GG8.out.tr (g10.tr (g11.tr (g12.tr g13)))⟩
      · have td : decide (holdI lvl ≤ s.lev i) = false := by simpa using hle
        generalize s.lev i = lv0 at *
        generalize holdI lvl = hv0 at *
        go_quiet ((go_at_call 38; exact quietS (C38.out _)))
        have g10 := g9.drewN nq
        have sw2 := sw.gr ((Gr.refl w9).drewN nq)
        generalize w9.drewN nq = V9 at *
        obtain ⟨x0, x1, x2, xf⟩ := (HX.out.1.gr g10).c3
        go_upto_region 11 with (go_at_call 34; refine (C34.out _ g10).mono ?_; rintro e w11 ⟨k11, v11, u11, hk, rfl, s11, m11, g11⟩)
        rw [HWW.out k11 hk] at s11
        have D1 := Lib.hid (same_any s2.all v11 want w11 s11 (sw2.gr g11) hal)
        clear x0 x1 x2 xf
        go_wp2_with (first
          | (go_at_call 15; (with_reducible refine (D1.out).mono ?_); rintro e w12 ⟨rfl, g12⟩; have G12 := (g10.tr g11).tr g12; obtain ⟨x0, x1, x2, xf⟩ := (HX.out.1.gr G12).c3)
          | (go_at_call 16; refine (C16.out _ G12).mono ?_; rintro e w13 ⟨v13, rfl, s13, _, g13⟩)
          | (go_at_call 15; (with_reducible refine (same_any s2.all v13 want w13 s13 (((sw2.gr g11).gr g12).gr g13) hal).mono ?_); rintro e w14 ⟨rfl, g14⟩)
          | (go_at_call 19; refine (awake25 _).mono ?_; rintro e w15 ⟨rfl, g15⟩))
        go_ret
        exact ⟨rfl, GG8.out.tr (G12.tr (g13.tr (g14.tr g15)))⟩
  · have hds : decide (t < 0) = true ∨ (decide (t < 0) = false ∧ decide ((s.n : Int) ≤ t) = true) := by
      simp only [decide_eq_true_eq, decide_eq_false_iff_not]
      omega
    clear hth
    rcases hds with d1 | ⟨d1, d2⟩
    all_goals
      go_wp2_with (go_at_call 19; refine (awake25 _).mono ?_; rintro e w5 ⟨rfl, g5⟩)
      go_ret
      exact ⟨rfl, GG.out.tr g5⟩
end Go.Proofs.Ytkkobbomipcpoaa
