/- Chapter 25 (gift): the page's example; the walk of the law GiftAll. -/
import Derived.Test.YtkkobbomipcpoaaGiF
import Derived.Test.YtkkobbomipcpoaaGiG
namespace Go.Proofs.Ytkkobbomipcpoaa
open Go.RowKit
set_option linter.unusedVariables false
set_option maxHeartbeats 4000000
theorem Sl.blk {w : World} {b : Nat} (zs : List Int) (n : Nat) (hn : zs.length = n) (h : Blk w b 3 (intCells .i64 zs).toArray) (hl : zs.length ≤ 1000) : Sl 3 .i64 w (.slice (some ⟨b, 0, none⟩) n n) zs := by
  subst hn
  refine ⟨_, _, rfl, Nat.le_refl _, by omega, .inr ⟨b, 0, _, rfl, h, by simp [intCells], fun i x hx => ?_⟩⟩
  simp [intCells, hx]
theorem ex25_all : (clean [5, 3, 1] [-1, 0, 1] [0, 1]).all = [1, 1, 1] := by decide
theorem ex25_giv : (clean [5, 3, 1] [-1, 0, 1] [0, 1]).givL 1 (clean [5, 3, 1] [-1, 0, 1] [0, 1]).n = [1, 2] := by decide
theorem GS.all_le {s : GS} (ok : s.Ok) : s.all.length ≤ 64 := by unfold GS.all; rw [lst_length]; exact ok.n64
theorem GS.givL_no {s : GS} {t : Int} (h : s.th t = false) : ∀ k, s.givL t k = []
  | 0 => rfl
  | k + 1 => by unfold GS.givL GS.gvI; rw [h, GS.givL_no h k]; rfl
set_option maxRecDepth 100000 in
theorem awake25 (w : World) : Calls Try.prog 19 #[] w fun e w' => e = .returned (.bool true) ∧ Gr w w' := by
  have g1 := ((Gr.refl w).al (.cells #[.int .i64 5, .int .i64 3, .int .i64 1] 3)).al (.cells #[.int .i64 (-1), .int .i64 0, .int .i64 1] 3) |>.al (.cells #[.int .i64 0, .int .i64 1] 3)
  have b1 := ((Blk.new w 3 #[.int .i64 5, .int .i64 3, .int .i64 1]).al (.cells #[.int .i64 (-1), .int .i64 0, .int .i64 1] 3)).al (.cells #[.int .i64 0, .int .i64 1] 3)
  have b2 := (Blk.new (w.alloc (.cells #[.int .i64 5, .int .i64 3, .int .i64 1] 3)) 3 #[.int .i64 (-1), .int .i64 0, .int .i64 1]).al (.cells #[.int .i64 0, .int .i64 1] 3)
  have b3 := Blk.new ((w.alloc (.cells #[.int .i64 5, .int .i64 3, .int .i64 1] 3)).alloc (.cells #[.int .i64 (-1), .int .i64 0, .int .i64 1] 3)) 3 #[.int .i64 0, .int .i64 1]
  rw [World.size_alloc] at b2 b3
  rw [World.size_alloc] at b3
  have HV := Lib.hid (show GV _ (.agg #[.slice (some ⟨w.heap.size, 0, none⟩) 3 3, .slice (some ⟨w.heap.size + 1, 0, none⟩) 3 3, .slice (some ⟨w.heap.size + 1 + 1, 0, none⟩) 2 2]) [5, 3, 1] [-1, 0, 1] [0, 1] from
    ⟨_, _, _, rfl, (Sl.blk [5, 3, 1] 3 rfl b1 (by simp)).rd, (Sl.blk [-1, 0, 1] 3 rfl b2 (by simp)).rd, (Sl.blk [0, 1] 2 rfl b3 (by simp)).rd⟩)
  clear b1 b2 b3
  have hs : (((w.alloc (.cells #[.int .i64 5, .int .i64 3, .int .i64 1] 3)).alloc (.cells #[.int .i64 (-1), .int .i64 0, .int .i64 1] 3)).alloc (.cells #[.int .i64 0, .int .i64 1] 3)).heap.size = w.heap.size + 1 + 1 + 1 := by rw [World.size_alloc, World.size_alloc, World.size_alloc]
  go_enter Try.func19, Try.ntmps19
  go_upto_region 2 with fail
  generalize ((w.alloc (.cells #[.int .i64 5, .int .i64 3, .int .i64 1] 3)).alloc (.cells #[.int .i64 (-1), .int .i64 0, .int .i64 1] 3)).alloc (.cells #[.int .i64 0, .int .i64 1] 3) = W1 at *
  have hX := Blk.new W1 25 #[.slice (some ⟨w.heap.size, 0, none⟩) 3 3, .slice (some ⟨w.heap.size + 1, 0, none⟩) 3 3, .slice (some ⟨w.heap.size + 1 + 1, 0, none⟩) 2 2]
  rw [hs] at hX
  have g2 := (Gr.refl W1).al (.cells #[.slice (some ⟨w.heap.size, 0, none⟩) 3 3, .slice (some ⟨w.heap.size + 1, 0, none⟩) 3 3, .slice (some ⟨w.heap.size + 1 + 1, 0, none⟩) 2 2] 25)
  generalize W1.alloc (.cells #[.slice (some ⟨w.heap.size, 0, none⟩) 3 3, .slice (some ⟨w.heap.size + 1, 0, none⟩) 3 3, .slice (some ⟨w.heap.size + 1 + 1, 0, none⟩) 2 2] 25) = W2 at *
  have G2 := g1.tr g2
  have C16 := Lib.hid (gall _ _ _ _ W2 (HV.out.gr g2))
  have C18 := Lib.hid (fun w' (g' : Gr W2 w') => ggivers _ _ _ _ 1 w' ((HV.out.gr g2).gr g'))
  rw [ex25_all] at C16
  rw [ex25_giv] at C18
  generalize w.heap.size + 1 + 1 + 1 = X at *
  obtain ⟨x0, x1, x2, xf⟩ := hX.c3
  go_wp2_with (first
    | (go_at_call 16; refine (C16.out).mono ?_; rintro e w3 ⟨v3, rfl, s3, _, g3⟩; have C15 := Lib.hid (same_any [1, 1, 1] v3 (.slice (some ⟨w3.heap.size, 0, none⟩) 3 3) (w3.alloc (.cells #[.int .i64 1, .int .i64 1, .int .i64 1] 3)) (s3.gr ((Gr.refl w3).al _)) (Sl.blk [1, 1, 1] 3 rfl (Blk.new w3 3 _) (by simp)) (by simp)); have G3 := Lib.hid (g3.al (.cells #[.int .i64 1, .int .i64 1, .int .i64 1] 3)); clear s3 g3)
    | (go_at_call 15; (with_reducible refine (C15.out).mono ?_); rintro e w4 ⟨rfl, g4⟩; have G4 := Lib.hid (G3.out.tr g4); obtain ⟨y0, y1, y2, yf⟩ := (hX.gr G4.out).c3; clear C15)
    | (go_at_call 18; refine (C18.out _ G4.out).mono ?_; rintro e w5 ⟨v5, rfl, s5, _, g5⟩; have C15b := Lib.hid (same_any [1, 2] v5 (.slice (some ⟨w5.heap.size, 0, none⟩) 2 2) (w5.alloc (.cells #[.int .i64 1, .int .i64 2] 3)) (s5.gr ((Gr.refl w5).al _)) (Sl.blk [1, 2] 2 rfl (Blk.new w5 3 _) (by simp)) (by simp)); have G5 := Lib.hid ((G4.out.tr g5).al (.cells #[.int .i64 1, .int .i64 2] 3)); clear s5 g5)
    | (go_at_call 15; (with_reducible refine (C15b.out).mono ?_); rintro e w6 ⟨rfl, g6⟩))
  go_ret
  exact ⟨rfl, G2.tr (G5.out.tr g6)⟩
theorem keepPQ {w : World} {p q : Nat} {a b c d e f : Value} (h1 : Blk w p 25 #[a, b, c]) (h2 : Blk w q 26 #[d, e, f]) : w.cell? ⟨p, 0, none⟩ = some a ∧ w.cell? ⟨p, 1, none⟩ = some b ∧ w.cell? ⟨p, 2, none⟩ = some c ∧ w.cell? ⟨q, 0, none⟩ = some d ∧ w.cell? ⟨q, 1, none⟩ = some e ∧ w.cell? ⟨q, 2, none⟩ = some f :=
  ⟨h1.c3.1, h1.c3.2.1, h1.c3.2.2.1, h2.c3.1, h2.c3.2.1, h2.c3.2.2.1⟩
set_option maxRecDepth 100000 in
theorem giftAll_walk (vl vw vo : Value) (L W O : List Int) (t : Int) (w : World) (h1 : Rn w vl L) (h2 : Rn w vw W) (h3 : Rn w vo O) (ht : -9223372036854775808 ≤ t ∧ t ≤ 9223372036854775807) :
    Calls Try.prog 3 #[.agg #[vl, vw, vo], .int .i64 t] w fun e w' => e = .returned (.bool true) ∧ Gr w w' := by
  have C13 := Lib.hid (gfew L W O vl vw vo (w.alloc (.cells #[vl, vw, vo] 24)) (h1.gr ((Gr.refl w).al _)) (h2.gr ((Gr.refl w).al _)) (h3.gr ((Gr.refl w).al _)))
  obtain ⟨al, cl, rfl, hl1, hl2, hl, hln⟩ := h1
  obtain ⟨aw, cw, rfl, hw1, hw2, hw, hwn⟩ := h2
  obtain ⟨ao, co, rfl, ho1, ho2, ho, hon⟩ := h3
  clear hl hw ho hln hwn hon
  have hA := Blk.new w 24 #[.slice al L.length cl, .slice aw W.length cw, .slice ao O.length co]
  have g1 := (Gr.refl w).al (.cells #[.slice al L.length cl, .slice aw W.length cw, .slice ao O.length co] 24)
  generalize L.take 70 = L' at *
  generalize W.take 70 = W' at *
  generalize O.take 70 = O' at *
  go_enter Try.func3, Try.ntmps3
  go_upto_region 1 with fail
  generalize w.alloc (.cells #[.slice al L.length cl, .slice aw W.length cw, .slice ao O.length co] 24) = W1 at *
  generalize w.heap.size = A at *
  obtain ⟨x0, x1, x2, xf⟩ := hA.c3
  go_upto_region 2 with (first | (go_at_call 13; refine (C13.out).mono ?_; rintro e w2 ⟨vl', vw', vo', rv, rfl, r1, r2, r3, hrv, g2⟩; have HR := Lib.hid (And.intro r1 (And.intro r2 (And.intro r3 (And.intro hrv (g1.tr g2))))); obtain ⟨al', cl', rfl, _, _, _, _⟩ := r1; obtain ⟨aw', cw', rfl, _, _, _, _⟩ := r2; obtain ⟨ao', co', rfl, _, _, _, _⟩ := r3; obtain ⟨p1, p2, p3, rfl, q1, q2, q3⟩ := hrv; obtain ⟨e1, e2, rfl, _, _⟩ := q1.hd'; obtain ⟨e3, e4, rfl, _, _⟩ := q2.hd'; obtain ⟨e5, e6, rfl, _, _⟩ := q3.hd'; clear q1 q2 q3))
  have b1 := (Blk.new w2 25 #[.slice al' L'.length cl', .slice aw' W'.length cw', .slice ao' O'.length co']).al (.cells #[.slice e1 (clean L' W' O').n e2, .slice e3 (clean L' W' O').n e4, .slice e5 (clean L' W' O').m e6] 26)
  have b2 := Blk.new (w2.alloc (.cells #[.slice al' L'.length cl', .slice aw' W'.length cw', .slice ao' O'.length co'] 25)) 26 #[.slice e1 (clean L' W' O').n e2, .slice e3 (clean L' W' O').n e4, .slice e5 (clean L' W' O').m e6]
  rw [World.size_alloc] at b2
  have g3 := ((Gr.refl w2).al (.cells #[.slice al' L'.length cl', .slice aw' W'.length cw', .slice ao' O'.length co'] 25)).al (.cells #[.slice e1 (clean L' W' O').n e2, .slice e3 (clean L' W' O').n e4, .slice e5 (clean L' W' O').m e6] 26)
  generalize (w2.alloc (.cells #[.slice al' L'.length cl', .slice aw' W'.length cw', .slice ao' O'.length co'] 25)).alloc (.cells #[.slice e1 (clean L' W' O').n e2, .slice e3 (clean L' W' O').n e4, .slice e5 (clean L' W' O').m e6] 26) = W3 at *
  generalize w2.heap.size = P at *
  have GG := Lib.hid (HR.out.2.2.2.2.tr g3)
  have HV := Lib.hid (show GV W3 _ L' W' O' from ⟨_, _, _, rfl, HR.out.1.rd.gr g3, HR.out.2.1.rd.gr g3, HR.out.2.2.1.rd.gr g3⟩)
  have HW := Lib.hid (HR.out.2.2.2.1.gr g3)
  have hok := clean_ok L' W' O'
  have hn64 := hok.n64
  clear HR g1 g2 g3 hA x0 x1 x2 xf
  obtain ⟨s, hs⟩ : ∃ s, clean L' W' O' = s := ⟨_, rfl⟩
  have C16 := Lib.hid (fun w' (g' : Gr W3 w') => gall _ _ _ _ w' (HV.out.gr g'))
  have C18 := Lib.hid (fun w' (g' : Gr W3 w') => ggivers _ _ _ _ t w' (HV.out.gr g'))
  rw [hs] at C16 C18 HW hok hn64 b2 ⊢
  have C17 := Lib.hid (fun w' (g' : Gr W3 w') => gallR _ s hok w' (HW.out.gr g'))
  have C14 := Lib.hid (fun w' (g' : Gr W3 w') (i : Nat) (hi : i < s.n) => ggiversR _ s hok w' (HW.out.gr g') i hi)
  have HL := Lib.hid (And.intro (show s.all.length ≤ 1000 by have := GS.all_le hok; omega) (show (s.givL t s.n).length ≤ 1000 by have := s.givL_le t s.n; omega))
  clear HV hs
  obtain ⟨x0, x1, x2, xf⟩ := b1.c3
  obtain ⟨y0, y1, y2, yf⟩ := b2.c3
  go_upto_region 3 with fail
  go_cut [21] (fun v wx => v = .bool (s.th t) ∧ W3 = wx)
  case first =>
    by_cases h0 : 0 ≤ t
    · have hd : decide (0 ≤ t) = true := by simpa using h0
      by_cases h1 : t < s.n
      · have hd2 : decide (t < (s.n : Int)) = true := by simpa using h1
        go_wp2_with fail
        go_meet
        case rel => exact ⟨congrArg Value.bool (by simp [GS.th]; omega), rfl⟩
      · have hd2 : decide (t < (s.n : Int)) = false := by simpa using h1
        go_wp2_with fail
        go_meet
        case rel => exact ⟨congrArg Value.bool (by simp [GS.th]; omega), rfl⟩
    · have hd : decide (0 ≤ t) = false := by simpa using h0
      go_wp2_with fail
      go_meet
      case rel => exact ⟨congrArg Value.bool (by simp [GS.th]; omega), rfl⟩
  case rest =>
  obtain ⟨rfl, rfl⟩ := hcut
  go_upto_if 21 with fail
  go_cut [7] (fun v wx => Sl 3 .i64 wx v (s.givL t s.n) ∧ Gr W3 wx)
  case first =>
    cases hth : s.th t
    · have HN := Lib.hid (GS.givL_no hth s.n)
      clear hth
      go_wp2_with fail
      go_meet
      case rel => exact ⟨by rw [HN.out]; exact Sl.nil _ _ _, Gr.refl _⟩
    · have hth' := hth
      simp only [GS.th, decide_eq_true_eq] at hth'
      obtain ⟨i, rfl⟩ := Int.eq_ofNat_of_zero_le hth'.1
      have C := Lib.hid (C14.out W3 (Gr.refl _) i (by omega))
      clear hth hth'
      go_wp2_with (go_at_call 14; refine (C.out).mono ?_; rintro e w4 ⟨v4, rfl, s4, _, g4⟩)
      go_meet
      case rel => exact ⟨s4, g4⟩
  case rest =>
  obtain ⟨hv, gc⟩ := hcut
  obtain ⟨av, cv, hve, _, _⟩ := hv.len
  subst hve
  have HB := Lib.hid (And.intro b1 b2)
  have HS := Lib.hid hv
  clear x0 x1 x2 xf y0 y1 y2 yf b1 b2 hv
  obtain ⟨zs, hzs⟩ : ∃ zs, s.givL t s.n = zs := ⟨_, rfl⟩
  rw [hzs] at C18 HS HL ⊢
  obtain ⟨ys, hys⟩ : ∃ ys, s.all = ys := ⟨_, rfl⟩
  rw [hys] at C16 C17 HL
  clear hzs hys
  go_upto_region 5 with fail
  have GC := Lib.hid gc
  clear gc
  go_region_held3 (fun w' => w'.cell? ⟨P, 0, none⟩ = some (.slice al' L'.length cl') ∧ w'.cell? ⟨P, 1, none⟩ = some (.slice aw' W'.length cw') ∧ w'.cell? ⟨P, 2, none⟩ = some (.slice ao' O'.length co') ∧ w'.cell? ⟨P + 1, 0, none⟩ = some (.slice e1 s.n e2) ∧ w'.cell? ⟨P + 1, 1, none⟩ = some (.slice e3 s.n e4) ∧ w'.cell? ⟨P + 1, 2, none⟩ = some (.slice e5 s.m e6))
    (first | exact keepPQ (HB.out.1.gr G9.out) (HB.out.2.gr G9.out) | exact keepPQ (HB.out.1.gr G8.out) (HB.out.2.gr G8.out) | exact keepPQ (HB.out.1.gr G7.out) (HB.out.2.gr G7.out) | exact keepPQ (HB.out.1.gr G6.out) (HB.out.2.gr G6.out) | exact keepPQ (HB.out.1.gr G5.out) (HB.out.2.gr G5.out) | exact keepPQ (HB.out.1.gr G4.out) (HB.out.2.gr G4.out) | exact keepPQ (HB.out.1.gr GC.out) (HB.out.2.gr GC.out) | exact keepPQ (HB.out.1.gr GC.out.drew) (HB.out.2.gr GC.out.drew))
    (first
    | (go_at_call 16; refine (C16.out _ GC.out.drew).mono ?_; rintro e w4 ⟨v4, rfl, s4, _, g4⟩; have G4 := Lib.hid (GC.out.drew.tr g4))
    | (go_at_call 17; refine (C17.out _ G4.out).mono ?_; rintro e w5 ⟨v5, rfl, s5, _, g5⟩; have G5 := Lib.hid (G4.out.tr g5))
    | (go_at_call 15; (with_reducible refine (same_any ys v4 v5 _ (s4.gr g5) s5 HL.out.1).mono ?_); rintro e w6 ⟨rfl, g6⟩; have G6 := Lib.hid (G5.out.tr g6))
    | (go_at_call 18; refine (C18.out _ G6.out).mono ?_; rintro e w7 ⟨v7, rfl, s7, _, g7⟩; have G7 := Lib.hid (G6.out.tr g7))
    | (go_at_call 15; (with_reducible refine (same_any zs v7 _ _ s7 (HS.out.gr (((((Gr.refl _).drew.tr g4).tr g5).tr g6).tr g7)) HL.out.2).mono ?_); rintro e w8 ⟨rfl, g8⟩; have G8 := Lib.hid (G7.out.tr g8))
    | (go_at_call 19; refine (awake25 _).mono ?_; rintro e w9 ⟨rfl, g9⟩; have G9 := Lib.hid (G8.out.tr g9)))
  all_goals
    go_wp2_with fail
    go_ret
    exact ⟨rfl, GG.out.tr G9.out⟩
end Go.Proofs.Ytkkobbomipcpoaa
