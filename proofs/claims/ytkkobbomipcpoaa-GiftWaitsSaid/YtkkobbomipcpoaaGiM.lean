/- Chapter 25 (gift): the document's Worse. -/
import Derived.Test.YtkkobbomipcpoaaGiL
namespace Go.Proofs.Ytkkobbomipcpoaa
open Go.RowKit
set_option linter.unusedVariables false
set_option maxHeartbeats 2000000
theorem el70 : Elem Try.prog 70 4 (.bool false) 1 1 := ⟨Try.underlying70, by kernel_rfl, rfl, by decide⟩
theorem run_make_gone (w : World) : (Instr.makeSlice 70 (.int .i64 64) (.int .i64 64)).run Try.prog w = .ok (.slice (some ⟨w.heap.size, 0, none⟩) 64 64) (w.alloc (.cells (metC []) 4)) := by
  have k1 := run_make_recs el70 64 (by omega) (by omega) w
  rw [show (recs 64 1 fun _ k => (Value.bool false).cells[k]!) = metC [] from by
    unfold recs metC
    congr 1] at k1
  exact k1
section
variable (rv : Value) (s : GS) (ok : s.Ok) (w : World) (h : RV w rv s)
include ok h
set_option maxRecDepth 100000 in
theorem rworse (eff : List Int) (ev : Value) (t : Int) (he : Rd w ev eff) : Calls Try.prog 35 #[rv, ev, .int .i64 t] w (Walk2 w s (worU s) (worP s) (fillF eff) t) := by
  have CN := Lib.hid (fun (i : Nat) w' (g' : Gr w w') (hi : i < s.n) => gnextR rv s ok w' (h.gr g') i hi)
  have CD := Lib.hid (fun (i : Nat) w' (g' : Gr w w') (hi : i < s.n) (v : Value) (f : Nat → Int) (hv : Rd w' v (lst s.n f)) => rdue rv s ok w' (h.gr g') v f i hv hi)
  have CF := Lib.hid (fun w' (g' : Gr w w') => rfilled rv s ok w' (h.gr g') eff ev (he.gr g'))
  have hnb := Lib.hid (GS.next_bd ok)
  obtain ⟨vl, vw, vo, rfl, h1, h2, h3⟩ := h
  obtain ⟨al, cl, rfl, _, _⟩ := h1.hd'
  obtain ⟨aw, cw, rfl, _, _⟩ := h2.hd'
  obtain ⟨ao, co, rfl, _, _⟩ := h3.hd'
  obtain ⟨ae, ce, rfl, he1, he2⟩ := he.hd
  have hn64 := ok.n64
  clear h1 h2 h3 he
  have hmk := run_make_gone
  have hB := Blk.new w 26 #[.slice al s.n cl, .slice aw s.n cw, .slice ao s.m co]
  have g1 := (Gr.refl w).al (.cells #[.slice al s.n cl, .slice aw s.n cw, .slice ao s.m co] 26)
  go_enter Try.func35, Try.ntmps35
  go_upto_region 1 with fail
  generalize w.alloc (.cells #[.slice al s.n cl, .slice aw s.n cw, .slice ao s.m co] 26) = V at *
  obtain ⟨X, hX⟩ : ∃ X, w.heap.size = X := ⟨_, rfl⟩
  rw [hX] at hB ⊢
  obtain ⟨x0, x1, x2, xf⟩ := hB.c3
  go_upto_region 3 with (go_at_call 88; refine (CF.out _ g1).mono ?_; rintro e w2 ⟨v, rfl, sv, bv, g2⟩; obtain ⟨va, vc, rfl, hv1, hv2⟩ := sv.hd)
  have G2 := g1.tr g2
  have hX2 := hB.gr g2
  have hbv : ∀ b ∈ sb (.slice va s.n vc), w.heap.size ≤ b := fun b hb => by have := bv b hb; have := g1.size_le; omega
  have hGO := Blk.new w2 4 (metC [])
  have g3 := (Gr.refl w2).al (.cells (metC []) 4)
  have hGw : w.heap.size ≤ w2.heap.size := G2.size_le
  go_wp2_with fail
  have HI := Lib.hid (And.intro (sv.gr g3) (And.intro (G2.tr g3) (And.intro (hX2.gr g3) hGO)))
  clear x0 x1 x2 xf hB g1 g2 bv CF sv G2 hX2 hmk g3 hGO
  generalize w2.alloc (.cells (metC []) 4) = W3 at *
  generalize w2.heap.size = GO at *
  go_loopw [2, 9] (fun tv v2 wr => ∃ k : Nat, tv = .int .i64 (it s.next t k) ∧ NoEnd s.n s.next t k ∧ (∀ j, j < k → worP s (stW (worU s) (fillF eff) (road s.next t j)) (it s.next t j).toNat = true) ∧ Sl 3 .i64 wr (.slice va s.n vc) (lst s.n (stW (worU s) (fillF eff) (road s.next t k))) ∧ Sl 3 .i64 wr v2 (road s.next t k) ∧ Disj (sb (.slice va s.n vc)) (sb v2) ∧ (∀ b ∈ sb v2, w.heap.size ≤ b) ∧ Gr w wr ∧ Blk wr X 26 #[.slice al s.n cl, .slice aw s.n cw, .slice ao s.m co] ∧ Blk wr GO 4 (metC (road s.next t k))) (fun _ v2 _ => s.n - lenV v2)
  case atStart => exact ⟨0, rfl, fun j hj => absurd hj (by omega), fun j hj => absurd hj (by omega), HI.out.1, Sl.nil _ _ _, by simp [Disj, sb], by simp [sb], HI.out.2⟩
  case round =>
    clear HI
    obtain ⟨k, rfl, hno, hon, hs, hm, hdj, hbm, gr, hXb, hGb⟩ := hrel
    have hkl := hno.le
    have hlen := road_length (f := s.next) (t := t) k
    have HN := Lib.hid (And.intro hno hon)
    clear hno hon
    obtain ⟨x0, x1, x2, xf⟩ := hXb.c3
    by_cases h0 : 0 ≤ it s.next t k ∧ it s.next t k < (s.n : Int)
    · obtain ⟨i, hi⟩ := Int.eq_ofNat_of_zero_le h0.1
      have hin : i < s.n := by omega
      have HE := Lib.hid hi
      have i1 : (0 : Int) ≤ (i : Int) := by omega
      have i2 : (i : Int) < (s.n : Int) := by omega
      have i3 : (i : Int) < 64 := by omega
      have t1 : decide (0 ≤ (i : Int)) = true := by simp
      have t3 : decide (i < s.n) = true := by simpa using hin
      by_cases hir : it s.next t k ∈ road s.next t k
      · have gc : wr.cell? ⟨GO, i, none⟩ = some (.bool true) := by rw [hGb.cell, metC_get (by omega), ← hi]; simp [hir]
        have HEnd := Lib.hid (show End s.n s.next t k from .inr hir)
        rw [hi]
        have HM := Lib.hid (And.intro hs hm)
        clear h0 hi hir hs hm hGb
        go_upto_region 4 with fail
        go_quiet (fail)
        go_wp2_with fail
        go_ret2
        exact ⟨k, _, _, ⟨HN.out.1, HN.out.2, .inl HEnd.out⟩, rfl, HM.out.1.gr ((Gr.refl _).drewN _), HM.out.2.gr ((Gr.refl _).drewN _), gr.drewN _⟩
      · have HGC := Lib.hid (show (metC (road s.next t k))[i]? = some (.bool false) by rw [metC_get (by omega), ← hi]; simp [hir])
        have gc : wr.cell? ⟨GO, i, none⟩ = some (.bool false) := (hGb.cell i).trans HGC.out
        have HNE := Lib.hid (show ¬ End s.n s.next t k by rintro (h | h) <;> contradiction)
        have hkn := (HN.out.1.up HNE.out).le
        obtain ⟨b1, o1, c1, hve, _, _, sc, sf⟩ := hs.at hin
        cases hve
        have HP := Lib.hid (show worP s (stW (worU s) (fillF eff) (road s.next t k)) i = decide (dueN s (stW (worU s) (fillF eff) (road s.next t k)) i s.n ≠ stW (worU s) (fillF eff) (road s.next t k) i) from rfl)
        have HU := Lib.hid (show worU s (stW (worU s) (fillF eff) (road s.next t k)) i = dueN s (stW (worU s) (fillF eff) (road s.next t k)) i s.n from rfl)
        obtain ⟨F, hF⟩ : ∃ F, stW (worU s) (fillF eff) (road s.next t k) = F := ⟨_, rfl⟩
        have HF := Lib.hid hF
        rw [hF] at sc hs HP HU
        rw [hi]
        obtain ⟨zs, hzs⟩ : ∃ zs, road s.next t k = zs := ⟨_, rfl⟩
        have HZ := Lib.hid hzs
        rw [hzs] at hm hlen hGb HGC
        have CD1 := Lib.hid (fun w' (g' : Gr wr w') => CD.out i w' (gr.tr g') hin _ F (hs.rd.gr g'))
        obtain ⟨dd, hdd⟩ : ∃ dd, dueN s F i s.n = dd := ⟨_, rfl⟩
        rw [hdd] at HP HU CD1
        obtain ⟨y, hy⟩ : ∃ y, F i = y := ⟨_, rfl⟩
        rw [hy] at sc HP
        have HW := Lib.hid (And.intro hXb (And.intro hGb (And.intro hs hm)))
        clear hF hzs h0 hi hy hdd hir
        go_upto_region 4 with fail
        by_cases hdy : dd = y
        · have t2 : (dd != y) = false := by simpa using hdy
          have HFL := Lib.hid (show worP s (stW (worU s) (fillF eff) (road s.next t k)) (it s.next t k).toNat = false by rw [HE.out, Int.toNat_natCast, HF.out, HP.out]; simpa using hdy)
          clear hs hm
          go_region_held3 (fun w' => w'.cell? ⟨X, 0, none⟩ = some (.slice al s.n cl) ∧ w'.cell? ⟨X, 1, none⟩ = some (.slice aw s.n cw) ∧ w'.cell? ⟨X, 2, none⟩ = some (.slice ao s.m co) ∧ w'.cell? ⟨GO, i, none⟩ = some (.bool false) ∧ w'.cell? ⟨b1, o1 + i, none⟩ = some (.int .i64 y))
            (first | exact ⟨g4.cell_some x0, g4.cell_some x1, g4.cell_some x2, g4.cell_some gc, g4.cell_some sc⟩ | exact ⟨x0, x1, x2, gc, sc⟩)
            (first | (go_at_call 92; refine (CD1.out _ ((Gr.refl _).drew)).mono ?_; rintro e w4 ⟨rfl, g4'⟩; have g4 := ((Gr.refl wr).drew).tr g4'))
          all_goals
            go_wp2_with fail
            go_ret2
            exact ⟨k, _, _, ⟨HN.out.1, HN.out.2, .inr HFL.out⟩, rfl, by rw [HF.out]; exact HW.out.2.2.1.gr g4, by rw [HZ.out]; exact HW.out.2.2.2.gr g4, gr.tr g4⟩
        · have t2 : (dd != y) = true := by simpa using hdy
          have HTR := Lib.hid (show worP s (stW (worU s) (fillF eff) (road s.next t k)) (it s.next t k).toNat = true by rw [HE.out, Int.toNat_natCast, HF.out, HP.out]; simpa using hdy)
          clear hs
          go_cut [41] (fun b wx => b = .bool true ∧ Gr wr wx)
          case first =>
            go_region_held3 (fun w' => w'.cell? ⟨X, 0, none⟩ = some (.slice al s.n cl) ∧ w'.cell? ⟨X, 1, none⟩ = some (.slice aw s.n cw) ∧ w'.cell? ⟨X, 2, none⟩ = some (.slice ao s.m co) ∧ w'.cell? ⟨GO, i, none⟩ = some (.bool false) ∧ w'.cell? ⟨b1, o1 + i, none⟩ = some (.int .i64 y))
              (first | exact ⟨g4.cell_some x0, g4.cell_some x1, g4.cell_some x2, g4.cell_some gc, g4.cell_some sc⟩ | exact ⟨x0, x1, x2, gc, sc⟩)
              (first | (go_at_call 92; refine (CD1.out _ ((Gr.refl _).drew)).mono ?_; rintro e w4 ⟨rfl, g4'⟩; have g4 := ((Gr.refl wr).drew).tr g4'))
            all_goals
              go_wp2_with fail
              go_meet
              case rel => exact ⟨rfl, g4⟩
          case rest =>
            obtain ⟨rfl, g5⟩ := hcut
            clear x0 x1 x2 xf gc sc sf hm hXb hGb
            have hX5 := HW.out.1.gr g5
            have hG5 := HW.out.2.1.gr g5
            have hs5 := HW.out.2.2.1.gr g5
            have hm5 := HW.out.2.2.2.gr g5
            have gc := (hG5.cell i).trans HGC.out
            have gf := hG5.frozen
            have nG : b1 ≠ GO := fun e => hs5.ne hG5 (by decide) (by simp [sb, e])
            have k6 : Ch [GO] wc (wc.setCell ⟨GO, i, none⟩ (.bool true)) := (Ch.refl _ _).st (by simp) _
            have g6 : Gr w (wc.setCell ⟨GO, i, none⟩ (.bool true)) := (gr.tr g5).st (p := ⟨GO, i, none⟩) hGw _
            have hs6 := hs5.ch k6 (fun z hz hmm => by simp at hmm; subst hmm; exact hs5.ne hG5 (by decide) hz)
            have hm6 := hm5.ch k6 (fun z hz hmm => by simp at hmm; subst hmm; exact hm5.ne hG5 (by decide) hz)
            have hX6 := hX5.ch k6 (by simpa using hX5.dif hG5 (by decide))
            have hG6 := hG5.st i (.bool true)
            rw [metC_set] at hG6
            have CD6 := Lib.hid (CD.out i _ g6 hin _ F hs6.rd)
            rw [show dueN s F i s.n = dd from HU.out] at CD6
            have H6 := Lib.hid (And.intro hs6 (And.intro hm6 (And.intro hX6 (And.intro hG6 g6))))
            clear hX5 hG5 hs5 hm5 hs6 hm6 hX6 hG6 g6 k6
            go_upto_region 6 with fail
            clear gc gf
            generalize wc.setCell ⟨GO, i, none⟩ (.bool true) = W6 at *
            obtain ⟨x0, x1, x2, xf⟩ := H6.out.2.2.1.c3
            obtain ⟨b1', o1', c1', hve, _, _, sc, sf⟩ := H6.out.1.at hin
            cases hve
            go_upto_region 7 with (go_at_call 92; refine (CD6.out).mono ?_; rintro e w7 ⟨rfl, g7⟩; have sc7 := g7.cell_some sc; have sf7 := (H6.out.1.gr g7).at hin; obtain ⟨b2', o2', c2', hve, _, _, _, sf8⟩ := sf7; cases hve)
            have hs7 := H6.out.1.gr g7
            have hm7 := H6.out.2.1.gr g7
            have hX7 := H6.out.2.2.1.gr g7
            have hG7 := H6.out.2.2.2.1.gr g7
            have g7w := H6.out.2.2.2.2.tr g7
            have k8 : Ch [b1] w7 (w7.setCell ⟨b1, o1 + i, none⟩ (.int .i64 dd)) := (Ch.refl _ _).st (by simp) _
            have g8 : Gr w (w7.setCell ⟨b1, o1 + i, none⟩ (.int .i64 dd)) := g7w.st (p := ⟨b1, o1 + i, none⟩) (hbv b1 (by simp [sb])) _
            have hs0 := hs7
            rw [show (Value.slice (some ⟨b1, o1, none⟩) s.n vc) = .slice (some ⟨b1, o1, none⟩) (lst s.n F).length vc by rw [lst_length]] at hs0
            have hs8 := hs0.st i (by rw [lst_length]; exact hin) dd
            rw [lst_set, lst_length] at hs8
            have hm8 := hm7.ch k8 (fun z hz hmm => by simp at hmm; subst hmm; exact hdj z (by simp [sb]) hz)
            have hX8 := hX7.ch k8 (fun hmm => by simp at hmm; exact hs7.ne hX7 (by decide) (by simp [sb, hmm]))
            have hG8 := hG7.ch k8 (fun hmm => by simp at hmm; exact hs7.ne hG7 (by decide) (by simp [sb, hmm]))
            have hbs : b1 < (w7.setCell ⟨b1, o1 + i, none⟩ (.int .i64 dd)).heap.size := hs8.inn b1 (by simp [sb])
            have hXm := hm8.ne hX8 (by decide)
            have hGm := hm8.ne hG8 (by decide)
            have H8 := Lib.hid (And.intro hs8 (And.intro hX8 (And.intro hG8 g8)))
            clear hs7 hm7 hX7 hG7 g7w hs0 hs8 hX8 hG8 g8 sc sf sc7 sf8 x0 x1 x2 xf k8
            generalize w7.setCell ⟨b1, o1 + i, none⟩ (.int .i64 dd) = W8 at *
            go_wp2_with (at_builtin; refine wpList_sl1 el22 .i64 (.tmp 52) (.tmp 54) _ _ _ _ _ rfl rfl rfl rfl hm8 ?_ ?_ ?_)
            · omega
            · omega
            intro v' w' hv' hch hf
            have g9 := H8.out.2.2.2.chs hch hbm
            have hX9 := H8.out.2.1.ch hch hXm
            have hG9 := H8.out.2.2.1.ch hch hGm
            obtain ⟨x0, x1, x2, xf⟩ := hX9.c3
            have hs9 := H8.out.1.ch hch hdj
            have hl' := hv'.len
            have C := Lib.hid (CN.out i w' g9 hin)
            go_wp2_with (go_at_call 89; refine (C.out).mono ?_; rintro e w10 ⟨rfl, g10⟩)
            go_roundw
            case rel =>
              have e1 : road s.next t (k + 1) = zs ++ [(i : Int)] := by rw [road_succ, HE.out, HZ.out]
              refine ⟨k + 1, by rw [← HE.out]; rfl, HN.out.1.up HNE.out, fun j hj => ?_, ?_, by rw [e1]; exact hv'.gr g10, fun z hz hm' => ?_, fun b hb => ?_, g9.tr g10, hX9.gr g10, by rw [e1]; exact hG9.gr g10⟩
              · by_cases hjk : j = k
                · rw [hjk]; exact HTR.out
                · exact HN.out.2 j (by omega)
              · rw [road_succ, HE.out, stW_snoc, HF.out, HU.out]
                exact hs9.gr g10
              · rcases hf z hm' with h | h
                · exact hdj z hz h
                · simp [sb] at hz; subst hz; omega
              · rcases hf b hb with h | h
                · exact hbm b h
                · have := H8.out.2.2.2.size_le; omega
            case measure =>
              obtain ⟨a1, cp1, rfl, _, _⟩ := hl'
              obtain ⟨a2, cp2, rfl, _, _⟩ := HW.out.2.2.2.len
              simp [lenV]; omega
    · have HEnd := Lib.hid (show End s.n s.next t k from .inl h0)
      obtain ⟨z, hz⟩ : ∃ z, it s.next t k = z := ⟨_, rfl⟩
      rw [hz] at h0 ⊢
      have hds : decide (0 ≤ z) = false ∨ (decide (0 ≤ z) = true ∧ decide (z < (s.n : Int)) = false) := by
        simp only [decide_eq_true_eq, decide_eq_false_iff_not]
        omega
      have HM := Lib.hid (And.intro hs hm)
      clear h0 hs hm hz
      go_upto_region 4 with fail
      rcases hds with d1 | ⟨d1, d2⟩
      all_goals
        go_quiet (fail)
        go_wp2_with fail
        go_ret2
        exact ⟨k, _, _, ⟨HN.out.1, HN.out.2, .inl HEnd.out⟩, rfl, HM.out.1.gr ((Gr.refl _).drewN _), HM.out.2.gr ((Gr.refl _).drewN _), gr.drewN _⟩
end
end Go.Proofs.Ytkkobbomipcpoaa
