/- Chapter 25 (gift): the document's Filled, due, Better, Ring. -/
import Derived.Test.YtkkobbomipcpoaaGiK
namespace Go.Proofs.Ytkkobbomipcpoaa
open Go.RowKit
set_option linter.unusedVariables false
set_option maxHeartbeats 2000000
section
variable (rv : Value) (s : GS) (ok : s.Ok) (w : World) (h : RV w rv s)
include ok h
set_option maxRecDepth 100000 in
theorem rfilled (eff : List Int) (ev : Value) (he : Rd w ev eff) : Calls Try.prog 88 #[rv, ev] w (NewL w (lst s.n (fillF eff))) := by
  have HE := Lib.hid he
  obtain ⟨vl, vw, vo, rfl, h1, h2, h3⟩ := h
  obtain ⟨al, cl, rfl, _, _⟩ := h1.hd'
  obtain ⟨aw, cw, rfl, _, _⟩ := h2.hd'
  obtain ⟨ao, co, rfl, _, _⟩ := h3.hd'
  obtain ⟨ae, ce, rfl, he1, he2⟩ := he.hd
  have hn64 := ok.n64
  clear h1 h2 h3 he
  have hB := Blk.new w 26 #[.slice al s.n cl, .slice aw s.n cw, .slice ao s.m co]
  have g1 := (Gr.refl w).al (.cells #[.slice al s.n cl, .slice aw s.n cw, .slice ao s.m co] 26)
  go_enter Try.func88, Try.ntmps88
  go_upto_region 1 with fail
  generalize w.alloc (.cells #[.slice al s.n cl, .slice aw s.n cw, .slice ao s.m co] 26) = V at *
  obtain ⟨X, hX⟩ : ∃ X, w.heap.size = X := ⟨_, rfl⟩
  rw [hX] at hB ⊢
  go_wp2_with fail
  go_loopw [5, 6] (fun v i wr => ∃ k : Nat, k ≤ s.n ∧ i = .int .i64 k ∧ Sl 3 .i64 wr v (lst k (fillF eff)) ∧ (∀ b ∈ sb v, w.heap.size ≤ b) ∧ Gr w wr ∧ Blk wr X 26 #[.slice al s.n cl, .slice aw s.n cw, .slice ao s.m co]) (fun _ i _ => s.n - (intOf i).toNat)
  case atStart => exact ⟨0, by omega, rfl, Sl.nil _ _ _, by simp [sb], g1, hB⟩
  case round =>
    obtain ⟨k, hk, rfl, hv, hsb, gr, hXb⟩ := hrel
    obtain ⟨c0, c1, c2, cf⟩ := hXb.c3
    have hle := lst_length k (fillF eff)
    by_cases hlt : k < s.n
    · have hd : decide ((k : Int) < (s.n : Int)) = true := by simpa using hlt
      have HK := Lib.hid (lst_succ k (fillF eff))
      have hXs := hv.ne hXb (by decide)
      go_upto_if 18 with fail
      go_cut [7] (fun v wx => v = .int .i64 (fillF eff k) ∧ wr = wx)
      case first =>
        by_cases hke : k < eff.length
        · obtain ⟨be, oe, ce', hve, _, _, ec0⟩ := (HE.out.gr gr).at hke
          cases hve
          have HF := Lib.hid (show fillF eff k = min (max (eff.getD k 0) 0) 8 by unfold fillF; rw [if_pos hke])
          have e1 : (0 : Int) ≤ (k : Int) := by omega
          have e2 : (k : Int) < (eff.length : Int) := by omega
          generalize eff.getD k 0 = z at *
          have hz : z < 0 ∨ (¬ z < 0 ∧ 8 < z) ∨ (¬ z < 0 ∧ ¬ 8 < z) := by omega
          rcases hz with hz | ⟨hz, hz2⟩ | ⟨hz, hz2⟩
          all_goals
            go_wp2_with fail
            go_meet
            case rel => exact ⟨congrArg _ (by rw [HF.out]; omega), rfl⟩
        · have HF := Lib.hid (show fillF eff k = 8 by unfold fillF; rw [if_neg hke])
          go_wp2_with fail
          go_meet
          case rel => exact ⟨congrArg _ HF.out.symm, rfl⟩
      case rest =>
        obtain ⟨rfl, rfl⟩ := hcut
        generalize fillF eff k = y at *
        generalize lst k (fillF eff) = zs at *
        go_wp2_with (at_builtin; refine wpList_sl1 el22 .i64 (.tmp 25) (.tmp 27) _ _ _ _ _ rfl rfl rfl rfl hv ?_ ?_ ?_)
        · omega
        · omega
        intro v' w' hv' hch hf
        go_wp2_with fail
        go_roundw
        case rel =>
          refine ⟨k + 1, by omega, by go_num, by rw [HK.out]; exact hv', fun b hb => ?_, gr.chs hch hsb, hXb.ch hch hXs⟩
          rcases hf b hb with h | h
          · exact hsb b h
          · have := gr.size_le; omega
        case measure => simp [intOf]; omega
    · have hks : s.n = k := by omega
      have hd : decide ((k : Int) < (s.n : Int)) = false := by simp; omega
      have HK := Lib.hid (show lst s.n (fillF eff) = lst k (fillF eff) by rw [hks])
      clear hks
      go_wp2_with fail
      go_ret
      exact ⟨_, rfl, by rw [HK.out]; exact hv, hsb, gr⟩
set_option maxRecDepth 100000 in
theorem rdue (ev : Value) (f : Nat → Int) (t : Nat) (he : Rd w ev (lst s.n f)) (ht : t < s.n) : Calls Try.prog 92 #[rv, ev, .int .i64 t] w fun e w' => e = .returned (.int .i64 (dueN s f t s.n)) ∧ Gr w w' := by
  have HE := Lib.hid he
  have CN := Lib.hid (fun (i : Nat) w' (g' : Gr w w') (hi : i < s.n) => gnextR rv s ok w' (h.gr g') i hi)
  have HD := Lib.hid (show ∀ k, dueN s f t (k + 1) = if s.next k = t then min (dueN s f t k) (f k) else dueN s f t k from fun _ => rfl)
  obtain ⟨vl, vw, vo, rfl, h1, h2, h3⟩ := h
  obtain ⟨bl, ol, cl, rfl, _, _, lc⟩ := h1.at' ht
  obtain ⟨aw, cw, rfl, _, _⟩ := h2.hd'
  obtain ⟨ao, co, rfl, _, _⟩ := h3.hd'
  obtain ⟨ae, ce, rfl, he1, he2⟩ := he.hd'
  have hn64 := ok.n64
  clear h1 h2 h3 he
  have hB := Blk.new w 26 #[.slice (some ⟨bl, ol, none⟩) s.n cl, .slice aw s.n cw, .slice ao s.m co]
  have g1 := (Gr.refl w).al (.cells #[.slice (some ⟨bl, ol, none⟩) s.n cl, .slice aw s.n cw, .slice ao s.m co] 26)
  replace lc := g1.cell_some lc
  have HD0 := Lib.hid (show dueN s f t 0 = s.lev t from rfl)
  obtain ⟨z0, hz0⟩ : ∃ z0, s.lev t = z0 := ⟨_, rfl⟩
  rw [hz0] at HD0 lc
  clear hz0
  have i1 : (0 : Int) ≤ (t : Int) := by omega
  have i2 : (t : Int) < (s.n : Int) := by omega
  go_enter Try.func92, Try.ntmps92
  go_upto_region 1 with fail
  generalize w.alloc (.cells #[.slice (some ⟨bl, ol, none⟩) s.n cl, .slice aw s.n cw, .slice ao s.m co] 26) = V at *
  generalize w.heap.size = X at *
  obtain ⟨x0, x1, x2, xf⟩ := hB.c3
  go_wp2_with fail
  clear x0 x1 x2 xf lc
  go_loopw [7, 8] (fun b i wr => ∃ k : Nat, k ≤ s.n ∧ i = .int .i64 k ∧ b = .int .i64 (dueN s f t k) ∧ Gr w wr ∧ Blk wr X 26 #[.slice (some ⟨bl, ol, none⟩) s.n cl, .slice aw s.n cw, .slice ao s.m co]) (fun _ i _ => s.n - (intOf i).toNat)
  case atStart => exact ⟨0, by omega, rfl, by rw [HD0.out], g1, hB⟩
  case round =>
    obtain ⟨k, hk, rfl, rfl, gr, hXb⟩ := hrel
    obtain ⟨x0, x1, x2, xf⟩ := hXb.c3
    by_cases hlt : k < s.n
    · have hd : decide ((k : Int) < (s.n : Int)) = true := by simpa using hlt
      have C := Lib.hid (CN.out k wr gr hlt)
      have HK := Lib.hid (HD.out k)
      by_cases hn : s.next k = t
      · rw [hn] at C
        have HK2 := Lib.hid (show dueN s f t (k + 1) = min (dueN s f t k) (f k) by rw [HK.out, if_pos hn])
        obtain ⟨be, oe, ce', hve, _, _, ec0⟩ := HE.out.at' hlt
        cases hve
        generalize f k = z at *
        generalize dueN s f t k = bb at *
        have k1 : (0 : Int) ≤ (k : Int) := by omega
        have k2 : (k : Int) < (s.n : Int) := by omega
        have htt : ((t : Int) == (t : Int)) = true := by simp
        clear hn HK
        by_cases hm : z < bb
        · go_wp2_with (first
            | (go_at_call 89; refine (C.out).mono ?_; rintro e w4 ⟨rfl, g4⟩; have ec := (gr.tr g4).cell_some ec0))
          go_roundw
          case rel => exact ⟨k + 1, by omega, by go_num, by rw [HK2.out]; exact congrArg _ (by omega), gr.tr g4, hXb.gr g4⟩
          case measure => simp [intOf]; omega
        · go_wp2_with (first
            | (go_at_call 89; refine (C.out).mono ?_; rintro e w4 ⟨rfl, g4⟩; have ec := (gr.tr g4).cell_some ec0))
          go_roundw
          case rel => exact ⟨k + 1, by omega, by go_num, by rw [HK2.out]; exact congrArg _ (by omega), gr.tr g4, hXb.gr g4⟩
          case measure => simp [intOf]; omega
      · have HK2 := Lib.hid (show dueN s f t (k + 1) = dueN s f t k by rw [HK.out, if_neg hn])
        have hb : (s.next k == (t : Int)) = false := by simpa using hn
        clear hn HK
        generalize dueN s f t k = bb at *
        go_wp2_with (go_at_call 89; refine (C.out).mono ?_; rintro e w4 ⟨rfl, g4⟩)
        go_roundw
        case rel => exact ⟨k + 1, by omega, by go_num, by rw [HK2.out], gr.tr g4, hXb.gr g4⟩
        case measure => simp [intOf]; omega
    · have hks : s.n = k := by omega
      have hd : decide ((k : Int) < (s.n : Int)) = false := by simp; omega
      have HK := Lib.hid (show dueN s f t s.n = dueN s f t k by rw [hks])
      clear hks
      go_wp2_with fail
      go_ret
      exact ⟨by rw [HK.out]; rfl, gr⟩
set_option maxRecDepth 100000 in
theorem rbetter (eff : List Int) (ev : Value) (t : Int) (he : Rd w ev eff) : Calls Try.prog 33 #[rv, ev, .int .i64 t] w (Walk2 w s (betU (s.lev t.toNat)) (betP (s.lev t.toNat)) (fillF eff) t) := by
  have CN := Lib.hid (fun (i : Nat) w' (g' : Gr w w') (hi : i < s.n) => gnextR rv s ok w' (h.gr g') i hi)
  have CF := Lib.hid (fun w' (g' : Gr w w') => rfilled rv s ok w' (h.gr g') eff ev (he.gr g'))
  have hnb := Lib.hid (GS.next_bd ok)
  obtain ⟨vl, vw, vo, rfl, h1, h2, h3⟩ := h
  have HL := Lib.hid h1
  obtain ⟨al, cl, rfl, _, _⟩ := h1.hd'
  obtain ⟨aw, cw, rfl, _, _⟩ := h2.hd'
  obtain ⟨ao, co, rfl, _, _⟩ := h3.hd'
  obtain ⟨ae, ce, rfl, he1, he2⟩ := he.hd
  have hn64 := ok.n64
  clear h1 h2 h3 he
  have hB := Blk.new w 26 #[.slice al s.n cl, .slice aw s.n cw, .slice ao s.m co]
  have g1 := (Gr.refl w).al (.cells #[.slice al s.n cl, .slice aw s.n cw, .slice ao s.m co] 26)
  go_enter Try.func33, Try.ntmps33
  go_upto_region 1 with fail
  generalize w.alloc (.cells #[.slice al s.n cl, .slice aw s.n cw, .slice ao s.m co] 26) = V at *
  obtain ⟨X, hX⟩ : ∃ X, w.heap.size = X := ⟨_, rfl⟩
  rw [hX] at hB ⊢
  obtain ⟨x0, x1, x2, xf⟩ := hB.c3
  go_upto_region 3 with (go_at_call 88; refine (CF.out _ g1).mono ?_; rintro e w2 ⟨v, rfl, sv, bv, g2⟩; obtain ⟨va, vc, rfl, hv1, hv2⟩ := sv.hd)
  have G2 := g1.tr g2
  have hX2 := hB.gr g2
  have hbv : ∀ b ∈ sb (.slice va s.n vc), w.heap.size ≤ b := fun b hb => by have := bv b hb; have := g1.size_le; omega
  clear x0 x1 x2 xf hB g1 g2 bv CF
  obtain ⟨x0, x1, x2, xf⟩ := hX2.c3
  by_cases hth : 0 ≤ t ∧ t < s.n
  · obtain ⟨i0, rfl⟩ := Int.eq_ofNat_of_zero_le hth.1
    have hi0 : i0 < s.n := by omega
    have j1 : (0 : Int) ≤ (i0 : Int) := by omega
    have j2 : (i0 : Int) < (s.n : Int) := by omega
    have tt1 : decide ((i0 : Int) < 0) = false := by simp
    have tt2 : decide (s.n ≤ i0) = false := by simp; omega
    obtain ⟨bl, ol, cl1, hvl, _, _, lc⟩ := (HL.out.gr G2).at' hi0
    cases hvl
    obtain ⟨g, hg⟩ : ∃ g, s.lev ((i0 : Int)).toNat = g := ⟨_, rfl⟩
    have lc2 : w2.cell? ⟨bl, ol + i0, none⟩ = some (.int .i64 g) := by rw [← hg]; exact lc
    have HGE := Lib.hid hg
    have HI := Lib.hid (And.intro sv (And.intro G2 hX2))
    clear hg lc hth sv G2 hX2
    go_wp2_with fail
    clear lc2 x0 x1 x2 xf tt1 tt2
    go_loopw [2, 9] (fun tv v2 wr => ∃ k : Nat, tv = .int .i64 (it s.next i0 k) ∧ NoEnd s.n s.next i0 k ∧ (∀ j, j < k → betP g (stW (betU g) (fillF eff) (road s.next i0 j)) (it s.next i0 j).toNat = true) ∧ Sl 3 .i64 wr (.slice va s.n vc) (lst s.n (stW (betU g) (fillF eff) (road s.next i0 k))) ∧ Sl 3 .i64 wr v2 (road s.next i0 k) ∧ Disj (sb (.slice va s.n vc)) (sb v2) ∧ (∀ b ∈ sb v2, w.heap.size ≤ b) ∧ Gr w wr ∧ Blk wr X 26 #[.slice (some ⟨bl, ol, none⟩) s.n cl, .slice aw s.n cw, .slice ao s.m co]) (fun _ v2 _ => s.n - lenV v2)
    case atStart => exact ⟨0, rfl, fun j hj => absurd hj (by omega), fun j hj => absurd hj (by omega), HI.out.1, Sl.nil _ _ _, by simp [Disj, sb], by simp [sb], HI.out.2⟩
    case round =>
      clear HI
      obtain ⟨k, rfl, hno, hon, hs, hm, hdj, hbm, gr, hXb⟩ := hrel
      have hkl := hno.le
      have hlen := road_length (f := s.next) (t := (i0 : Int)) k
      have HN := Lib.hid (And.intro hno hon)
      clear hno hon
      have hb : -1 ≤ it s.next i0 k ∧ it s.next i0 k < (s.n : Int) := by
        cases k with
        | zero => exact ⟨by show -1 ≤ (i0 : Int); omega, j2⟩
        | succ k => exact hnb.out _
      by_cases h0 : 0 ≤ it s.next i0 k
      · obtain ⟨i, hi⟩ := Int.eq_ofNat_of_zero_le h0
        have hin : i < s.n := by omega
        obtain ⟨b1, o1, c1, hve, _, _, sc, sf⟩ := hs.at hin
        cases hve
        have HE := Lib.hid hi
        have i1 : (0 : Int) ≤ (i : Int) := by omega
        have i2 : (i : Int) < (s.n : Int) := by omega
        have t1 : decide (0 ≤ (i : Int)) = true := by simp
        have HR := Lib.hid (fun (y : Int) (hy : y ∈ road s.next i0 k) => show 0 ≤ y by obtain ⟨j, hj, rfl⟩ := mem_road.1 hy; exact (HN.out.1.bd hj).1)
        have HP := Lib.hid (show betP g (stW (betU g) (fillF eff) (road s.next i0 k)) i = decide (g < stW (betU g) (fillF eff) (road s.next i0 k) i) from rfl)
        have HST := Lib.hid (stW_bet (g := g) (f0 := fillF eff) (road s.next i0 k) i HR.out)
        obtain ⟨F, hF⟩ : ∃ F, stW (betU g) (fillF eff) (road s.next i0 k) = F := ⟨_, rfl⟩
        have HF := Lib.hid hF
        rw [hF] at sc hs HP HST
        rw [hi]
        obtain ⟨zs, hzs⟩ : ∃ zs, road s.next i0 k = zs := ⟨_, rfl⟩
        have HZ := Lib.hid hzs
        rw [hzs] at hm hlen
        obtain ⟨y, hy⟩ : ∃ y, F i = y := ⟨_, rfl⟩
        rw [hy] at sc HP HST
        clear hF hzs h0 hb hi hy
        by_cases hgy : g < y
        · have t2 : decide (g < y) = true := by simpa using hgy
          have hnin : (i : Int) ∉ road s.next i0 k := fun hmm => by have := HST.out; rw [if_pos hmm] at this; omega
          have HNE := Lib.hid (show ¬ End s.n s.next i0 k by
            rintro (h | h)
            · rw [HE.out] at h; omega
            · rw [HE.out] at h; exact hnin h)
          have hkn := (HN.out.1.up HNE.out).le
          have C := Lib.hid (fun w' (g' : Gr w w') => CN.out i w' g' hin)
          clear hnin
          have hm1 := hm.ch ((Ch.refl [b1] wr).st (p := ⟨b1, o1 + i, none⟩) (by simp) (.int .i64 g)) (fun z hz hmm => by simp at hmm; subst hmm; exact hdj z (by simp [sb]) hz)
          have gr1 := gr.st (p := ⟨b1, o1 + i, none⟩) (hbv b1 (by simp [sb])) (.int .i64 g)
          have hX1 := hXb.far (p := ⟨b1, o1 + i, none⟩) (fun e => hs.ne hXb (by decide) (by simp [sb, e])) (.int .i64 g)
          have hs0 := hs
          rw [show (Value.slice (some ⟨b1, o1, none⟩) s.n vc) = .slice (some ⟨b1, o1, none⟩) (lst s.n F).length vc by rw [lst_length]] at hs0
          have hs1 := hs0.st i (by rw [lst_length]; exact hin) g
          rw [lst_set, lst_length] at hs1
          have hXm := hm1.ne hX1 (by decide)
          have HS1 := Lib.hid (And.intro hs1 (And.intro gr1 hX1))
          have hbs : b1 < (wr.setCell ⟨b1, o1 + i, none⟩ (.int .i64 g)).heap.size := hs1.inn b1 (by simp [sb])
          clear hs hs0 hs1 gr1 hX1
          go_upto_region 8 with fail
          clear sc
          generalize wr.setCell ⟨b1, o1 + i, none⟩ (.int .i64 g) = W1 at *
          go_wp2_with (at_builtin; refine wpList_sl1 el22 .i64 (.tmp 44) (.tmp 46) _ _ _ _ _ rfl rfl rfl rfl hm1 ?_ ?_ ?_)
          · omega
          · omega
          intro v' w' hv' hch hf
          have g6 := HS1.out.2.1.chs hch hbm
          have hX6 := HS1.out.2.2.ch hch hXm
          obtain ⟨x0, x1, x2, xf⟩ := hX6.c3
          have hs6 := HS1.out.1.ch hch hdj
          have hl' := hv'.len
          go_wp2_with (go_at_call 89; refine (C.out _ g6).mono ?_; rintro e w7 ⟨rfl, g7⟩)
          go_roundw
          case rel =>
            have e1 : road s.next i0 (k + 1) = zs ++ [(i : Int)] := by rw [road_succ, HE.out, HZ.out]
            refine ⟨k + 1, by rw [← HE.out]; rfl, HN.out.1.up HNE.out, fun j hj => ?_, ?_, by rw [e1]; exact hv'.gr g7, fun z hz hm' => ?_, fun b hb => ?_, g6.tr g7, hX6.gr g7⟩
            · by_cases hjk : j = k
              · rw [hjk, HE.out, Int.toNat_natCast, HF.out, HP.out]; simpa using hgy
              · exact HN.out.2 j (by omega)
            · rw [road_succ, HE.out, stW_snoc, HF.out]
              exact hs6.gr g7
            · rcases hf z hm' with h | h
              · exact hdj z hz h
              · simp [sb] at hz; subst hz; omega
            · rcases hf b hb with h | h
              · exact hbm b h
              · have := HS1.out.2.1.size_le; omega
          case measure =>
            obtain ⟨a1, cp1, rfl, _, _⟩ := hl'
            obtain ⟨a2, cp2, rfl, _, _⟩ := hm.len
            simp [lenV]; omega
        · have t2 : decide (g < y) = false := by simpa using hgy
          have HFL := Lib.hid (show betP g (stW (betU g) (fillF eff) (road s.next i0 k)) (it s.next i0 k).toNat = false by rw [HE.out, Int.toNat_natCast, HF.out, HP.out]; simpa using hgy)
          have HM := Lib.hid (And.intro hs hm)
          clear hs hm
          go_wp2_with fail
          go_ret2
          first | rw [HGE.out] | rw [show s.lev i0 = g from HGE.out]
          exact ⟨k, _, _, ⟨HN.out.1, HN.out.2, .inr HFL.out⟩, rfl, by rw [HF.out]; exact HM.out.1, by rw [HZ.out]; exact HM.out.2, gr⟩
      · have hm1 : it s.next i0 k = -1 := by omega
        have HEnd := Lib.hid (show End s.n s.next i0 k from .inl (by omega))
        rw [hm1]
        clear h0 hb hm1
        have HM := Lib.hid (And.intro hs hm)
        clear hs hm
        go_wp2_with fail
        go_ret2
        first | rw [HGE.out] | rw [show s.lev i0 = g from HGE.out]
        exact ⟨k, _, _, ⟨HN.out.1, HN.out.2, .inl HEnd.out⟩, rfl, HM.out.1, HM.out.2, gr⟩
  · have HEnd := Lib.hid (show End s.n s.next t 0 from .inl hth)
    have hds : decide (t < 0) = true ∨ (decide (t < 0) = false ∧ decide ((s.n : Int) ≤ t) = true) := by
      simp only [decide_eq_true_eq, decide_eq_false_iff_not]
      omega
    have HI := Lib.hid (And.intro sv G2)
    clear hth sv G2
    rcases hds with d1 | ⟨d1, d2⟩
    all_goals
      go_wp2_with fail
      go_ret2
      exact ⟨0, _, _, ⟨fun j hj => absurd hj (by omega), fun j hj => absurd hj (by omega), .inl HEnd.out⟩, rfl, HI.out.1, Sl.nil _ _ _, HI.out.2⟩
end
end Go.Proofs.Ytkkobbomipcpoaa
