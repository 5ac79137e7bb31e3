/- Chapter 25 (gift): the document's Next, Gives, Givers, All. -/
import Derived.Test.YtkkobbomipcpoaaGiC
import Derived.Test.YtkkobbomipcpoaaGiB
namespace Go.Proofs.Ytkkobbomipcpoaa
open Go.RowKit
set_option linter.unusedVariables false
set_option maxHeartbeats 2000000
section
variable (rv : Value) (s : GS) (ok : s.Ok) (w : World) (h : RV w rv s)
include ok h
set_option maxRecDepth 100000 in
theorem gnextR (i : Nat) (hi : i < s.n) : Calls Try.prog 89 #[rv, .int .i64 i] w fun e w' => e = .returned (.int .i64 (s.next i)) ∧ Gr w w' := by
  obtain ⟨vl, vw, vo, rfl, h1, h2, h3⟩ := h
  obtain ⟨al, cl, rfl, _, _⟩ := h1.hd'
  obtain ⟨b, off, cw, rfl, hw1, hw2, c1⟩ := h2.at' hi
  have hn64 := ok.n64
  have hm64 := ok.m64
  have hwb := ok.wt i
  have e0 : s.next i = if s.wt i < 0 then -1 else s.ow (s.wt i).toNat := by
    unfold GS.next
    rw [if_pos (by omega)]
    rfl
  rw [e0]
  have i1 : (0 : Int) ≤ (i : Int) := by omega
  have i2 : (i : Int) < (s.n : Int) := by omega
  by_cases hx : s.wt i < 0
  · obtain ⟨ao, co, rfl, ho1, ho2⟩ := h3.hd'
    have g1 := (Gr.refl w).al (.cells #[.slice al s.n cl, .slice (some ⟨b, off, none⟩) s.n cw, .slice ao s.m co] 26)
    replace c1 := g1.cell_some c1
    rw [if_pos hx]
    generalize s.wt i = x at *
    have t1 : decide (x < 0) = true := by simpa using hx
    clear e0 h1 h2 h3
    go_enter Try.func89, Try.ntmps89
    go_wp2_with fail
    go_ret
    exact ⟨rfl, g1⟩
  · obtain ⟨q, hq⟩ := Int.eq_ofNat_of_zero_le (show 0 ≤ s.wt i by omega)
    have hqm : q < s.m := by omega
    obtain ⟨b2, off2, co, rfl, ho1, ho2, c2⟩ := h3.at' hqm
    have hB := Blk.new w 26 #[.slice al s.n cl, .slice (some ⟨b, off, none⟩) s.n cw, .slice (some ⟨b2, off2, none⟩) s.m co]
    have g1 := (Gr.refl w).al (.cells #[.slice al s.n cl, .slice (some ⟨b, off, none⟩) s.n cw, .slice (some ⟨b2, off2, none⟩) s.m co] 26)
    replace c1 := g1.cell_some c1
    replace c2 := g1.cell_some c2
    rw [if_neg hx, hq, Int.toNat_natCast]
    rw [hq] at c1
    generalize s.ow q = y at *
    have t1 : decide ((q : Int) < 0) = false := by simp
    have q1 : (0 : Int) ≤ (q : Int) := by omega
    have q2 : (q : Int) < (s.m : Int) := by omega
    clear e0 h1 h2 h3 hx hq hwb
    go_enter Try.func89, Try.ntmps89
    go_upto_region 3 with fail
    generalize w.alloc (.cells #[.slice al s.n cl, .slice (some ⟨b, off, none⟩) s.n cw, .slice (some ⟨b2, off2, none⟩) s.m co] 26) = V at *
    generalize w.heap.size = X at *
    obtain ⟨d0, d1, d2, df⟩ := hB.c3
    go_quiet (fail)
    go_wp2_with fail
    go_ret
    exact ⟨rfl, g1.drewN _⟩
set_option maxRecDepth 100000 in
theorem ggivesR (u t : Int) (hu : -1 ≤ u ∧ u < s.n) (ht : t ≠ -1) : Calls Try.prog 67 #[rv, .int .i64 u, .int .i64 t] w fun e w' => e = .returned (.bool (gives s.n s.next u t)) ∧ Gr w w' := by
  have HC := Lib.hid (fun w' (g' : Gr w w') i hi => gnextR rv s ok w' (h.gr g') i hi)
  have hnb := Lib.hid (GS.next_bd ok)
  obtain ⟨vl, vw, vo, rfl, h1, h2, h3⟩ := h
  obtain ⟨al, cl, rfl, _, _⟩ := h1.hd'
  obtain ⟨aw, cw, rfl, _, _⟩ := h2.hd'
  obtain ⟨ao, co, rfl, _, _⟩ := h3.hd'
  have hn64 := ok.n64
  clear h1 h2 h3
  have hB := Blk.new w 26 #[.slice al s.n cl, .slice aw s.n cw, .slice ao s.m co]
  have g1 := (Gr.refl w).al (.cells #[.slice al s.n cl, .slice aw s.n cw, .slice ao s.m co] 26)
  go_enter Try.func67, Try.ntmps67
  go_upto_region 1 with fail
  generalize w.alloc (.cells #[.slice al s.n cl, .slice aw s.n cw, .slice ao s.m co] 26) = V at *
  generalize w.heap.size = X at *
  go_wp2_with fail
  go_loopw [7, 8] (fun x i wr => ∃ k : Nat, k ≤ s.n + 1 ∧ i = .int .i64 k ∧ x = .int .i64 (it s.next u k) ∧ (∀ j, j < k → it s.next u j ≠ t) ∧ Gr w wr ∧ Blk wr X 26 #[.slice al s.n cl, .slice aw s.n cw, .slice ao s.m co]) (fun _ i _ => s.n + 1 - (intOf i).toNat)
  case atStart => exact ⟨0, by omega, rfl, rfl, fun j hj => absurd hj (by omega), g1, hB⟩
  case round =>
    obtain ⟨k, hk, rfl, rfl, hno, gr, hXb⟩ := hrel
    obtain ⟨c0, c1, c2, cf⟩ := hXb.c3
    have HN := Lib.hid hno
    clear hno
    by_cases hlt : k ≤ s.n
    · have hd : decide ((k : Int) ≤ (s.n : Int)) = true := by simpa using hlt
      have hb : -1 ≤ it s.next u k ∧ it s.next u k < (s.n : Int) := by
        cases k with
        | zero => exact hu
        | succ k => exact hnb.out _
      by_cases h2 : it s.next u k = t
      · have HR := Lib.hid (show gives s.n s.next u t = true by simp only [gives, decide_eq_true_eq]; exact ⟨k, by omega, h2⟩)
        rw [h2]
        have htt : (t == t) = true := by simp
        clear h2 hb
        go_wp2_with fail
        go_ret
        exact ⟨by rw [HR.out]; rfl, gr⟩
      · have htt : (it s.next u k == t) = false := by simpa using h2
        have H2 := Lib.hid h2
        by_cases h0 : 0 ≤ it s.next u k
        · obtain ⟨i, hi⟩ := Int.eq_ofNat_of_zero_le h0
          have C := Lib.hid (HC.out wr gr i (by omega))
          have HE := Lib.hid (show it s.next u (k + 1) = s.next i by rw [← hi]; rfl)
          rw [hi] at htt ⊢
          clear h0 h2 hb hi
          go_wp2_with (go_at_call 89; refine (C.out).mono ?_; rintro e w1 ⟨rfl, g3⟩)
          go_roundw
          case rel =>
            refine ⟨k + 1, by omega, by go_num, by rw [HE.out], fun j hj => ?_, gr.tr g3, hXb.gr g3⟩
            by_cases hjk : j = k
            · rw [hjk]; exact H2.out
            · exact HN.out j (by omega)
          case measure => simp [intOf]; omega
        · have hm1 : it s.next u k = -1 := by omega
          have HE := Lib.hid (show it s.next u (k + 1) = -1 by show s.next (it s.next u k) = -1; rw [hm1]; exact s.next_neg)
          rw [hm1] at htt ⊢
          clear h0 h2 hb hm1
          go_wp2_with fail
          go_roundw
          case rel =>
            refine ⟨k + 1, by omega, by go_num, by rw [HE.out], fun j hj => ?_, gr, hXb⟩
            by_cases hjk : j = k
            · rw [hjk]; exact H2.out
            · exact HN.out j (by omega)
          case measure => simp [intOf]; omega
    · have hd : decide ((k : Int) ≤ (s.n : Int)) = false := by simp; omega
      go_wp2_with fail
      go_ret
      refine ⟨?_, gr⟩
      rw [show gives s.n s.next u t = false by simp only [gives, decide_eq_false_iff_not]; rintro ⟨j, hj, e⟩; exact HN.out j (by omega) e]
      rfl
set_option maxRecDepth 100000 in
theorem ggiversR (t : Nat) (ht : t < s.n) : Calls Try.prog 14 #[rv, .int .i64 t] w (NewL w (s.givL t s.n)) := by
  have HC := Lib.hid (fun w' (g' : Gr w w') (i : Nat) (hi : i < s.n) => ggivesR rv s ok w' (h.gr g') i t (by omega) (by omega))
  have HS := Lib.hid (show ∀ k, s.givL t (k + 1) = if gives s.n s.next k t then s.givL t k ++ [(k : Int)] else s.givL t k from fun k => by
    show (if s.gvI t k then _ else _) = _
    unfold GS.gvI
    rw [show s.th (t : Int) = true by simp [GS.th]; omega]
    rfl)
  obtain ⟨vl, vw, vo, rfl, h1, h2, h3⟩ := h
  obtain ⟨al, cl, rfl, _, _⟩ := h1.hd'
  obtain ⟨aw, cw, rfl, _, _⟩ := h2.hd'
  obtain ⟨ao, co, rfl, _, _⟩ := h3.hd'
  have hn64 := ok.n64
  clear h1 h2 h3
  have hB := Blk.new w 26 #[.slice al s.n cl, .slice aw s.n cw, .slice ao s.m co]
  have g1 := (Gr.refl w).al (.cells #[.slice al s.n cl, .slice aw s.n cw, .slice ao s.m co] 26)
  have t0 : decide (0 ≤ (t : Int)) = true := by simp
  go_enter Try.func14, Try.ntmps14
  go_upto_region 1 with fail
  generalize w.alloc (.cells #[.slice al s.n cl, .slice aw s.n cw, .slice ao s.m co] 26) = V at *
  obtain ⟨X, hX⟩ : ∃ X, w.heap.size = X := ⟨_, rfl⟩
  rw [hX] at hB ⊢
  go_wp2_with fail
  go_loopw [5, 6] (fun v i wr => ∃ k : Nat, k ≤ s.n ∧ i = .int .i64 k ∧ Sl 3 .i64 wr v (s.givL t k) ∧ (∀ b ∈ sb v, w.heap.size ≤ b) ∧ Gr w wr ∧ Blk wr X 26 #[.slice al s.n cl, .slice aw s.n cw, .slice ao s.m co]) (fun _ i _ => s.n - (intOf i).toNat)
  case atStart => exact ⟨0, by omega, rfl, Sl.nil _ _ _, by simp [sb], g1, hB⟩
  case round =>
    obtain ⟨k, hk, rfl, hv, hsb, gr, hXb⟩ := hrel
    obtain ⟨c0, c1, c2, cf⟩ := hXb.c3
    have hle := s.givL_le t k
    by_cases hlt : k < s.n
    · have hd : decide ((k : Int) < (s.n : Int)) = true := by simpa using hlt
      have C := Lib.hid (HC.out wr gr k hlt)
      have HK := Lib.hid (HS.out k)
      cases hg : gives s.n s.next k t
      · rw [hg] at C
        have HK2 := Lib.hid (show s.givL t (k + 1) = s.givL t k by rw [HK.out, hg]; rfl)
        clear HK hg
        go_wp2_with (go_at_call 67; refine (C.out).mono ?_; rintro e w1 ⟨rfl, g3⟩)
        go_roundw
        case rel => exact ⟨k + 1, by omega, by go_num, by rw [HK2.out]; exact hv.gr g3, hsb, gr.tr g3, hXb.gr g3⟩
        case measure => simp [intOf]; omega
      · rw [hg] at C
        have HK2 := Lib.hid (show s.givL t (k + 1) = s.givL t k ++ [(k : Int)] by rw [HK.out, hg]; rfl)
        clear HK hg
        generalize s.givL t k = zs at *
        go_wp2_with (first | (go_at_call 67; refine (C.out).mono ?_; rintro e w1 ⟨rfl, g3⟩; have hv2 := hv.gr g3) | (at_builtin; refine wpList_sl1 el22 .i64 (.tmp 22) (.tmp 24) _ _ _ _ _ rfl rfl rfl rfl hv2 ?_ ?_ ?_))
        · omega
        · omega
        intro v' w' hv' hch hf
        have hXs := hv2.ne (hXb.gr g3) (by decide)
        go_wp2_with fail
        go_roundw
        case rel =>
          refine ⟨k + 1, by omega, by go_num, by rw [HK2.out]; exact hv', fun b hb => ?_, (gr.tr g3).chs hch hsb, (hXb.gr g3).ch hch hXs⟩
          rcases hf b hb with h | h
          · exact hsb b h
          · have := (gr.tr g3).size_le; omega
        case measure => simp [intOf]; omega
    · have hks : s.n = k := by omega
      have hd : decide ((k : Int) < (s.n : Int)) = false := by simp; omega
      have HK := Lib.hid (show s.givL t s.n = s.givL t k by rw [hks])
      clear hks
      go_wp2_with fail
      go_ret
      exact ⟨_, rfl, by rw [HK.out]; exact hv, hsb, gr⟩
end
end Go.Proofs.Ytkkobbomipcpoaa
