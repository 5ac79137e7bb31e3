/- Chapter 25 (gift): the document's All, and that both tell the same. -/
import Derived.Test.YtkkobbomipcpoaaGiE
namespace Go.Proofs.Ytkkobbomipcpoaa
open Go.RowKit
set_option linter.unusedVariables false
set_option maxHeartbeats 2000000
def minL (lev : Nat → Int) (zs : List Int) : Int := zs.foldl (fun b x => min b (lev x.toNat)) 8
theorem minL_snoc (lev : Nat → Int) (zs : List Int) (x : Int) : minL lev (zs ++ [x]) = min (minL lev zs) (lev x.toNat) := by simp [minL]
theorem minL_giv (s : GS) (t : Int) : ∀ k, minL s.lev (s.givL t k) = bestN (s.gvI t) s.lev 8 k
  | 0 => rfl
  | k + 1 => by
    have ih := minL_giv s t k
    unfold GS.givL bestN
    split
    · rw [minL_snoc, ih]; rfl
    · exact ih
theorem mem_givL (s : GS) (t : Int) : ∀ k x, x ∈ s.givL t k → ∃ i : Nat, i < k ∧ x = (i : Int)
  | 0, x, h => by simp [GS.givL] at h
  | k + 1, x, h => by
    unfold GS.givL at h
    split at h
    · rcases List.mem_append.1 h with h | h
      · obtain ⟨i, hi, e⟩ := mem_givL s t k x h; exact ⟨i, by omega, e⟩
      · simp at h; exact ⟨k, by omega, h⟩
    · obtain ⟨i, hi, e⟩ := mem_givL s t k x h; exact ⟨i, by omega, e⟩
theorem bestN_le (gv : Nat → Bool) (lev : Nat → Int) (v0 : Int) : ∀ n, bestN gv lev v0 n ≤ v0
  | 0 => Int.le_refl _
  | n + 1 => by have := bestN_le gv lev v0 n; unfold bestN; split <;> omega
theorem bestN_mem (gv : Nat → Bool) (lev : Nat → Int) (v0 : Int) : ∀ n i, i < n → gv i = true → bestN gv lev v0 n ≤ lev i
  | n + 1, i, hi, hg => by
    unfold bestN
    by_cases h : i = n
    · subst h; rw [if_pos hg]; omega
    · have := bestN_mem gv lev v0 n i (by omega) hg
      split <;> omega
theorem le_bestN (gv : Nat → Bool) (lev : Nat → Int) (v0 x : Int) (h0 : x ≤ v0) : ∀ n, (∀ i, i < n → gv i = true → x ≤ lev i) → x ≤ bestN gv lev v0 n
  | 0, _ => h0
  | n + 1, h => by
    have := le_bestN gv lev v0 x h0 n (fun i hi => h i (by omega))
    unfold bestN
    split
    · rename_i hg; have := h n (by omega) hg; omega
    · exact this
theorem bestN_congr (gv gv' : Nat → Bool) (lev : Nat → Int) (v0 : Int) : ∀ n, (∀ i, i < n → gv i = gv' i) → bestN gv lev v0 n = bestN gv' lev v0 n
  | 0, _ => rfl
  | n + 1, h => by
    unfold bestN
    rw [bestN_congr gv gv' lev v0 n (fun i hi => h i (by omega)), h n (by omega)]
theorem gives_self (n : Nat) (f : Int → Int) (t : Int) : gives n f t t = true := by simp only [gives, decide_eq_true_eq]; exact ⟨0, by omega, rfl⟩
theorem GS.all_eq {s : GS} (ok : s.Ok) : s.all = lst s.n fun t => minL s.lev (s.givL t s.n) := by
  unfold GS.all
  refine lst_congr fun t ht => ?_
  rw [minL_giv, bestN_congr (s.gvI (t : Int)) (s.gv t) s.lev 8 s.n (fun i _ => by unfold GS.gvI GS.gv; rw [show s.th (t : Int) = true by simp [GS.th]; omega]; rfl)]
  have hs : s.gv t t = true := gives_self _ _ _
  apply Int.le_antisymm
  · refine le_bestN _ _ _ _ ?_ _ (fun i hi hg => bestN_mem _ _ _ _ i hi hg)
    have := bestN_mem (s.gv t) s.lev (s.lev t) s.n t ht hs
    have := (ok.lev t).2
    omega
  · refine le_bestN _ _ _ _ (bestN_mem _ _ _ _ t ht hs) _ (fun i hi hg => bestN_mem _ _ _ _ i hi hg)
section
variable (rv : Value) (s : GS) (ok : s.Ok) (w : World) (h : RV w rv s)
include ok h
set_option maxRecDepth 100000 in
theorem gallR : Calls Try.prog 17 #[rv] w (NewL w s.all) := by
  have HC := Lib.hid (fun w' (g' : Gr w w') (t : Nat) (ht : t < s.n) => ggiversR rv s ok w' (h.gr g') t ht)
  rw [GS.all_eq ok]
  obtain ⟨vl, vw, vo, rfl, h1, h2, h3⟩ := h
  have HL := Lib.hid h1
  obtain ⟨al, cl, rfl, _, _⟩ := h1.hd'
  obtain ⟨aw, cw, rfl, _, _⟩ := h2.hd'
  obtain ⟨ao, co, rfl, _, _⟩ := h3.hd'
  have hn64 := ok.n64
  clear h1 h2 h3
  have hB := Blk.new w 26 #[.slice al s.n cl, .slice aw s.n cw, .slice ao s.m co]
  have g1 := (Gr.refl w).al (.cells #[.slice al s.n cl, .slice aw s.n cw, .slice ao s.m co] 26)
  go_enter Try.func17, Try.ntmps17
  go_upto_region 1 with fail
  generalize w.alloc (.cells #[.slice al s.n cl, .slice aw s.n cw, .slice ao s.m co] 26) = V at *
  obtain ⟨X, hX⟩ : ∃ X, w.heap.size = X := ⟨_, rfl⟩
  rw [hX] at hB ⊢
  go_wp2_with fail
  go_loopw [3, 4] (fun v i wr => ∃ k : Nat, k ≤ s.n ∧ i = .int .i64 k ∧ Sl 3 .i64 wr v (lst k fun t => minL s.lev (s.givL t s.n)) ∧ (∀ b ∈ sb v, w.heap.size ≤ b) ∧ Gr w wr ∧ Blk wr X 26 #[.slice al s.n cl, .slice aw s.n cw, .slice ao s.m co]) (fun _ i _ => s.n - (intOf i).toNat)
  case atStart => exact ⟨0, by omega, rfl, Sl.nil _ _ _, by simp [sb], g1, hB⟩
  case round =>
    obtain ⟨k, hk, rfl, hv, hsb, gr, hXb⟩ := hrel
    obtain ⟨c0, c1, c2, cf⟩ := hXb.c3
    have hle := lst_length k (fun t => minL s.lev (s.givL t s.n))
    by_cases hlt : k < s.n
    · have hd : decide ((k : Int) < (s.n : Int)) = true := by simpa using hlt
      have C := Lib.hid (HC.out wr gr k hlt)
      have HK := Lib.hid (lst_succ k (fun t => minL s.lev (s.givL t s.n)))
      have hgl := s.givL_le k s.n
      have HM := Lib.hid (fun x hx => mem_givL s k s.n x hx)
      obtain ⟨ys, hys⟩ : ∃ ys, s.givL k s.n = ys := ⟨_, rfl⟩
      rw [hys] at C HK hgl HM
      clear hys
      generalize (lst k fun t => minL s.lev (s.givL t s.n)) = zs at *
      go_upto_region 6 with (go_at_call 14; refine (C.out).mono ?_; rintro e w2 ⟨y, rfl, sy, by2, g2⟩)
      obtain ⟨ay, cy, rfl, hy1, hy2⟩ := sy.len
      have HI := Lib.hid (And.intro (hv.gr g2) (And.intro (gr.tr g2) (And.intro (hXb.gr g2) sy.rd)))
      clear c0 c1 c2 cf C hv gr hXb sy
      go_wp2_with fail
      go_loopw [6, 7] (fun b i wx => ∃ j : Nat, j ≤ ys.length ∧ i = .int .i64 j ∧ b = .int .i64 (minL s.lev (ys.take j)) ∧ Gr w2 wx) (fun _ i _ => ys.length - (intOf i).toNat)
      case atStart => exact ⟨0, by omega, rfl, rfl, Gr.refl _⟩
      case round =>
        obtain ⟨j, hj, rfl, rfl, g3⟩ := hrel
        obtain ⟨c0, c1, c2, cf⟩ := (HI.out.2.2.1.gr g3).c3
        by_cases hjl : j < ys.length
        · have hd3 : decide ((j : Int) < (ys.length : Int)) = true := by simpa using hjl
          obtain ⟨by1, oy, cy1, hvy, _, _, yc⟩ := (HI.out.2.2.2.gr g3).at hjl
          cases hvy
          obtain ⟨q, hq, hqe⟩ := HM.out (ys.getD j 0) (by simp [hjl])
          rw [hqe] at yc
          have HT := Lib.hid (show minL s.lev (ys.take (j + 1)) = min (minL s.lev (ys.take j)) (s.lev q) by rw [take_snoc ys j hjl, minL_snoc, hqe]; rfl)
          obtain ⟨bl, ol, cl1, hvl, _, _, lc⟩ := ((HL.out.gr HI.out.2.1).gr g3).at' hq
          cases hvl
          have j1 : (0 : Int) ≤ (j : Int) := by omega
          have j2 : (j : Int) < (ys.length : Int) := by omega
          have q1 : (0 : Int) ≤ (q : Int) := by omega
          have q2 : (q : Int) < (s.n : Int) := by omega
          generalize minL s.lev (ys.take j) = bb at *
          generalize s.lev q = lq at *
          clear hqe
          by_cases hm : lq < bb
          · go_wp2_with fail
            go_quiet (fail)
            go_wp2_with fail
            go_roundw
            case rel => exact ⟨j + 1, by omega, by go_num, by rw [HT.out]; exact congrArg _ (by omega), g3.drewN _⟩
            case measure => simp [intOf]; omega
          · go_wp2_with fail
            go_quiet (fail)
            go_wp2_with fail
            go_roundw
            case rel => exact ⟨j + 1, by omega, by go_num, by rw [HT.out]; exact congrArg _ (by omega), g3.drewN _⟩
            case measure => simp [intOf]; omega
        · have hd3 : decide ((j : Int) < (ys.length : Int)) = false := by simpa using hjl
          have HT := Lib.hid (show minL s.lev ys = minL s.lev (ys.take j) by rw [List.take_of_length_le (by omega)])
          generalize minL s.lev (ys.take j) = bb at *
          have hv3 := HI.out.1.gr g3
          have hXs := hv3.ne (HI.out.2.2.1.gr g3) (by decide)
          go_wp2_with (at_builtin; refine wpList_sl1 el22 .i64 (.tmp 34) (.tmp 36) _ _ _ _ _ rfl rfl rfl rfl hv3 ?_ ?_ ?_)
          · omega
          · omega
          intro v' w' hv' hch hf
          go_wp2_with fail
          go_roundw
          case rel =>
            refine ⟨k + 1, by omega, by go_num, by rw [HK.out, HT.out]; exact hv', fun b hb => ?_, (HI.out.2.1.tr g3).chs hch hsb, (HI.out.2.2.1.gr g3).ch hch hXs⟩
            rcases hf b hb with h | h
            · exact hsb b h
            · have := (HI.out.2.1.tr g3).size_le; omega
          case measure => simp [intOf]; omega
    · have hks : s.n = k := by omega
      have hd : decide ((k : Int) < (s.n : Int)) = false := by simp; omega
      have HK := Lib.hid (show (lst s.n fun t => minL s.lev (s.givL t s.n)) = lst k fun t => minL s.lev (s.givL t s.n) by rw [hks])
      clear hks
      go_wp2_with fail
      go_ret
      exact ⟨_, rfl, by rw [HK.out]; exact hv, hsb, gr⟩
end
end Go.Proofs.Ytkkobbomipcpoaa
