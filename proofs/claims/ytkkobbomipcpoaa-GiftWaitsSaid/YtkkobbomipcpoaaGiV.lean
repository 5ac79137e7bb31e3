/- Chapter 25 (gift): the document's Ring, and a graph in which a thread has another level. -/
import Derived.Test.YtkkobbomipcpoaaGiN
import Derived.Test.YtkkobbomipcpoaaGiU
import Derived.Test.YtkkobbomipcpoaaKit9
namespace Go.Proofs.Ytkkobbomipcpoaa
open Go.RowKit
set_option linter.unusedVariables false
set_option maxHeartbeats 2000000
theorem ring_none {s : GS} (h : ∀ t : Nat, t < s.n → ¬ (0 ≤ s.next t ∧ gives s.n s.next (s.next t) t = true)) : Open s.next := by
  intro t ht j e
  have e2 : it s.next (s.next t) j = t := by rw [← it_step]; exact e
  by_cases hb : 0 ≤ t ∧ t < (s.n : Int)
  · obtain ⟨q, rfl⟩ := Int.eq_ofNat_of_zero_le hb.1
    refine h q (by omega) ⟨?_, (gives_iff s.next_out _ hb).2 ⟨j, e2⟩⟩
    refine Classical.byContradiction fun hn => ?_
    have : it s.next (s.next q) j = -1 ∨ j = 0 := by
      cases j with
      | zero => exact .inr rfl
      | succ j =>
        left
        rw [show j + 1 = 1 + j by omega, it_add]
        have : it s.next (s.next q) 1 = -1 := by show s.next (s.next q) = -1; exact s.next_out _ (by omega)
        rw [this, it_one _ _ s.next_neg]
    rcases this with h1 | h1
    · rw [h1] at e2; omega
    · subst h1
      have : s.next q = (q : Int) := e2
      omega
  · rw [s.next_out t hb, it_one _ _ s.next_neg] at e2
    exact ht e2.symm
section
variable (rv : Value) (s : GS) (ok : s.Ok) (w : World) (h : RV w rv s)
include ok h
set_option maxRecDepth 100000 in
theorem rringG : Calls Try.prog 36 #[rv] w fun e w' => ∃ b : Bool, e = .returned (.bool b) ∧ (b = false → Open s.next) ∧ Gr w w' := by
  have CN := Lib.hid (fun (i : Nat) w' (g' : Gr w w') (hi : i < s.n) => gnextR rv s ok w' (h.gr g') i hi)
  have CG := Lib.hid (fun (u : Int) (t : Nat) w' (g' : Gr w w') (hu : -1 ≤ u ∧ u < s.n) => ggivesR rv s ok w' (h.gr g') u t hu (by omega))
  have hnb := Lib.hid (GS.next_bd ok)
  obtain ⟨vl, vw, vo, rfl, h1, h2, h3⟩ := h
  obtain ⟨al, cl, rfl, _, _⟩ := h1.hd'
  obtain ⟨aw, cw, rfl, _, _⟩ := h2.hd'
  obtain ⟨ao, co, rfl, _, _⟩ := h3.hd'
  have hn64 := ok.n64
  clear h1 h2 h3
  have hB := Blk.new w 26 #[.slice al s.n cl, .slice aw s.n cw, .slice ao s.m co]
  have g1 := (Gr.refl w).al (.cells #[.slice al s.n cl, .slice aw s.n cw, .slice ao s.m co] 26)
  go_enter Try.func36, Try.ntmps36
  go_upto_region 1 with fail
  generalize w.alloc (.cells #[.slice al s.n cl, .slice aw s.n cw, .slice ao s.m co] 26) = V at *
  generalize w.heap.size = X at *
  go_wp2_with fail
  go_loopw [3] (fun i wr => ∃ k : Nat, k ≤ s.n ∧ i = .int .i64 k ∧ (∀ t : Nat, t < k → ¬ (0 ≤ s.next t ∧ gives s.n s.next (s.next t) t = true)) ∧ Gr w wr ∧ Blk wr X 26 #[.slice al s.n cl, .slice aw s.n cw, .slice ao s.m co]) (fun i _ => s.n - (intOf i).toNat)
  case atStart => exact ⟨0, by omega, rfl, fun t ht => absurd ht (by omega), g1, hB⟩
  case round =>
    obtain ⟨k, hk, rfl, hno, gr, hXb⟩ := hrel
    obtain ⟨c0, c1, c2, cf⟩ := hXb.c3
    have HN := Lib.hid hno
    clear hno
    by_cases hlt : k < s.n
    · have hd : decide ((k : Int) < (s.n : Int)) = true := by simpa using hlt
      have C1 := Lib.hid (CN.out k wr gr hlt)
      have hb := hnb.out k
      have HU : ∀ P : Prop, (∀ t : Nat, t < k → ¬ (0 ≤ s.next t ∧ gives s.n s.next (s.next t) t = true)) → ¬ (0 ≤ s.next k ∧ gives s.n s.next (s.next k) k = true) → ∀ t : Nat, t < k + 1 → ¬ (0 ≤ s.next t ∧ gives s.n s.next (s.next t) t = true) := fun _ h1 h2 t ht => by
        by_cases htk : t = k
        · rw [htk]; exact h2
        · exact h1 t (by omega)
      by_cases h0 : 0 ≤ s.next k
      · have C2 := Lib.hid (fun w' (g' : Gr w w') => CG.out (s.next k) k w' g' hb)
        have hd0 : decide (0 ≤ s.next k) = true := by simpa using h0
        cases hg : gives s.n s.next (s.next k) k
        · rw [hg] at C2
          have HK := Lib.hid (HU True HN.out (fun h => by rw [hg] at h; cases h.2))
          clear hg h0 hb HU
          generalize s.next k = y at *
          go_wp2_with (first
            | (go_at_call 89; refine (C1.out).mono ?_; rintro e w1 ⟨rfl, g2⟩; obtain ⟨d0, d1, d2, df⟩ := (hXb.gr g2).c3)
            | (go_at_call 67; refine (C2.out _ (gr.tr g2)).mono ?_; rintro e w3 ⟨rfl, g3⟩))
          go_roundw
          case rel => exact ⟨k + 1, by omega, by go_num, HK.out, (gr.tr g2).tr g3, (hXb.gr g2).gr g3⟩
          case measure => simp [intOf]; omega
        · rw [hg] at C2
          clear hg h0 hb HU
          generalize s.next k = y at *
          go_wp2_with (first
            | (go_at_call 89; refine (C1.out).mono ?_; rintro e w1 ⟨rfl, g2⟩; obtain ⟨d0, d1, d2, df⟩ := (hXb.gr g2).c3)
            | (go_at_call 67; refine (C2.out _ (gr.tr g2)).mono ?_; rintro e w3 ⟨rfl, g3⟩))
          go_ret
          exact ⟨true, rfl, fun h => (by cases h), (gr.tr g2).tr g3⟩
      · have hd0 : decide (0 ≤ s.next k) = false := by simpa using h0
        have HK := Lib.hid (HU True HN.out (fun h => h0 h.1))
        clear h0 hb HU
        generalize s.next k = y at *
        go_wp2_with (go_at_call 89; refine (C1.out).mono ?_; rintro e w1 ⟨rfl, g2⟩)
        go_roundw
        case rel => exact ⟨k + 1, by omega, by go_num, HK.out, gr.tr g2, hXb.gr g2⟩
        case measure => simp [intOf]; omega
    · have hks : s.n = k := by omega
      have hd : decide ((k : Int) < (s.n : Int)) = false := by simp; omega
      have HK := Lib.hid (ring_none (s := s) (fun t ht => HN.out t (by omega)))
      clear hks
      go_wp2_with fail
      go_ret
      exact ⟨false, rfl, fun _ => HK.out, gr⟩
end
set_option maxRecDepth 100000 in
theorem gturned (L W O : List Int) (vl vw vo : Value) (t : Nat) (l : Int) (w : World) (h1 : Rn w vl L) (h2 : Rn w vw W) (h3 : Rn w vo O) (ht : t < L.length) (hL : L.length ≤ 70) : Calls Try.prog 37 #[.agg #[vl, vw, vo], .int .i64 t, .int .i64 l] w fun e w' => ∃ vl', e = .returned (.agg #[vl', vw, vo]) ∧ Rn w' vl' (L.set t l) ∧ Gr w w' := by
  obtain ⟨al, cl, rfl, hl1, hl2, hl, hln⟩ := h1
  obtain ⟨aw, cw, rfl, hw1, hw2, hw, hwn⟩ := h2
  obtain ⟨ao, co, rfl, ho1, ho2, ho, hon⟩ := h3
  have hrow : ∃ b off, al = some ⟨b, off, none⟩ ∧ ∀ i, i < L.length → w.cell? ⟨b, off + i, none⟩ = some (.int .i64 (L.getD i 0)) := by
    rcases hl with h | h
    · rw [h] at ht; simp at ht
    · exact h
  obtain ⟨b, off, rfl, hc⟩ := hrow
  clear hl hw ho hln hwn hon
  have HC := Lib.hid hc
  clear hc
  go_enter Try.func37, Try.ntmps37
  go_upto_region 1 with fail
  have g1 := ((Gr.refl w).al (.cells #[.slice (some ⟨b, off, none⟩) L.length cl, .slice aw W.length cw, .slice ao O.length co] 24)).al (.cells #[.slice none 0 0, .slice none 0 0, .slice none 0 0] 24)
  have hB := (Blk.new w 24 #[.slice (some ⟨b, off, none⟩) L.length cl, .slice aw W.length cw, .slice ao O.length co]).al (.cells #[.slice none 0 0, .slice none 0 0, .slice none 0 0] 24)
  have hR := Blk.new (w.alloc (.cells #[.slice (some ⟨b, off, none⟩) L.length cl, .slice aw W.length cw, .slice ao O.length co] 24)) 24 #[.slice none 0 0, .slice none 0 0, .slice none 0 0]
  rw [World.size_alloc] at hR
  generalize (w.alloc (.cells #[.slice (some ⟨b, off, none⟩) L.length cl, .slice aw W.length cw, .slice ao O.length co] 24)).alloc (.cells #[.slice none 0 0, .slice none 0 0, .slice none 0 0] 24) = W1 at *
  obtain ⟨X, hX⟩ : ∃ X, w.heap.size = X := ⟨_, rfl⟩
  rw [hX] at hB hR ⊢
  have hE := Blk.new W1 3 #[]
  have g2 := g1.al (.cells #[] 3)
  have hB2 := hB.al (.cells #[] 3)
  have hR2 := hR.al (.cells #[] 3)
  have hW1 : w.heap.size ≤ W1.heap.size := g1.size_le
  obtain ⟨x0, x1, x2, xf⟩ := hB2.c3
  have hsE : Sl 3 .i64 (W1.alloc (.cells #[] 3)) (.slice (some ⟨W1.heap.size, 0, none⟩) 0 0) [] := ⟨_, 0, rfl, Nat.le_refl _, by omega, .inr ⟨W1.heap.size, 0, #[], rfl, hE, by simp, by simp⟩⟩
  go_wp2_with (at_builtin; refine wpList_slR el22 .i64 (.tmp 7) (.tmp 9) _ b off cl [] L _ rfl rfl rfl rfl hsE (fun i hi => g2.cell_some (HC.out i hi)) ?_ ?_ ?_)
  · simp; omega
  · simp; omega
  intro v' w' hv' hch hf
  have hnX : X ∉ sb (.slice (some ⟨W1.heap.size, 0, none⟩) 0 0) := by have := hB.lt; simp [sb]; omega
  have hnR : X + 1 ∉ sb (.slice (some ⟨W1.heap.size, 0, none⟩) 0 0) := by have := hR.lt; simp [sb]; omega
  have hB3 := hB2.ch hch hnX
  have hR3 := hR2.ch hch hnR
  have g3 : Gr w w' := g2.chs hch (by simp [sb]; omega)
  obtain ⟨bv, ov, cv, rfl, hv1, hv2, hvc, hvf, hvl⟩ := hv'.cells (by omega)
  have hnv : bv ≠ X := fun e => hv'.ne hB3 (by decide) (by simp [sb, e])
  have hnv2 : bv ≠ X + 1 := fun e => hv'.ne hR3 (by decide) (by simp [sb, e])
  have hvt := hvc t ht
  have hbw : w.heap.size ≤ bv := by
    rcases hf bv (by simp [sb]) with h | h
    · simp [sb] at h; omega
    · rw [World.size_alloc] at h; omega
  clear x0 x1 x2 xf hsE hE hB hR hB2 hR2 g1 g2 hch hf hvc
  obtain ⟨x0, x1, x2, xf⟩ := hB3.c3
  obtain ⟨r0, r1, r2, rf⟩ := hR3.c3
  have i1 : (0 : Int) ≤ (t : Int) := by omega
  have i2 : (t : Int) < (L.length : Int) := by omega
  have HV := Lib.hid hv'
  have HF := Lib.hid (And.intro hB3 (And.intro hR3 g3))
  have hXR : X ≠ X + 1 := by omega
  generalize L.getD t 0 = old at *
  clear hv' hB3 hR3 g3
  go_wp2_with fail
  refine bodyPost_ret (v := .agg #[.slice (some ⟨bv, ov, none⟩) L.length cv, .slice aw W.length cw, .slice ao O.length co]) ?_ rfl ?_
  · simp [results, Try.results37, go_sem, r0, r1, r2]
  · have s1 := HV.out.ch ((Ch.refl [X] _).st (p := ⟨X, 0, none⟩) (by simp) (.slice (some ⟨bv, ov, none⟩) L.length cv)) (fun y hy hm => by simp [sb] at hy hm; omega)
    have s2 := s1.st t ht l
    rw [List.length_set] at s2
    have cE : ∀ {w1 : World} {u1 u2 u3 : Value}, Ch [X + 1] w1 (((w1.setCell ⟨X + 1, 0, none⟩ u1).setCell ⟨X + 1, 1, none⟩ u2).setCell ⟨X + 1, 2, none⟩ u3) := (((Ch.refl _ _).st (by simp) _).st (by simp) _).st (by simp) _
    refine ⟨_, rfl, ?_, (((HF.out.2.2.st (p := ⟨X, 0, none⟩) (by simp [hX]) _).st (p := ⟨bv, ov + t, none⟩) hbw _).chs cE (by simp; omega))⟩
    exact (s2.ch cE (fun y hy hm => by simp [sb] at hy hm; omega)).rn
end Go.Proofs.Ytkkobbomipcpoaa
