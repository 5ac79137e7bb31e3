/- Chapter 25 (gift): the document's graph is cleaned. -/
import Derived.Test.YtkkobbomipcpoaaGiC
namespace Go.Proofs.Ytkkobbomipcpoaa
open Go.RowKit
set_option linter.unusedVariables false
set_option maxHeartbeats 2000000
theorem keep6 {w : World} {A : Nat} {v0 v1 v2 : Value} (h : Blk w A 26 #[v0, v1, v2]) : w.cell? ⟨A, 0, none⟩ = some v0 ∧ w.cell? ⟨A, 1, none⟩ = some v1 ∧ w.cell? ⟨A, 2, none⟩ = some v2 ∧ w.frozen? ⟨A, 0, none⟩ = false ∧ w.frozen? ⟨A, 1, none⟩ = false ∧ w.frozen? ⟨A, 2, none⟩ = false := ⟨h.c3.1, h.c3.2.1, h.c3.2.2.1, h.frozen _, h.frozen _, h.frozen _⟩
set_option maxRecDepth 100000 in
theorem rclean (L W O : List Int) (vl vw vo : Value) (w : World) (h1 : Rd w vl L) (h2 : Rd w vw W) (h3 : Rd w vo O) : Calls Try.prog 66 #[vl, vw, vo] w fun e w' => ∃ rv, e = .returned rv ∧ RV w' rv (clean L W O) ∧ Gr w w' := by
  have HL := Lib.hid (And.intro h1 (And.intro h2 h3))
  obtain ⟨al, cl, rfl, hl1, hl2⟩ := h1.hd
  obtain ⟨aw, cw, rfl, hw1, hw2⟩ := h2.hd
  obtain ⟨ao, co, rfl, ho1, ho2⟩ := h3.hd
  clear h1 h2 h3
  have hR := Blk.new w 26 #[.slice none 0 0, .slice none 0 0, .slice none 0 0]
  have g1 := (Gr.refl w).al (.cells #[.slice none 0 0, .slice none 0 0, .slice none 0 0] 26)
  have hs1 : (w.alloc (.cells #[.slice none 0 0, .slice none 0 0, .slice none 0 0] 26)).heap.size = w.heap.size + 1 := by rw [World.size_alloc]
  obtain ⟨n, hn⟩ : ∃ n, n = min L.length 64 := ⟨_, rfl⟩
  obtain ⟨m, hm⟩ : ∃ m, m = min O.length 64 := ⟨_, rfl⟩
  have hn64 : n ≤ 64 := by omega
  have hm64 : m ≤ 64 := by omega
  have HC := Lib.hid (show (clean L W O).n = n ∧ (clean L W O).m = m ∧ (∀ i, (clean L W O).lev i = holdI (L.getD i 0)) ∧ (∀ i, (clean L W O).wt i = atI W i m) ∧ (∀ i, (clean L W O).ow i = atI O i n) by rw [hn, hm]; exact ⟨rfl, rfl, fun _ => rfl, fun _ => rfl, fun _ => rfl⟩)
  have HNM := Lib.hid (And.intro hn hm)
  clear hn hm
  go_enter Try.func66, Try.ntmps66
  go_upto_region 1 with fail
  generalize w.alloc (.cells #[.slice none 0 0, .slice none 0 0, .slice none 0 0] 26) = W1 at *
  go_cut [7] (fun v wx => v = .int .i64 (n : Int) ∧ W1 = wx)
  case first =>
    by_cases h64 : L.length ≤ 64
    · have e := Lib.hid (show n = L.length by have := HNM.out; omega)
      go_wp2_with fail
      go_meet
      case rel => exact ⟨congrArg _ (by have := e.out; omega), rfl⟩
    · have e := Lib.hid (show n = 64 by have := HNM.out; omega)
      go_wp2_with fail
      go_meet
      case rel => exact ⟨congrArg _ (by have := e.out; omega), rfl⟩
  case rest =>
  obtain ⟨rfl, rfl⟩ := hcut
  go_upto_region 2 with fail
  go_cut [8] (fun v wx => v = .int .i64 (m : Int) ∧ W1 = wx)
  case first =>
    by_cases h64 : O.length ≤ 64
    · have e := Lib.hid (show m = O.length by have := HNM.out; omega)
      go_wp2_with fail
      go_meet
      case rel => exact ⟨congrArg _ (by have := e.out; omega), rfl⟩
    · have e := Lib.hid (show m = 64 by have := HNM.out; omega)
      go_wp2_with fail
      go_meet
      case rel => exact ⟨congrArg _ (by have := e.out; omega), rfl⟩
  case rest =>
  obtain ⟨rfl, rfl⟩ := hcut
  clear hs1
  go_upto_region 4 with fail
  have hA := Blk.new W1 26 #[.slice none 0 0, .slice none 0 0, .slice none 0 0]
  have g2 := g1.al (.cells #[.slice none 0 0, .slice none 0 0, .slice none 0 0] 26)
  have hR2 := hR.al (.cells #[.slice none 0 0, .slice none 0 0, .slice none 0 0] 26)
  have hAw : w.heap.size ≤ W1.heap.size := g1.size_le
  have hAR : w.heap.size ≠ W1.heap.size := by have := hR.lt; omega
  have HI := Lib.hid (And.intro (show CL (W1.alloc (.cells #[.slice none 0 0, .slice none 0 0, .slice none 0 0] 26)) w.heap.size W1.heap.size (.slice none 0 0) (.slice none 0 0) (.slice none 0 0) [] [] [] from ⟨hA, Sl.nil _ _ _, Sl.nil _ _ _, Sl.nil _ _ _, by simp [Disj, sb], by simp [Disj, sb], by simp [Disj, sb], by simp [sb]; omega⟩) (And.intro g2 hR2))
  clear hA g2 hR2 hR g1
  generalize W1.alloc (.cells #[.slice none 0 0, .slice none 0 0, .slice none 0 0] 26) = W2 at *
  generalize W1.heap.size = A at *
  obtain ⟨R, hRe⟩ : ∃ R, w.heap.size = R := ⟨_, rfl⟩
  rw [hRe] at hAR ⊢
  go_wp2_with fail
  go_loopw [10] (fun i wr => ∃ (k : Nat) (v0 v1 : Value), k ≤ n ∧ i = .int .i64 k ∧ CL wr w.heap.size A v0 v1 (.slice none 0 0) (lst k (clean L W O).lev) (lst k (clean L W O).wt) [] ∧ Gr w wr ∧ Blk wr R 26 #[.slice none 0 0, .slice none 0 0, .slice none 0 0]) (fun i _ => n - (intOf i).toNat)
  case atStart => exact ⟨0, _, _, by omega, rfl, HI.out.1, HI.out.2.1, by rw [← hRe]; exact HI.out.2.2⟩
  case round =>
    clear HI
    obtain ⟨k, v0, v1, hk, rfl, l, gr, hRb⟩ := hrel
    by_cases hlt : k < n
    · have hd : decide ((k : Int) < (n : Int)) = true := by simpa using hlt
      have hkL : k < L.length := by have := HNM.out; omega
      obtain ⟨bl, offl, cpl, hvl, _, _, lc⟩ := (HL.out.1.gr gr).at hkL
      have HS0 := Lib.hid (show lst (k + 1) (clean L W O).lev = lst k (clean L W O).lev ++ [holdI (L.getD k 0)] by rw [lst_succ, HC.out.2.2.1])
      have HS1 := Lib.hid (show lst (k + 1) (clean L W O).wt = lst k (clean L W O).wt ++ [atI W k m] by rw [lst_succ, HC.out.2.2.2.1])
      have hle0 := lst_length k (clean L W O).lev
      have hle1 := lst_length k (clean L W O).wt
      cases hvl
      generalize lst k (clean L W O).lev = z0 at *
      generalize lst k (clean L W O).wt = z1 at *
      generalize L.getD k 0 = x at *
      have i1 : (0 : Int) ≤ (k : Int) := by omega
      have i2 : (k : Int) < (L.length : Int) := by omega
      have hlb : bl < w.heap.size ∨ True := .inr trivial
      go_upto_region 7 with fail
      have HLV := Lib.hid (And.intro l (And.intro gr (And.intro hRb lc)))
      obtain ⟨a0, a1, a2, f0, f1, f2⟩ := keep6 l.hdr
      have hAs := l.s0.ne l.hdr (by decide)
      obtain ⟨wo, hwo⟩ : ∃ wo, wo = wr := ⟨_, rfl⟩
      go_cut [10] (fun i wx => i = .int .i64 k ∧ ∃ v0', CL wx w.heap.size A v0' v1 (.slice none 0 0) (z0 ++ [holdI x]) z1 [] ∧ Gr w wx ∧ Blk wx R 26 #[.slice none 0 0, .slice none 0 0, .slice none 0 0])
      case first =>
        clear l gr hRb
        go_region_law (first
          | (go_simp; go_at_call 38; refine (rhold _ _).mono ?_; rintro e w4 ⟨rfl, rfl⟩; have k5 := keep6 ((HLV.out.1.hdr).al (.cells #[.int .i64 (holdI x)] 3)); obtain ⟨b0, b1, b2, c0, c1, c2⟩ := k5)
          | (refine step_sl1 el22 .i64 (.tmp 25) (.tmp 31) v0 z0 (holdI x) _ wr.drew rfl rfl rfl rfl (HLV.out.1.s0.gr ((Gr.refl _).drew)) (by omega) (by omega) ?_; intro v5 w5 hv5 ch5 hf5; have k6 := keep6 ((HLV.out.1.hdr.drew).ch ch5 hAs); obtain ⟨b0, b1, b2, c0, c1, c2⟩ := k6; obtain ⟨a5, cp5, rfl, h51, h52⟩ := hv5.len))
        all_goals
          go_wp2_with fail
          go_meet
          case rel =>
            rw [show (z0 ++ [holdI x]).length = k + 1 by simp; omega] at hv5 hf5
            obtain ⟨l1, ch1⟩ := (HLV.out.1.gr ((Gr.refl wr).drew)).app0 HLV.out.2.1.drew.size_le hv5 ch5 hf5
            refine ⟨rfl, _, l1, HLV.out.2.1.drew.chs ch1 (fun y hy => HLV.out.1.b y (by simp at hy ⊢; rcases hy with h | h <;> simp [h])), HLV.out.2.2.1.drew.ch ch1 (fun hm => ?_)⟩
            rcases List.mem_cons.1 hm with hm | hm
            · exact hAR hm
            · exact HLV.out.1.s0.ne HLV.out.2.2.1 (by decide) hm
      case rest =>
        clear HLV l gr hRb a0 a1 a2 f0 f1 f2 hAs lc hwo
        obtain ⟨rfl, v0', l, gr, hRb⟩ := hcut
        generalize z0 ++ [holdI x] = z0' at *
        have C := Lib.hid (fun w' (g' : Gr w w') => rat W k m _ w' (HL.out.2.1.gr g') (by omega))
        have HLV := Lib.hid (And.intro l (And.intro gr hRb))
        obtain ⟨a0, a1, a2, f0, f1, f2⟩ := keep6 l.hdr
        have hAs := l.s1.ne l.hdr (by decide)
        generalize atI W k m = y at *
        clear l gr hRb
        go_upto_region 8 with fail
        go_region_law (first
          | (go_simp; go_at_call 110; refine (C.out _ HLV.out.2.1.drew).mono ?_; rintro e w4 ⟨rfl, rfl⟩; have k5 := keep6 ((HLV.out.1.hdr).al (.cells #[.int .i64 y] 3)); obtain ⟨b0, b1, b2, c0, c1, c2⟩ := k5)
          | (refine step_sl1 el22 .i64 (.tmp 35) (.tmp 40) v1 z1 y _ wc.drew rfl rfl rfl rfl (HLV.out.1.s1.gr ((Gr.refl _).drew)) (by omega) (by omega) ?_; intro v5 w5 hv5 ch5 hf5; have k6 := keep6 ((HLV.out.1.hdr.drew).ch ch5 hAs); obtain ⟨b0, b1, b2, c0, c1, c2⟩ := k6; obtain ⟨a5, cp5, rfl, h51, h52⟩ := hv5.len))
        all_goals
          go_wp2_with fail
          go_roundw
          case rel =>
            rw [show (z1 ++ [y]).length = k + 1 by simp; omega] at hv5 hf5
            obtain ⟨l1, ch1⟩ := (HLV.out.1.gr ((Gr.refl wc).drew)).app1 HLV.out.2.1.drew.size_le hv5 ch5 hf5
            refine ⟨k + 1, v0', .slice a5 (k + 1) cp5, by omega, by go_num, ?_, HLV.out.2.1.drew.chs ch1 (fun y hy => HLV.out.1.b y (by simp at hy ⊢; rcases hy with h | h <;> simp [h])), HLV.out.2.2.drew.ch ch1 (fun hm => ?_)⟩
            · rw [HS0.out, HS1.out]; exact l1
            · rcases List.mem_cons.1 hm with hm | hm
              · exact hAR hm
              · exact HLV.out.1.s1.ne HLV.out.2.2 (by decide) hm
          case measure => simp [intOf]; omega
    · obtain rfl : k = n := by omega
      have hd : decide ((k : Int) < (k : Int)) = false := by simp
      have HI := Lib.hid (And.intro l (And.intro gr hRb))
      clear l gr hRb
      go_wp2_with fail
      obtain ⟨z0, hz0⟩ : ∃ z0, lst k (clean L W O).lev = z0 := ⟨_, rfl⟩
      obtain ⟨z1, hz1⟩ : ∃ z1, lst k (clean L W O).wt = z1 := ⟨_, rfl⟩
      rw [hz0, hz1] at HI
      have HZ := Lib.hid (And.intro hz0 hz1)
      clear hd hz0 hz1
      go_loopw [11] (fun i wr => ∃ (q : Nat) (v2 : Value), q ≤ m ∧ i = .int .i64 q ∧ CL wr w.heap.size A v0 v1 v2 z0 z1 (lst q (clean L W O).ow) ∧ Gr w wr ∧ Blk wr R 26 #[.slice none 0 0, .slice none 0 0, .slice none 0 0]) (fun i _ => m - (intOf i).toNat)
      case atStart => exact ⟨0, _, by omega, rfl, HI.out⟩
      case round =>
        obtain ⟨q, v2, hq, rfl, l, gr, hRb⟩ := hrel
        by_cases hlt : q < m
        · have hd : decide ((q : Int) < (m : Int)) = true := by simpa using hlt
          have HS2 := Lib.hid (show lst (q + 1) (clean L W O).ow = lst q (clean L W O).ow ++ [atI O q k] by rw [lst_succ, HC.out.2.2.2.2])
          have hle2 := lst_length q (clean L W O).ow
          generalize lst q (clean L W O).ow = z2 at *
          have C := Lib.hid (fun w' (g' : Gr w w') => rat O q k _ w' (HL.out.2.2.gr g') (by omega))
          have HLV := Lib.hid (And.intro l (And.intro gr hRb))
          obtain ⟨a0, a1, a2, f0, f1, f2⟩ := keep6 l.hdr
          have hAs := l.s2.ne l.hdr (by decide)
          generalize atI O q k = y at *
          clear l gr hRb
          go_upto_region 12 with fail
          go_region_law (first
            | (go_simp; go_at_call 110; refine (C.out _ HLV.out.2.1.drew).mono ?_; rintro e w4 ⟨rfl, rfl⟩; have k5 := keep6 ((HLV.out.1.hdr).al (.cells #[.int .i64 y] 3)); obtain ⟨b0, b1, b2, c0, c1, c2⟩ := k5)
            | (refine step_sl1 el22 .i64 (.tmp 49) (.tmp 54) v2 z2 y _ wr.drew rfl rfl rfl rfl (HLV.out.1.s2.gr ((Gr.refl _).drew)) (by omega) (by omega) ?_; intro v5 w5 hv5 ch5 hf5; have k6 := keep6 ((HLV.out.1.hdr.drew).ch ch5 hAs); obtain ⟨b0, b1, b2, c0, c1, c2⟩ := k6; obtain ⟨a5, cp5, rfl, h51, h52⟩ := hv5.len))
          all_goals
            go_wp2_with fail
            go_roundw
            case rel =>
              rw [show (z2 ++ [y]).length = q + 1 by simp; omega] at hv5 hf5
              obtain ⟨l1, ch1⟩ := (HLV.out.1.gr ((Gr.refl wr).drew)).app2 HLV.out.2.1.drew.size_le hv5 ch5 hf5
              refine ⟨q + 1, .slice a5 (q + 1) cp5, by omega, by go_num, ?_, HLV.out.2.1.drew.chs ch1 (fun y hy => HLV.out.1.b y (by simp at hy ⊢; rcases hy with h | h <;> simp [h])), HLV.out.2.2.drew.ch ch1 (fun hm => ?_)⟩
              · rw [HS2.out]; exact l1
              · rcases List.mem_cons.1 hm with hm | hm
                · exact hAR hm
                · exact HLV.out.1.s2.ne HLV.out.2.2 (by decide) hm
            case measure => simp [intOf]; omega
        · obtain rfl : q = m := by omega
          have hd : decide ((q : Int) < (q : Int)) = false := by simp
          obtain ⟨a0, a1, a2, f0, f1, f2⟩ := keep6 l.hdr
          obtain ⟨r0, r1, r2, rf0, rf1, rf2⟩ := keep6 hRb
          obtain ⟨va0, vc0, hv0, _, _⟩ := l.s0.len
          obtain ⟨va1, vc1, hv1, _, _⟩ := l.s1.len
          obtain ⟨va2, vc2, hv2, _, _⟩ := l.s2.len
          rw [hv0] at a0
          rw [hv1] at a1
          rw [hv2] at a2
          have HLV := Lib.hid (And.intro l (And.intro gr (And.intro hRb (And.intro hv0 (And.intro hv1 hv2)))))
          clear l gr hRb hv0 hv1 hv2
          go_wp2_with fail
          refine bodyPost_ret (v := .agg #[.slice va0 z0.length vc0, .slice va1 z1.length vc1, .slice va2 (lst q (clean L W O).ow).length vc2]) (by simp [results, Try.results66, go_sem, r0, r1, r2]) rfl ?_
          obtain ⟨l, gr, hRb, hv0, hv1, hv2⟩ := HLV.out
          have chR : Ch [R] wr (((wr.setCell ⟨R, 0, none⟩ (.slice va0 z0.length vc0)).setCell ⟨R, 1, none⟩ (.slice va1 z1.length vc1)).setCell ⟨R, 2, none⟩ (.slice va2 (lst q (clean L W O).ow).length vc2)) := (((Ch.refl _ _).st (by simp) _).st (by simp) _).st (by simp) _
          have nR : ∀ {u : Value} {zs : List Int}, Sl 3 .i64 wr u zs → Disj (sb u) [R] := fun hs x hx hm => by simp at hm; subst hm; exact hs.ne hRb (by decide) hx
          have s0 := (l.s0.ch chR (nR l.s0)).rd
          have s1 := (l.s1.ch chR (nR l.s1)).rd
          have s2 := (l.s2.ch chR (nR l.s2)).rd
          rw [hv0, ← HZ.out.1] at s0
          rw [hv1, ← HZ.out.2] at s1
          rw [hv2] at s2
          refine ⟨_, rfl, ⟨_, _, _, rfl, ?_, ?_, ?_⟩, gr.chs chR (by simp; omega)⟩
          · rw [HC.out.1, ← HZ.out.1]; exact s0
          · rw [HC.out.1, ← HZ.out.2]; exact s1
          · rw [HC.out.2.1]; exact s2
end Go.Proofs.Ytkkobbomipcpoaa
