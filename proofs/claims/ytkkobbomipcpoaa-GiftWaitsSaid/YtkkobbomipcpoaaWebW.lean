/- The walk along a chain (chapter 24), for each function value that is handed to it. -/
import Derived.Test.YtkkobbomipcpoaaWebC
namespace Go.Proofs.Ytkkobbomipcpoaa
open Go.RowKit
set_option linter.unusedVariables false
set_option maxHeartbeats 1000000
theorem walk83 (B g a b : Nat) (s : WebS) (w : World) (t : Int) (on : List Int → Int → Bool) (I : List Int → World → Prop) (H : OnC 83 (fun x => #[.int .i64 x]) B g a b s on I) (hB : B ≤ w.heap.size) (hI : I [] w) :
    Calls Try.prog 78 #[.pointer (some ⟨g, 0, none⟩), .int .i64 t, .func (.func 83) #[] #[]] w (WalkEnd s t on I) := by
  have hok := (H.web _ _ hI).ok
  have HB := Lib.hid (WebS.next_bd hok)
  have hn64 := hok.n64
  have hal := hal133
  have C0 := Lib.hid (next_any g a b s (w.alloc (.cells (metC []) 133)) (H.web _ _ (H.gr _ _ _ hI ((Gr.refl w).al _))) t)
  have HH := Lib.hid H
  have HI := Lib.hid (And.intro (H.gr _ _ _ hI ((Gr.refl w).al (.cells (metC []) 133))) (Blk.new w 133 (metC [])))
  clear H hI hok
  go_enter Try.func78, Try.ntmps78
  go_wp2_with fail
  go_step3
  go_wp2_with fail
  go_step3
  go_wp2_with (go_at_call 29; refine (C0.out).mono ?_; rintro e w1 ⟨rfl, g1⟩)
  have hI2 := HH.out.gr _ _ _ HI.out.1 g1
  have hM2 := HI.out.2.gr g1
  clear HI C0 hal
  generalize w.heap.size = M at *
  clear g1
  go_loopw [8] (fun v wr => ∃ k : Nat, v = .int .i64 (it s.next t (k + 1)) ∧ NoStop s.next t k ∧ (∀ j, j < k → on (trail s.next t j) (it s.next t (j + 1)) = true) ∧ I (trail s.next t k) wr ∧ Blk wr M 133 (metC (trail s.next t k))) (fun _ wr => leftW wr M)
  case atStart => exact ⟨0, rfl, fun j hj => absurd hj (by omega), fun j hj => absurd hj (by omega), hI2, hM2⟩
  case round =>
    obtain ⟨k, rfl, hno, hon, hI, hM⟩ := hrel
    have hb1 : -1 ≤ it s.next t (k + 1) ∧ it s.next t (k + 1) < (s.n : Int) := HB.out _
    have HN := Lib.hid (And.intro hno hon)
    clear hno hon hI2 hM2
    by_cases h1 : it s.next t (k + 1) = -1
    · have HS := Lib.hid h1
      rw [h1]
      clear h1 hb1
      go_wp2_with fail
      go_ret
      exact ⟨k, false, rfl, HN.out.1, HN.out.2, .inl ⟨.inl HS.out, (decide_eq_false (fun h => h.2 HS.out)).symm, hI⟩⟩
    · by_cases h2 : it s.next t (k + 1) = t
      · have HS := Lib.hid (And.intro h1 h2)
        rw [h2] at h1 ⊢
        clear h2 hb1
        go_wp2_with fail
        go_ret
        exact ⟨k, true, rfl, HN.out.1, HN.out.2, .inl ⟨.inr (.inl HS.out.2), (decide_eq_true ⟨HS.out.2, HS.out.1⟩).symm, hI⟩⟩
      · obtain ⟨i, hi⟩ := Int.eq_ofNat_of_zero_le (show 0 ≤ it s.next t (k + 1) by omega)
        have hin : i < 64 := by omega
        have HE := Lib.hid hi
        by_cases h3 : it s.next t (k + 1) ∈ trail s.next t k
        · have mc : wr.cell? ⟨M, i, none⟩ = some (.bool true) := by rw [hM.cell, metC_get hin, ← hi]; simp [h3]
          have HS := Lib.hid (And.intro h2 h3)
          rw [hi] at h1 h2 ⊢
          clear h3 hi hb1
          go_wp2_with fail
          go_ret
          exact ⟨k, false, rfl, HN.out.1, HN.out.2, .inl ⟨.inr (.inr HS.out.2), (decide_eq_false (fun h => HS.out.1 h.1)).symm, hI⟩⟩
        · have HNS := Lib.hid (show ¬ Stop s.next t k by rintro (h | h | h) <;> contradiction)
          have hkl : (trail s.next t k).length < 64 := by
            rw [trail_length]
            have := (HN.out.1.up HNS.out).le HB.out
            omega
          have HMC := Lib.hid (show (metC (trail s.next t k))[i]? = some (.bool false) by rw [metC_get hin, ← hi]; simp [h3])
          have mc : wr.cell? ⟨M, i, none⟩ = some (.bool false) := (hM.cell i).trans HMC.out
          have HX := Lib.hid (show (i : Int) ∉ trail s.next t k by rw [← hi]; exact h3)
          have C := Lib.hid (HH.out.call (trail s.next t k) i wr hkl hI)
          have HM := Lib.hid hM
          rw [hi] at h1 h2 ⊢
          clear h3 hi hb1 hM hkl
          cases hb : on (trail s.next t k) (i : Int)
          · rw [hb] at C
            have HO := Lib.hid hb
            clear hb
            go_wp2_with (go_at_call 83; refine (C.out).mono ?_; rintro e w1 ⟨rfl, hI1, hM1⟩)
            go_ret
            exact ⟨k, false, rfl, HN.out.1, HN.out.2, .inr ⟨HNS.out, by rw [HE.out]; exact HO.out, rfl, by rw [trail_succ, HE.out]; exact hI1⟩⟩
          · rw [hb] at C
            have HO := Lib.hid hb
            clear hb
            have C2 := Lib.hid (fun w' (h : I (trail s.next t k ++ [(i : Int)]) w') => next_any g a b s w' (HH.out.web _ _ h) i)
            go_wp2_with (first | (go_at_call 83; refine (C.out).mono ?_; rintro e w1 ⟨rfl, hI1, hM1⟩; have hM3 := hM1 M _ HM.out; have m1 := (hM3.cell i).trans HMC.out; have m2 := hM3.frozen; have HI3 := Lib.hid (HH.out.st _ _ M _ i (.bool true) hI1 hM3 hB); have HM3 := Lib.hid hM3; clear hI1 hM1 hM3) | (go_at_call 29; refine (C2.out _ HI3.out).mono ?_; rintro e w3 ⟨rfl, g3⟩))
            have hM4 : Blk w3 M 133 (metC (trail s.next t k ++ [(i : Int)])) := by
              rw [← metC_set]
              exact (HM3.out.st i _).gr g3
            go_roundw
            case rel =>
              refine ⟨k + 1, ?_, HN.out.1.up HNS.out, fun j hj => ?_, ?_, ?_⟩
              · show Value.int .i64 (s.next (i : Int)) = .int .i64 (s.next (it s.next t (k + 1)))
                rw [HE.out]
              · by_cases hjk : j = k
                · rw [hjk, HE.out]; exact HO.out
                · exact HN.out.2 j (by omega)
              · rw [trail_succ, HE.out]; exact HH.out.gr _ _ _ HI3.out g3
              · rw [trail_succ, HE.out]; exact hM4
            case measure => exact leftW_lt HM.out hM4 hin HX.out
theorem walk84 (O : Nat) (B g a b : Nat) (s : WebS) (w : World) (t : Int) (on : List Int → Int → Bool) (I : List Int → World → Prop) (H : OnC 84 (fun x => #[.int .i64 x, .pointer (some ⟨O, 0, none⟩)]) B g a b s on I) (hB : B ≤ w.heap.size) (hI : I [] w) :
    Calls Try.prog 78 #[.pointer (some ⟨g, 0, none⟩), .int .i64 t, .func (.func 84) #[] #[.pointer (some ⟨O, 0, none⟩)]] w (WalkEnd s t on I) := by
  have hok := (H.web _ _ hI).ok
  have HB := Lib.hid (WebS.next_bd hok)
  have hn64 := hok.n64
  have hal := hal133
  have C0 := Lib.hid (next_any g a b s (w.alloc (.cells (metC []) 133)) (H.web _ _ (H.gr _ _ _ hI ((Gr.refl w).al _))) t)
  have HH := Lib.hid H
  have HI := Lib.hid (And.intro (H.gr _ _ _ hI ((Gr.refl w).al (.cells (metC []) 133))) (Blk.new w 133 (metC [])))
  clear H hI hok
  go_enter Try.func78, Try.ntmps78
  go_wp2_with fail
  go_step3
  go_wp2_with fail
  go_step3
  go_wp2_with (go_at_call 29; refine (C0.out).mono ?_; rintro e w1 ⟨rfl, g1⟩)
  have hI2 := HH.out.gr _ _ _ HI.out.1 g1
  have hM2 := HI.out.2.gr g1
  clear HI C0 hal
  generalize w.heap.size = M at *
  clear g1
  go_loopw [8] (fun v wr => ∃ k : Nat, v = .int .i64 (it s.next t (k + 1)) ∧ NoStop s.next t k ∧ (∀ j, j < k → on (trail s.next t j) (it s.next t (j + 1)) = true) ∧ I (trail s.next t k) wr ∧ Blk wr M 133 (metC (trail s.next t k))) (fun _ wr => leftW wr M)
  case atStart => exact ⟨0, rfl, fun j hj => absurd hj (by omega), fun j hj => absurd hj (by omega), hI2, hM2⟩
  case round =>
    obtain ⟨k, rfl, hno, hon, hI, hM⟩ := hrel
    have hb1 : -1 ≤ it s.next t (k + 1) ∧ it s.next t (k + 1) < (s.n : Int) := HB.out _
    have HN := Lib.hid (And.intro hno hon)
    clear hno hon hI2 hM2
    by_cases h1 : it s.next t (k + 1) = -1
    · have HS := Lib.hid h1
      rw [h1]
      clear h1 hb1
      go_wp2_with fail
      go_ret
      exact ⟨k, false, rfl, HN.out.1, HN.out.2, .inl ⟨.inl HS.out, (decide_eq_false (fun h => h.2 HS.out)).symm, hI⟩⟩
    · by_cases h2 : it s.next t (k + 1) = t
      · have HS := Lib.hid (And.intro h1 h2)
        rw [h2] at h1 ⊢
        clear h2 hb1
        go_wp2_with fail
        go_ret
        exact ⟨k, true, rfl, HN.out.1, HN.out.2, .inl ⟨.inr (.inl HS.out.2), (decide_eq_true ⟨HS.out.2, HS.out.1⟩).symm, hI⟩⟩
      · obtain ⟨i, hi⟩ := Int.eq_ofNat_of_zero_le (show 0 ≤ it s.next t (k + 1) by omega)
        have hin : i < 64 := by omega
        have HE := Lib.hid hi
        by_cases h3 : it s.next t (k + 1) ∈ trail s.next t k
        · have mc : wr.cell? ⟨M, i, none⟩ = some (.bool true) := by rw [hM.cell, metC_get hin, ← hi]; simp [h3]
          have HS := Lib.hid (And.intro h2 h3)
          rw [hi] at h1 h2 ⊢
          clear h3 hi hb1
          go_wp2_with fail
          go_ret
          exact ⟨k, false, rfl, HN.out.1, HN.out.2, .inl ⟨.inr (.inr HS.out.2), (decide_eq_false (fun h => HS.out.1 h.1)).symm, hI⟩⟩
        · have HNS := Lib.hid (show ¬ Stop s.next t k by rintro (h | h | h) <;> contradiction)
          have hkl : (trail s.next t k).length < 64 := by
            rw [trail_length]
            have := (HN.out.1.up HNS.out).le HB.out
            omega
          have HMC := Lib.hid (show (metC (trail s.next t k))[i]? = some (.bool false) by rw [metC_get hin, ← hi]; simp [h3])
          have mc : wr.cell? ⟨M, i, none⟩ = some (.bool false) := (hM.cell i).trans HMC.out
          have HX := Lib.hid (show (i : Int) ∉ trail s.next t k by rw [← hi]; exact h3)
          have C := Lib.hid (HH.out.call (trail s.next t k) i wr hkl hI)
          have HM := Lib.hid hM
          rw [hi] at h1 h2 ⊢
          clear h3 hi hb1 hM hkl
          cases hb : on (trail s.next t k) (i : Int)
          · rw [hb] at C
            have HO := Lib.hid hb
            clear hb
            go_wp2_with (go_at_call 84; refine (C.out).mono ?_; rintro e w1 ⟨rfl, hI1, hM1⟩)
            go_ret
            exact ⟨k, false, rfl, HN.out.1, HN.out.2, .inr ⟨HNS.out, by rw [HE.out]; exact HO.out, rfl, by rw [trail_succ, HE.out]; exact hI1⟩⟩
          · rw [hb] at C
            have HO := Lib.hid hb
            clear hb
            have C2 := Lib.hid (fun w' (h : I (trail s.next t k ++ [(i : Int)]) w') => next_any g a b s w' (HH.out.web _ _ h) i)
            go_wp2_with (first | (go_at_call 84; refine (C.out).mono ?_; rintro e w1 ⟨rfl, hI1, hM1⟩; have hM3 := hM1 M _ HM.out; have m1 := (hM3.cell i).trans HMC.out; have m2 := hM3.frozen; have HI3 := Lib.hid (HH.out.st _ _ M _ i (.bool true) hI1 hM3 hB); have HM3 := Lib.hid hM3; clear hI1 hM1 hM3) | (go_at_call 29; refine (C2.out _ HI3.out).mono ?_; rintro e w3 ⟨rfl, g3⟩))
            have hM4 : Blk w3 M 133 (metC (trail s.next t k ++ [(i : Int)])) := by
              rw [← metC_set]
              exact (HM3.out.st i _).gr g3
            go_roundw
            case rel =>
              refine ⟨k + 1, ?_, HN.out.1.up HNS.out, fun j hj => ?_, ?_, ?_⟩
              · show Value.int .i64 (s.next (i : Int)) = .int .i64 (s.next (it s.next t (k + 1)))
                rw [HE.out]
              · by_cases hjk : j = k
                · rw [hjk, HE.out]; exact HO.out
                · exact HN.out.2 j (by omega)
              · rw [trail_succ, HE.out]; exact HH.out.gr _ _ _ HI3.out g3
              · rw [trail_succ, HE.out]; exact hM4
            case measure => exact leftW_lt HM.out hM4 hin HX.out
theorem walk79 (F T : Nat) (B g a b : Nat) (s : WebS) (w : World) (t : Int) (on : List Int → Int → Bool) (I : List Int → World → Prop) (H : OnC 79 (fun x => #[.int .i64 x, .pointer (some ⟨F, 0, none⟩), .pointer (some ⟨T, 0, none⟩)]) B g a b s on I) (hB : B ≤ w.heap.size) (hI : I [] w) :
    Calls Try.prog 78 #[.pointer (some ⟨g, 0, none⟩), .int .i64 t, .func (.func 79) #[] #[.pointer (some ⟨F, 0, none⟩), .pointer (some ⟨T, 0, none⟩)]] w (WalkEnd s t on I) := by
  have hok := (H.web _ _ hI).ok
  have HB := Lib.hid (WebS.next_bd hok)
  have hn64 := hok.n64
  have hal := hal133
  have C0 := Lib.hid (next_any g a b s (w.alloc (.cells (metC []) 133)) (H.web _ _ (H.gr _ _ _ hI ((Gr.refl w).al _))) t)
  have HH := Lib.hid H
  have HI := Lib.hid (And.intro (H.gr _ _ _ hI ((Gr.refl w).al (.cells (metC []) 133))) (Blk.new w 133 (metC [])))
  clear H hI hok
  go_enter Try.func78, Try.ntmps78
  go_wp2_with fail
  go_step3
  go_wp2_with fail
  go_step3
  go_wp2_with (go_at_call 29; refine (C0.out).mono ?_; rintro e w1 ⟨rfl, g1⟩)
  have hI2 := HH.out.gr _ _ _ HI.out.1 g1
  have hM2 := HI.out.2.gr g1
  clear HI C0 hal
  generalize w.heap.size = M at *
  clear g1
  go_loopw [8] (fun v wr => ∃ k : Nat, v = .int .i64 (it s.next t (k + 1)) ∧ NoStop s.next t k ∧ (∀ j, j < k → on (trail s.next t j) (it s.next t (j + 1)) = true) ∧ I (trail s.next t k) wr ∧ Blk wr M 133 (metC (trail s.next t k))) (fun _ wr => leftW wr M)
  case atStart => exact ⟨0, rfl, fun j hj => absurd hj (by omega), fun j hj => absurd hj (by omega), hI2, hM2⟩
  case round =>
    obtain ⟨k, rfl, hno, hon, hI, hM⟩ := hrel
    have hb1 : -1 ≤ it s.next t (k + 1) ∧ it s.next t (k + 1) < (s.n : Int) := HB.out _
    have HN := Lib.hid (And.intro hno hon)
    clear hno hon hI2 hM2
    by_cases h1 : it s.next t (k + 1) = -1
    · have HS := Lib.hid h1
      rw [h1]
      clear h1 hb1
      go_wp2_with fail
      go_ret
      exact ⟨k, false, rfl, HN.out.1, HN.out.2, .inl ⟨.inl HS.out, (decide_eq_false (fun h => h.2 HS.out)).symm, hI⟩⟩
    · by_cases h2 : it s.next t (k + 1) = t
      · have HS := Lib.hid (And.intro h1 h2)
        rw [h2] at h1 ⊢
        clear h2 hb1
        go_wp2_with fail
        go_ret
        exact ⟨k, true, rfl, HN.out.1, HN.out.2, .inl ⟨.inr (.inl HS.out.2), (decide_eq_true ⟨HS.out.2, HS.out.1⟩).symm, hI⟩⟩
      · obtain ⟨i, hi⟩ := Int.eq_ofNat_of_zero_le (show 0 ≤ it s.next t (k + 1) by omega)
        have hin : i < 64 := by omega
        have HE := Lib.hid hi
        by_cases h3 : it s.next t (k + 1) ∈ trail s.next t k
        · have mc : wr.cell? ⟨M, i, none⟩ = some (.bool true) := by rw [hM.cell, metC_get hin, ← hi]; simp [h3]
          have HS := Lib.hid (And.intro h2 h3)
          rw [hi] at h1 h2 ⊢
          clear h3 hi hb1
          go_wp2_with fail
          go_ret
          exact ⟨k, false, rfl, HN.out.1, HN.out.2, .inl ⟨.inr (.inr HS.out.2), (decide_eq_false (fun h => HS.out.1 h.1)).symm, hI⟩⟩
        · have HNS := Lib.hid (show ¬ Stop s.next t k by rintro (h | h | h) <;> contradiction)
          have hkl : (trail s.next t k).length < 64 := by
            rw [trail_length]
            have := (HN.out.1.up HNS.out).le HB.out
            omega
          have HMC := Lib.hid (show (metC (trail s.next t k))[i]? = some (.bool false) by rw [metC_get hin, ← hi]; simp [h3])
          have mc : wr.cell? ⟨M, i, none⟩ = some (.bool false) := (hM.cell i).trans HMC.out
          have HX := Lib.hid (show (i : Int) ∉ trail s.next t k by rw [← hi]; exact h3)
          have C := Lib.hid (HH.out.call (trail s.next t k) i wr hkl hI)
          have HM := Lib.hid hM
          rw [hi] at h1 h2 ⊢
          clear h3 hi hb1 hM hkl
          cases hb : on (trail s.next t k) (i : Int)
          · rw [hb] at C
            have HO := Lib.hid hb
            clear hb
            go_wp2_with (go_at_call 79; refine (C.out).mono ?_; rintro e w1 ⟨rfl, hI1, hM1⟩)
            go_ret
            exact ⟨k, false, rfl, HN.out.1, HN.out.2, .inr ⟨HNS.out, by rw [HE.out]; exact HO.out, rfl, by rw [trail_succ, HE.out]; exact hI1⟩⟩
          · rw [hb] at C
            have HO := Lib.hid hb
            clear hb
            have C2 := Lib.hid (fun w' (h : I (trail s.next t k ++ [(i : Int)]) w') => next_any g a b s w' (HH.out.web _ _ h) i)
            go_wp2_with (first | (go_at_call 79; refine (C.out).mono ?_; rintro e w1 ⟨rfl, hI1, hM1⟩; have hM3 := hM1 M _ HM.out; have m1 := (hM3.cell i).trans HMC.out; have m2 := hM3.frozen; have HI3 := Lib.hid (HH.out.st _ _ M _ i (.bool true) hI1 hM3 hB); have HM3 := Lib.hid hM3; clear hI1 hM1 hM3) | (go_at_call 29; refine (C2.out _ HI3.out).mono ?_; rintro e w3 ⟨rfl, g3⟩))
            have hM4 : Blk w3 M 133 (metC (trail s.next t k ++ [(i : Int)])) := by
              rw [← metC_set]
              exact (HM3.out.st i _).gr g3
            go_roundw
            case rel =>
              refine ⟨k + 1, ?_, HN.out.1.up HNS.out, fun j hj => ?_, ?_, ?_⟩
              · show Value.int .i64 (s.next (i : Int)) = .int .i64 (s.next (it s.next t (k + 1)))
                rw [HE.out]
              · by_cases hjk : j = k
                · rw [hjk, HE.out]; exact HO.out
                · exact HN.out.2 j (by omega)
              · rw [trail_succ, HE.out]; exact HH.out.gr _ _ _ HI3.out g3
              · rw [trail_succ, HE.out]; exact hM4
            case measure => exact leftW_lt HM.out hM4 hin HX.out
end Go.Proofs.Ytkkobbomipcpoaa
