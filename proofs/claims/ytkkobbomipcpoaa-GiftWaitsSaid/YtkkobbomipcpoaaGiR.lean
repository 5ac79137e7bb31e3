/- The road through a graph (chapter 25), for each function value that is handed to it. -/
import Derived.Test.YtkkobbomipcpoaaGiP
namespace Go.Proofs.Ytkkobbomipcpoaa
open Go.RowKit
set_option linter.unusedVariables false
set_option maxHeartbeats 2000000
/-- A function value that is called along a road: what it says, and what it keeps. -/
structure OnG (K : Nat) (args : Int → Array Value) (B : Nat) (gv : Value) (L W O : List Int) (on : List Int → Int → Bool) (I : List Int → World → Prop) : Prop where
  gv : ∀ zs w, I zs w → GV w gv L W O
  gr : ∀ zs w w', I zs w → Gr w w' → I zs w'
  st : ∀ zs w M cs p v, I zs w → Blk w M 133 cs → B ≤ M → I zs (w.setCell ⟨M, p, none⟩ v)
  call : ∀ zs (x : Nat) w, zs.length < 64 → x < (clean L W O).n → (x : Int) ∉ zs → I zs w → Calls Try.prog K (args x) w fun e w' => e = .returned (.bool (on zs x)) ∧ I (zs ++ [(x : Int)]) w' ∧ ∀ M t cs, t = 133 ∨ t = 25 → Blk w M t cs → Blk w' M t cs
def RoadEnd (s : GS) (t : Int) (on : List Int → Int → Bool) (I : List Int → World → Prop) (e : Ending) (w' : World) : Prop :=
  ∃ k, e = .returned (.tuple #[]) ∧ NoEnd s.n s.next t k ∧ (∀ j, j < k → on (road s.next t j) (it s.next t j) = true) ∧
    ((End s.n s.next t k ∧ I (road s.next t k) w') ∨ (¬ End s.n s.next t k ∧ on (road s.next t k) (it s.next t k) = false ∧ I (road s.next t (k + 1)) w'))
theorem road71 (O1 LV : Nat) (B : Nat) (gv : Value) (L W O : List Int) (w : World) (t : Int) (on : List Int → Int → Bool) (I : List Int → World → Prop) (H : OnG 71 (fun x => #[.int .i64 x, .pointer (some ⟨O1, 0, none⟩), .pointer (some ⟨LV, 0, none⟩)]) B gv L W O on I) (hB : B ≤ w.heap.size) (hI : I [] w) :
    Calls Try.prog 70 #[gv, .int .i64 t, .func (.func 71) #[] #[.pointer (some ⟨O1, 0, none⟩), .pointer (some ⟨LV, 0, none⟩)]] w (RoadEnd (clean L W O) t on I) := by
  have hok := clean_ok L W O
  have hn64 := hok.n64
  have hal := hal133
  have hgv := H.gv _ _ hI
  obtain ⟨vl, vw, vo, rfl, ⟨al, cl, rfl, hl1, hl2, _⟩, ⟨aw, cw, rfl, hw1, hw2, _⟩, ⟨ao, co, rfl, ho1, ho2, _⟩⟩ := hgv
  have HH := Lib.hid H
  obtain ⟨G, hG⟩ : ∃ G : Array Value, G = #[.slice al L.length cl, .slice aw W.length cw, .slice ao O.length co] := ⟨_, rfl⟩
  have g1 := (Gr.refl w).al (.cells G 25)
  have g2 := g1.al (.cells (metC []) 133)
  have HI := Lib.hid (And.intro (H.gr _ _ _ hI g2) (And.intro (Blk.new (w.alloc (.cells G 25)) 133 (metC [])) ((Blk.new w 25 G).al (.cells (metC []) 133))))
  have hX : w.heap.size < (w.alloc (.cells G 25)).heap.size := by rw [World.size_alloc]; omega
  have hBM : B ≤ (w.alloc (.cells G 25)).heap.size := by omega
  clear H hI hok g1 g2
  go_enter Try.func70, Try.ntmps70
  go_wp2_with fail
  generalize hw1 : w.alloc (.cells #[.slice al L.length cl, .slice aw W.length cw, .slice ao O.length co] 25) = W1
  rw [← hG] at hw1
  rw [hw1] at HI hX hBM
  have HG := Lib.hid hG
  clear hw1 hG
  go_step3
  go_wp2_with fail
  go_step3
  go_wp2_with fail
  clear hal
  have hI2 := HI.out.1
  have hM2 := HI.out.2.1
  have hX2 := HI.out.2.2
  clear HI
  obtain ⟨W0, hW0⟩ : ∃ W0, W0 = W1.alloc (.cells (metC []) 133) := ⟨_, rfl⟩
  rw [← hW0] at hI2 hM2 hX2
  first | rw [← hW0] | (have hW1 : W0 = W1.alloc (.cells (List.replicate 64 (.bool false)).toArray 133) := hW0.trans (congrArg (fun c => W1.alloc (.cells c 133)) (by rfl)); simp only [List.replicate] at hW1; rw [← hW1]; clear hW1)
  clear hW0
  generalize W1.heap.size = M at *
  generalize w.heap.size = X at *
  go_loopw [1] (fun v wr => ∃ k : Nat, v = .int .i64 (it (clean L W O).next t k) ∧ NoEnd (clean L W O).n (clean L W O).next t k ∧ (∀ j, j < k → on (road (clean L W O).next t j) (it (clean L W O).next t j) = true) ∧ I (road (clean L W O).next t k) wr ∧ Blk wr M 133 (metC (road (clean L W O).next t k)) ∧ Blk wr X 25 G) (fun _ wr => leftW wr M)
  case atStart => exact ⟨0, rfl, fun j hj => absurd hj (by omega), fun j hj => absurd hj (by omega), hI2, hM2, hX2⟩
  case round =>
    obtain ⟨k, rfl, hno, hon, hI, hM, hXb⟩ := hrel
    have HN := Lib.hid (And.intro hno hon)
    clear hno hon hI2 hM2 hX2
    have hX3 := hXb
    rw [HG.out] at hX3
    obtain ⟨x0, x1, x2, xf⟩ := hX3.c3
    clear hX3
    have C86 := Lib.hid (gthread _ L W O (it (clean L W O).next t k) wr (HH.out.gv _ _ hI))
    by_cases h1 : 0 ≤ it (clean L W O).next t k ∧ it (clean L W O).next t k < ((clean L W O).n : Int)
    · rw [show (clean L W O).th (it (clean L W O).next t k) = true by simpa [GS.th] using h1] at C86
      obtain ⟨i, hi⟩ := Int.eq_ofNat_of_zero_le h1.1
      have hin : i < (clean L W O).n := by omega
      have hi64 : i < 64 := by omega
      have HE := Lib.hid hi
      by_cases h3 : it (clean L W O).next t k ∈ road (clean L W O).next t k
      · have HMC := Lib.hid (show (metC (road (clean L W O).next t k))[i]? = some (.bool true) by rw [metC_get hi64, ← hi]; simp [h3])
        have HS := Lib.hid h3
        rw [hi] at C86 ⊢
        clear h1 h3 hi
        go_wp2_with (first | (go_at_call 86; refine (C86.out).mono ?_; rintro e w1 ⟨rfl, g1⟩; have mc := ((hM.gr g1).cell i).trans HMC.out))
        first | go_end0 | (rw [Exit.noGoto_normal]; go_end0)
        exact ⟨k, rfl, HN.out.1, HN.out.2, .inl ⟨.inr HS.out, HH.out.gr _ _ _ hI g1⟩⟩
      · have HNS := Lib.hid (show ¬ End (clean L W O).n (clean L W O).next t k by rintro (h | h) <;> contradiction)
        have hkl : (road (clean L W O).next t k).length < 64 := by
          rw [road_length]
          have := (HN.out.1.up HNS.out).le
          omega
        have HMC := Lib.hid (show (metC (road (clean L W O).next t k))[i]? = some (.bool false) by rw [metC_get hi64, ← hi]; simp [h3])
        have HX := Lib.hid (show (i : Int) ∉ road (clean L W O).next t k by rw [← hi]; exact h3)
        have C := Lib.hid (fun w' h => HH.out.call (road (clean L W O).next t k) i w' hkl hin HX.out h)
        have HM := Lib.hid (And.intro hM (And.intro hXb hI))
        rw [hi] at C86 ⊢
        clear h3 hi h1 hM hkl hXb
        cases hb : on (road (clean L W O).next t k) (i : Int)
        · rw [hb] at C
          have HO := Lib.hid hb
          clear hb
          go_wp2_with (first
            | (go_at_call 86; refine (C86.out).mono ?_; rintro e w1 ⟨rfl, g1⟩; have mc := ((HM.out.1.gr g1).cell i).trans HMC.out; have mf := (HM.out.1.gr g1).frozen)
            | (go_at_call 71; refine (C.out _ (HH.out.st _ _ M _ i (.bool true) (HH.out.gr _ _ _ HM.out.2.2 g1) (HM.out.1.gr g1) hBM)).mono ?_; rintro e w2 ⟨rfl, hI2, hM2⟩))
          first | go_end0 | (rw [Exit.noGoto_normal]; go_end0)
          exact ⟨k, rfl, HN.out.1, HN.out.2, .inr ⟨HNS.out, by rw [HE.out]; exact HO.out, by rw [road_succ, HE.out]; exact hI2⟩⟩
        · rw [hb] at C
          have HO := Lib.hid hb
          clear hb
          have C3 := Lib.hid (fun w' (h : I (road (clean L W O).next t k ++ [(i : Int)]) w') => gnext _ L W O i w' (HH.out.gv _ _ h) hin)
          go_wp2_with (first
            | (go_at_call 86; refine (C86.out).mono ?_; rintro e w1 ⟨rfl, g1⟩; have mc := ((HM.out.1.gr g1).cell i).trans HMC.out; have mf := (HM.out.1.gr g1).frozen)
            | (go_at_call 71; refine (C.out _ (HH.out.st _ _ M _ i (.bool true) (HH.out.gr _ _ _ HM.out.2.2 g1) (HM.out.1.gr g1) hBM)).mono ?_; rintro e w2 ⟨rfl, hI2, hK2⟩; have hM2 := hK2 M 133 _ (.inl rfl) ((HM.out.1.gr g1).st i (.bool true)); have hX2 := hK2 X 25 G (.inr rfl) ((HM.out.2.1.gr g1).far (p := ⟨M, i, none⟩) (by intro hxm; have hxx := (HM.out.2.1.gr g1).dif (HM.out.1.gr g1) (by decide); exact hxx hxm) _); have hX4 := hX2; rw [HG.out] at hX4; obtain ⟨y0, y1, y2, yf⟩ := hX4.c3; clear hX4)
            | (go_at_call 111; refine (C3.out _ hI2).mono ?_; rintro e w3 ⟨rfl, g3⟩))
          have hM4 : Blk w3 M 133 (metC (road (clean L W O).next t k ++ [(i : Int)])) := by
            rw [← metC_set]
            exact hM2.gr g3
          go_roundw
          case rel =>
            refine ⟨k + 1, ?_, HN.out.1.up HNS.out, fun j hj => ?_, ?_, ?_, hX2.gr g3⟩
            · show Value.int .i64 ((clean L W O).next (i : Int)) = .int .i64 ((clean L W O).next (it (clean L W O).next t k))
              rw [HE.out]
            · by_cases hjk : j = k
              · rw [hjk, HE.out]; exact HO.out
              · exact HN.out.2 j (by omega)
            · rw [road_succ, HE.out]; exact HH.out.gr _ _ _ hI2 g3
            · rw [road_succ, HE.out]; exact hM4
          case measure => exact leftW_lt HM.out.1 hM4 hi64 HX.out
    · rw [show (clean L W O).th (it (clean L W O).next t k) = false by simpa [GS.th] using h1] at C86
      have HS := Lib.hid h1
      clear h1
      generalize it (clean L W O).next t k = z at C86 ⊢
      go_wp2_with (first | (go_at_call 86; refine (C86.out).mono ?_; rintro e w1 ⟨rfl, g1⟩))
      first | go_end0 | (rw [Exit.noGoto_normal]; go_end0)
      exact ⟨k, rfl, HN.out.1, HN.out.2, .inl ⟨.inl HS.out, HH.out.gr _ _ _ hI g1⟩⟩
theorem road72 (TV O1 FR : Nat) (B : Nat) (gv : Value) (L W O : List Int) (w : World) (t : Int) (on : List Int → Int → Bool) (I : List Int → World → Prop) (H : OnG 72 (fun x => #[.int .i64 x, .pointer (some ⟨TV, 0, none⟩), .pointer (some ⟨O1, 0, none⟩), .pointer (some ⟨FR, 0, none⟩)]) B gv L W O on I) (hB : B ≤ w.heap.size) (hI : I [] w) :
    Calls Try.prog 70 #[gv, .int .i64 t, .func (.func 72) #[] #[.pointer (some ⟨TV, 0, none⟩), .pointer (some ⟨O1, 0, none⟩), .pointer (some ⟨FR, 0, none⟩)]] w (RoadEnd (clean L W O) t on I) := by
  have hok := clean_ok L W O
  have hn64 := hok.n64
  have hal := hal133
  have hgv := H.gv _ _ hI
  obtain ⟨vl, vw, vo, rfl, ⟨al, cl, rfl, hl1, hl2, _⟩, ⟨aw, cw, rfl, hw1, hw2, _⟩, ⟨ao, co, rfl, ho1, ho2, _⟩⟩ := hgv
  have HH := Lib.hid H
  obtain ⟨G, hG⟩ : ∃ G : Array Value, G = #[.slice al L.length cl, .slice aw W.length cw, .slice ao O.length co] := ⟨_, rfl⟩
  have g1 := (Gr.refl w).al (.cells G 25)
  have g2 := g1.al (.cells (metC []) 133)
  have HI := Lib.hid (And.intro (H.gr _ _ _ hI g2) (And.intro (Blk.new (w.alloc (.cells G 25)) 133 (metC [])) ((Blk.new w 25 G).al (.cells (metC []) 133))))
  have hX : w.heap.size < (w.alloc (.cells G 25)).heap.size := by rw [World.size_alloc]; omega
  have hBM : B ≤ (w.alloc (.cells G 25)).heap.size := by omega
  clear H hI hok g1 g2
  go_enter Try.func70, Try.ntmps70
  go_wp2_with fail
  generalize hw1 : w.alloc (.cells #[.slice al L.length cl, .slice aw W.length cw, .slice ao O.length co] 25) = W1
  rw [← hG] at hw1
  rw [hw1] at HI hX hBM
  have HG := Lib.hid hG
  clear hw1 hG
  go_step3
  go_wp2_with fail
  go_step3
  go_wp2_with fail
  clear hal
  have hI2 := HI.out.1
  have hM2 := HI.out.2.1
  have hX2 := HI.out.2.2
  clear HI
  obtain ⟨W0, hW0⟩ : ∃ W0, W0 = W1.alloc (.cells (metC []) 133) := ⟨_, rfl⟩
  rw [← hW0] at hI2 hM2 hX2
  first | rw [← hW0] | (have hW1 : W0 = W1.alloc (.cells (List.replicate 64 (.bool false)).toArray 133) := hW0.trans (congrArg (fun c => W1.alloc (.cells c 133)) (by rfl)); simp only [List.replicate] at hW1; rw [← hW1]; clear hW1)
  clear hW0
  generalize W1.heap.size = M at *
  generalize w.heap.size = X at *
  go_loopw [1] (fun v wr => ∃ k : Nat, v = .int .i64 (it (clean L W O).next t k) ∧ NoEnd (clean L W O).n (clean L W O).next t k ∧ (∀ j, j < k → on (road (clean L W O).next t j) (it (clean L W O).next t j) = true) ∧ I (road (clean L W O).next t k) wr ∧ Blk wr M 133 (metC (road (clean L W O).next t k)) ∧ Blk wr X 25 G) (fun _ wr => leftW wr M)
  case atStart => exact ⟨0, rfl, fun j hj => absurd hj (by omega), fun j hj => absurd hj (by omega), hI2, hM2, hX2⟩
  case round =>
    obtain ⟨k, rfl, hno, hon, hI, hM, hXb⟩ := hrel
    have HN := Lib.hid (And.intro hno hon)
    clear hno hon hI2 hM2 hX2
    have hX3 := hXb
    rw [HG.out] at hX3
    obtain ⟨x0, x1, x2, xf⟩ := hX3.c3
    clear hX3
    have C86 := Lib.hid (gthread _ L W O (it (clean L W O).next t k) wr (HH.out.gv _ _ hI))
    by_cases h1 : 0 ≤ it (clean L W O).next t k ∧ it (clean L W O).next t k < ((clean L W O).n : Int)
    · rw [show (clean L W O).th (it (clean L W O).next t k) = true by simpa [GS.th] using h1] at C86
      obtain ⟨i, hi⟩ := Int.eq_ofNat_of_zero_le h1.1
      have hin : i < (clean L W O).n := by omega
      have hi64 : i < 64 := by omega
      have HE := Lib.hid hi
      by_cases h3 : it (clean L W O).next t k ∈ road (clean L W O).next t k
      · have HMC := Lib.hid (show (metC (road (clean L W O).next t k))[i]? = some (.bool true) by rw [metC_get hi64, ← hi]; simp [h3])
        have HS := Lib.hid h3
        rw [hi] at C86 ⊢
        clear h1 h3 hi
        go_wp2_with (first | (go_at_call 86; refine (C86.out).mono ?_; rintro e w1 ⟨rfl, g1⟩; have mc := ((hM.gr g1).cell i).trans HMC.out))
        first | go_end0 | (rw [Exit.noGoto_normal]; go_end0)
        exact ⟨k, rfl, HN.out.1, HN.out.2, .inl ⟨.inr HS.out, HH.out.gr _ _ _ hI g1⟩⟩
      · have HNS := Lib.hid (show ¬ End (clean L W O).n (clean L W O).next t k by rintro (h | h) <;> contradiction)
        have hkl : (road (clean L W O).next t k).length < 64 := by
          rw [road_length]
          have := (HN.out.1.up HNS.out).le
          omega
        have HMC := Lib.hid (show (metC (road (clean L W O).next t k))[i]? = some (.bool false) by rw [metC_get hi64, ← hi]; simp [h3])
        have HX := Lib.hid (show (i : Int) ∉ road (clean L W O).next t k by rw [← hi]; exact h3)
        have C := Lib.hid (fun w' h => HH.out.call (road (clean L W O).next t k) i w' hkl hin HX.out h)
        have HM := Lib.hid (And.intro hM (And.intro hXb hI))
        rw [hi] at C86 ⊢
        clear h3 hi h1 hM hkl hXb
        cases hb : on (road (clean L W O).next t k) (i : Int)
        · rw [hb] at C
          have HO := Lib.hid hb
          clear hb
          go_wp2_with (first
            | (go_at_call 86; refine (C86.out).mono ?_; rintro e w1 ⟨rfl, g1⟩; have mc := ((HM.out.1.gr g1).cell i).trans HMC.out; have mf := (HM.out.1.gr g1).frozen)
            | (go_at_call 72; refine (C.out _ (HH.out.st _ _ M _ i (.bool true) (HH.out.gr _ _ _ HM.out.2.2 g1) (HM.out.1.gr g1) hBM)).mono ?_; rintro e w2 ⟨rfl, hI2, hM2⟩))
          first | go_end0 | (rw [Exit.noGoto_normal]; go_end0)
          exact ⟨k, rfl, HN.out.1, HN.out.2, .inr ⟨HNS.out, by rw [HE.out]; exact HO.out, by rw [road_succ, HE.out]; exact hI2⟩⟩
        · rw [hb] at C
          have HO := Lib.hid hb
          clear hb
          have C3 := Lib.hid (fun w' (h : I (road (clean L W O).next t k ++ [(i : Int)]) w') => gnext _ L W O i w' (HH.out.gv _ _ h) hin)
          go_wp2_with (first
            | (go_at_call 86; refine (C86.out).mono ?_; rintro e w1 ⟨rfl, g1⟩; have mc := ((HM.out.1.gr g1).cell i).trans HMC.out; have mf := (HM.out.1.gr g1).frozen)
            | (go_at_call 72; refine (C.out _ (HH.out.st _ _ M _ i (.bool true) (HH.out.gr _ _ _ HM.out.2.2 g1) (HM.out.1.gr g1) hBM)).mono ?_; rintro e w2 ⟨rfl, hI2, hK2⟩; have hM2 := hK2 M 133 _ (.inl rfl) ((HM.out.1.gr g1).st i (.bool true)); have hX2 := hK2 X 25 G (.inr rfl) ((HM.out.2.1.gr g1).far (p := ⟨M, i, none⟩) (by intro hxm; have hxx := (HM.out.2.1.gr g1).dif (HM.out.1.gr g1) (by decide); exact hxx hxm) _); have hX4 := hX2; rw [HG.out] at hX4; obtain ⟨y0, y1, y2, yf⟩ := hX4.c3; clear hX4)
            | (go_at_call 111; refine (C3.out _ hI2).mono ?_; rintro e w3 ⟨rfl, g3⟩))
          have hM4 : Blk w3 M 133 (metC (road (clean L W O).next t k ++ [(i : Int)])) := by
            rw [← metC_set]
            exact hM2.gr g3
          go_roundw
          case rel =>
            refine ⟨k + 1, ?_, HN.out.1.up HNS.out, fun j hj => ?_, ?_, ?_, hX2.gr g3⟩
            · show Value.int .i64 ((clean L W O).next (i : Int)) = .int .i64 ((clean L W O).next (it (clean L W O).next t k))
              rw [HE.out]
            · by_cases hjk : j = k
              · rw [hjk, HE.out]; exact HO.out
              · exact HN.out.2 j (by omega)
            · rw [road_succ, HE.out]; exact HH.out.gr _ _ _ hI2 g3
            · rw [road_succ, HE.out]; exact hM4
          case measure => exact leftW_lt HM.out.1 hM4 hi64 HX.out
    · rw [show (clean L W O).th (it (clean L W O).next t k) = false by simpa [GS.th] using h1] at C86
      have HS := Lib.hid h1
      clear h1
      generalize it (clean L W O).next t k = z at C86 ⊢
      go_wp2_with (first | (go_at_call 86; refine (C86.out).mono ?_; rintro e w1 ⟨rfl, g1⟩))
      first | go_end0 | (rw [Exit.noGoto_normal]; go_end0)
      exact ⟨k, rfl, HN.out.1, HN.out.2, .inl ⟨.inl HS.out, HH.out.gr _ _ _ hI g1⟩⟩
theorem road87 (GN O1 MT : Nat) (B : Nat) (gv : Value) (L W O : List Int) (w : World) (t : Int) (on : List Int → Int → Bool) (I : List Int → World → Prop) (H : OnG 87 (fun x => #[.int .i64 x, .pointer (some ⟨GN, 0, none⟩), .pointer (some ⟨O1, 0, none⟩), .pointer (some ⟨MT, 0, none⟩)]) B gv L W O on I) (hB : B ≤ w.heap.size) (hI : I [] w) :
    Calls Try.prog 70 #[gv, .int .i64 t, .func (.func 87) #[] #[.pointer (some ⟨GN, 0, none⟩), .pointer (some ⟨O1, 0, none⟩), .pointer (some ⟨MT, 0, none⟩)]] w (RoadEnd (clean L W O) t on I) := by
  have hok := clean_ok L W O
  have hn64 := hok.n64
  have hal := hal133
  have hgv := H.gv _ _ hI
  obtain ⟨vl, vw, vo, rfl, ⟨al, cl, rfl, hl1, hl2, _⟩, ⟨aw, cw, rfl, hw1, hw2, _⟩, ⟨ao, co, rfl, ho1, ho2, _⟩⟩ := hgv
  have HH := Lib.hid H
  obtain ⟨G, hG⟩ : ∃ G : Array Value, G = #[.slice al L.length cl, .slice aw W.length cw, .slice ao O.length co] := ⟨_, rfl⟩
  have g1 := (Gr.refl w).al (.cells G 25)
  have g2 := g1.al (.cells (metC []) 133)
  have HI := Lib.hid (And.intro (H.gr _ _ _ hI g2) (And.intro (Blk.new (w.alloc (.cells G 25)) 133 (metC [])) ((Blk.new w 25 G).al (.cells (metC []) 133))))
  have hX : w.heap.size < (w.alloc (.cells G 25)).heap.size := by rw [World.size_alloc]; omega
  have hBM : B ≤ (w.alloc (.cells G 25)).heap.size := by omega
  clear H hI hok g1 g2
  go_enter Try.func70, Try.ntmps70
  go_wp2_with fail
  generalize hw1 : w.alloc (.cells #[.slice al L.length cl, .slice aw W.length cw, .slice ao O.length co] 25) = W1
  rw [← hG] at hw1
  rw [hw1] at HI hX hBM
  have HG := Lib.hid hG
  clear hw1 hG
  go_step3
  go_wp2_with fail
  go_step3
  go_wp2_with fail
  clear hal
  have hI2 := HI.out.1
  have hM2 := HI.out.2.1
  have hX2 := HI.out.2.2
  clear HI
  obtain ⟨W0, hW0⟩ : ∃ W0, W0 = W1.alloc (.cells (metC []) 133) := ⟨_, rfl⟩
  rw [← hW0] at hI2 hM2 hX2
  first | rw [← hW0] | (have hW1 : W0 = W1.alloc (.cells (List.replicate 64 (.bool false)).toArray 133) := hW0.trans (congrArg (fun c => W1.alloc (.cells c 133)) (by rfl)); simp only [List.replicate] at hW1; rw [← hW1]; clear hW1)
  clear hW0
  generalize W1.heap.size = M at *
  generalize w.heap.size = X at *
  go_loopw [1] (fun v wr => ∃ k : Nat, v = .int .i64 (it (clean L W O).next t k) ∧ NoEnd (clean L W O).n (clean L W O).next t k ∧ (∀ j, j < k → on (road (clean L W O).next t j) (it (clean L W O).next t j) = true) ∧ I (road (clean L W O).next t k) wr ∧ Blk wr M 133 (metC (road (clean L W O).next t k)) ∧ Blk wr X 25 G) (fun _ wr => leftW wr M)
  case atStart => exact ⟨0, rfl, fun j hj => absurd hj (by omega), fun j hj => absurd hj (by omega), hI2, hM2, hX2⟩
  case round =>
    obtain ⟨k, rfl, hno, hon, hI, hM, hXb⟩ := hrel
    have HN := Lib.hid (And.intro hno hon)
    clear hno hon hI2 hM2 hX2
    have hX3 := hXb
    rw [HG.out] at hX3
    obtain ⟨x0, x1, x2, xf⟩ := hX3.c3
    clear hX3
    have C86 := Lib.hid (gthread _ L W O (it (clean L W O).next t k) wr (HH.out.gv _ _ hI))
    by_cases h1 : 0 ≤ it (clean L W O).next t k ∧ it (clean L W O).next t k < ((clean L W O).n : Int)
    · rw [show (clean L W O).th (it (clean L W O).next t k) = true by simpa [GS.th] using h1] at C86
      obtain ⟨i, hi⟩ := Int.eq_ofNat_of_zero_le h1.1
      have hin : i < (clean L W O).n := by omega
      have hi64 : i < 64 := by omega
      have HE := Lib.hid hi
      by_cases h3 : it (clean L W O).next t k ∈ road (clean L W O).next t k
      · have HMC := Lib.hid (show (metC (road (clean L W O).next t k))[i]? = some (.bool true) by rw [metC_get hi64, ← hi]; simp [h3])
        have HS := Lib.hid h3
        rw [hi] at C86 ⊢
        clear h1 h3 hi
        go_wp2_with (first | (go_at_call 86; refine (C86.out).mono ?_; rintro e w1 ⟨rfl, g1⟩; have mc := ((hM.gr g1).cell i).trans HMC.out))
        first | go_end0 | (rw [Exit.noGoto_normal]; go_end0)
        exact ⟨k, rfl, HN.out.1, HN.out.2, .inl ⟨.inr HS.out, HH.out.gr _ _ _ hI g1⟩⟩
      · have HNS := Lib.hid (show ¬ End (clean L W O).n (clean L W O).next t k by rintro (h | h) <;> contradiction)
        have hkl : (road (clean L W O).next t k).length < 64 := by
          rw [road_length]
          have := (HN.out.1.up HNS.out).le
          omega
        have HMC := Lib.hid (show (metC (road (clean L W O).next t k))[i]? = some (.bool false) by rw [metC_get hi64, ← hi]; simp [h3])
        have HX := Lib.hid (show (i : Int) ∉ road (clean L W O).next t k by rw [← hi]; exact h3)
        have C := Lib.hid (fun w' h => HH.out.call (road (clean L W O).next t k) i w' hkl hin HX.out h)
        have HM := Lib.hid (And.intro hM (And.intro hXb hI))
        rw [hi] at C86 ⊢
        clear h3 hi h1 hM hkl hXb
        cases hb : on (road (clean L W O).next t k) (i : Int)
        · rw [hb] at C
          have HO := Lib.hid hb
          clear hb
          go_wp2_with (first
            | (go_at_call 86; refine (C86.out).mono ?_; rintro e w1 ⟨rfl, g1⟩; have mc := ((HM.out.1.gr g1).cell i).trans HMC.out; have mf := (HM.out.1.gr g1).frozen)
            | (go_at_call 87; refine (C.out _ (HH.out.st _ _ M _ i (.bool true) (HH.out.gr _ _ _ HM.out.2.2 g1) (HM.out.1.gr g1) hBM)).mono ?_; rintro e w2 ⟨rfl, hI2, hM2⟩))
          first | go_end0 | (rw [Exit.noGoto_normal]; go_end0)
          exact ⟨k, rfl, HN.out.1, HN.out.2, .inr ⟨HNS.out, by rw [HE.out]; exact HO.out, by rw [road_succ, HE.out]; exact hI2⟩⟩
        · rw [hb] at C
          have HO := Lib.hid hb
          clear hb
          have C3 := Lib.hid (fun w' (h : I (road (clean L W O).next t k ++ [(i : Int)]) w') => gnext _ L W O i w' (HH.out.gv _ _ h) hin)
          go_wp2_with (first
            | (go_at_call 86; refine (C86.out).mono ?_; rintro e w1 ⟨rfl, g1⟩; have mc := ((HM.out.1.gr g1).cell i).trans HMC.out; have mf := (HM.out.1.gr g1).frozen)
            | (go_at_call 87; refine (C.out _ (HH.out.st _ _ M _ i (.bool true) (HH.out.gr _ _ _ HM.out.2.2 g1) (HM.out.1.gr g1) hBM)).mono ?_; rintro e w2 ⟨rfl, hI2, hK2⟩; have hM2 := hK2 M 133 _ (.inl rfl) ((HM.out.1.gr g1).st i (.bool true)); have hX2 := hK2 X 25 G (.inr rfl) ((HM.out.2.1.gr g1).far (p := ⟨M, i, none⟩) (by intro hxm; have hxx := (HM.out.2.1.gr g1).dif (HM.out.1.gr g1) (by decide); exact hxx hxm) _); have hX4 := hX2; rw [HG.out] at hX4; obtain ⟨y0, y1, y2, yf⟩ := hX4.c3; clear hX4)
            | (go_at_call 111; refine (C3.out _ hI2).mono ?_; rintro e w3 ⟨rfl, g3⟩))
          have hM4 : Blk w3 M 133 (metC (road (clean L W O).next t k ++ [(i : Int)])) := by
            rw [← metC_set]
            exact hM2.gr g3
          go_roundw
          case rel =>
            refine ⟨k + 1, ?_, HN.out.1.up HNS.out, fun j hj => ?_, ?_, ?_, hX2.gr g3⟩
            · show Value.int .i64 ((clean L W O).next (i : Int)) = .int .i64 ((clean L W O).next (it (clean L W O).next t k))
              rw [HE.out]
            · by_cases hjk : j = k
              · rw [hjk, HE.out]; exact HO.out
              · exact HN.out.2 j (by omega)
            · rw [road_succ, HE.out]; exact HH.out.gr _ _ _ hI2 g3
            · rw [road_succ, HE.out]; exact hM4
          case measure => exact leftW_lt HM.out.1 hM4 hi64 HX.out
    · rw [show (clean L W O).th (it (clean L W O).next t k) = false by simpa [GS.th] using h1] at C86
      have HS := Lib.hid h1
      clear h1
      generalize it (clean L W O).next t k = z at C86 ⊢
      go_wp2_with (first | (go_at_call 86; refine (C86.out).mono ?_; rintro e w1 ⟨rfl, g1⟩))
      first | go_end0 | (rw [Exit.noGoto_normal]; go_end0)
      exact ⟨k, rfl, HN.out.1, HN.out.2, .inl ⟨.inl HS.out, HH.out.gr _ _ _ hI g1⟩⟩
theorem road90 (GB O1 MT : Nat) (B : Nat) (gv : Value) (L W O : List Int) (w : World) (t : Int) (on : List Int → Int → Bool) (I : List Int → World → Prop) (H : OnG 90 (fun x => #[.int .i64 x, .pointer (some ⟨GB, 0, none⟩), .pointer (some ⟨O1, 0, none⟩), .pointer (some ⟨MT, 0, none⟩)]) B gv L W O on I) (hB : B ≤ w.heap.size) (hI : I [] w) :
    Calls Try.prog 70 #[gv, .int .i64 t, .func (.func 90) #[] #[.pointer (some ⟨GB, 0, none⟩), .pointer (some ⟨O1, 0, none⟩), .pointer (some ⟨MT, 0, none⟩)]] w (RoadEnd (clean L W O) t on I) := by
  have hok := clean_ok L W O
  have hn64 := hok.n64
  have hal := hal133
  have hgv := H.gv _ _ hI
  obtain ⟨vl, vw, vo, rfl, ⟨al, cl, rfl, hl1, hl2, _⟩, ⟨aw, cw, rfl, hw1, hw2, _⟩, ⟨ao, co, rfl, ho1, ho2, _⟩⟩ := hgv
  have HH := Lib.hid H
  obtain ⟨G, hG⟩ : ∃ G : Array Value, G = #[.slice al L.length cl, .slice aw W.length cw, .slice ao O.length co] := ⟨_, rfl⟩
  have g1 := (Gr.refl w).al (.cells G 25)
  have g2 := g1.al (.cells (metC []) 133)
  have HI := Lib.hid (And.intro (H.gr _ _ _ hI g2) (And.intro (Blk.new (w.alloc (.cells G 25)) 133 (metC [])) ((Blk.new w 25 G).al (.cells (metC []) 133))))
  have hX : w.heap.size < (w.alloc (.cells G 25)).heap.size := by rw [World.size_alloc]; omega
  have hBM : B ≤ (w.alloc (.cells G 25)).heap.size := by omega
  clear H hI hok g1 g2
  go_enter Try.func70, Try.ntmps70
  go_wp2_with fail
  generalize hw1 : w.alloc (.cells #[.slice al L.length cl, .slice aw W.length cw, .slice ao O.length co] 25) = W1
  rw [← hG] at hw1
  rw [hw1] at HI hX hBM
  have HG := Lib.hid hG
  clear hw1 hG
  go_step3
  go_wp2_with fail
  go_step3
  go_wp2_with fail
  clear hal
  have hI2 := HI.out.1
  have hM2 := HI.out.2.1
  have hX2 := HI.out.2.2
  clear HI
  obtain ⟨W0, hW0⟩ : ∃ W0, W0 = W1.alloc (.cells (metC []) 133) := ⟨_, rfl⟩
  rw [← hW0] at hI2 hM2 hX2
  first | rw [← hW0] | (have hW1 : W0 = W1.alloc (.cells (List.replicate 64 (.bool false)).toArray 133) := hW0.trans (congrArg (fun c => W1.alloc (.cells c 133)) (by rfl)); simp only [List.replicate] at hW1; rw [← hW1]; clear hW1)
  clear hW0
  generalize W1.heap.size = M at *
  generalize w.heap.size = X at *
  go_loopw [1] (fun v wr => ∃ k : Nat, v = .int .i64 (it (clean L W O).next t k) ∧ NoEnd (clean L W O).n (clean L W O).next t k ∧ (∀ j, j < k → on (road (clean L W O).next t j) (it (clean L W O).next t j) = true) ∧ I (road (clean L W O).next t k) wr ∧ Blk wr M 133 (metC (road (clean L W O).next t k)) ∧ Blk wr X 25 G) (fun _ wr => leftW wr M)
  case atStart => exact ⟨0, rfl, fun j hj => absurd hj (by omega), fun j hj => absurd hj (by omega), hI2, hM2, hX2⟩
  case round =>
    obtain ⟨k, rfl, hno, hon, hI, hM, hXb⟩ := hrel
    have HN := Lib.hid (And.intro hno hon)
    clear hno hon hI2 hM2 hX2
    have hX3 := hXb
    rw [HG.out] at hX3
    obtain ⟨x0, x1, x2, xf⟩ := hX3.c3
    clear hX3
    have C86 := Lib.hid (gthread _ L W O (it (clean L W O).next t k) wr (HH.out.gv _ _ hI))
    by_cases h1 : 0 ≤ it (clean L W O).next t k ∧ it (clean L W O).next t k < ((clean L W O).n : Int)
    · rw [show (clean L W O).th (it (clean L W O).next t k) = true by simpa [GS.th] using h1] at C86
      obtain ⟨i, hi⟩ := Int.eq_ofNat_of_zero_le h1.1
      have hin : i < (clean L W O).n := by omega
      have hi64 : i < 64 := by omega
      have HE := Lib.hid hi
      by_cases h3 : it (clean L W O).next t k ∈ road (clean L W O).next t k
      · have HMC := Lib.hid (show (metC (road (clean L W O).next t k))[i]? = some (.bool true) by rw [metC_get hi64, ← hi]; simp [h3])
        have HS := Lib.hid h3
        rw [hi] at C86 ⊢
        clear h1 h3 hi
        go_wp2_with (first | (go_at_call 86; refine (C86.out).mono ?_; rintro e w1 ⟨rfl, g1⟩; have mc := ((hM.gr g1).cell i).trans HMC.out))
        first | go_end0 | (rw [Exit.noGoto_normal]; go_end0)
        exact ⟨k, rfl, HN.out.1, HN.out.2, .inl ⟨.inr HS.out, HH.out.gr _ _ _ hI g1⟩⟩
      · have HNS := Lib.hid (show ¬ End (clean L W O).n (clean L W O).next t k by rintro (h | h) <;> contradiction)
        have hkl : (road (clean L W O).next t k).length < 64 := by
          rw [road_length]
          have := (HN.out.1.up HNS.out).le
          omega
        have HMC := Lib.hid (show (metC (road (clean L W O).next t k))[i]? = some (.bool false) by rw [metC_get hi64, ← hi]; simp [h3])
        have HX := Lib.hid (show (i : Int) ∉ road (clean L W O).next t k by rw [← hi]; exact h3)
        have C := Lib.hid (fun w' h => HH.out.call (road (clean L W O).next t k) i w' hkl hin HX.out h)
        have HM := Lib.hid (And.intro hM (And.intro hXb hI))
        rw [hi] at C86 ⊢
        clear h3 hi h1 hM hkl hXb
        cases hb : on (road (clean L W O).next t k) (i : Int)
        · rw [hb] at C
          have HO := Lib.hid hb
          clear hb
          go_wp2_with (first
            | (go_at_call 86; refine (C86.out).mono ?_; rintro e w1 ⟨rfl, g1⟩; have mc := ((HM.out.1.gr g1).cell i).trans HMC.out; have mf := (HM.out.1.gr g1).frozen)
            | (go_at_call 90; refine (C.out _ (HH.out.st _ _ M _ i (.bool true) (HH.out.gr _ _ _ HM.out.2.2 g1) (HM.out.1.gr g1) hBM)).mono ?_; rintro e w2 ⟨rfl, hI2, hM2⟩))
          first | go_end0 | (rw [Exit.noGoto_normal]; go_end0)
          exact ⟨k, rfl, HN.out.1, HN.out.2, .inr ⟨HNS.out, by rw [HE.out]; exact HO.out, by rw [road_succ, HE.out]; exact hI2⟩⟩
        · rw [hb] at C
          have HO := Lib.hid hb
          clear hb
          have C3 := Lib.hid (fun w' (h : I (road (clean L W O).next t k ++ [(i : Int)]) w') => gnext _ L W O i w' (HH.out.gv _ _ h) hin)
          go_wp2_with (first
            | (go_at_call 86; refine (C86.out).mono ?_; rintro e w1 ⟨rfl, g1⟩; have mc := ((HM.out.1.gr g1).cell i).trans HMC.out; have mf := (HM.out.1.gr g1).frozen)
            | (go_at_call 90; refine (C.out _ (HH.out.st _ _ M _ i (.bool true) (HH.out.gr _ _ _ HM.out.2.2 g1) (HM.out.1.gr g1) hBM)).mono ?_; rintro e w2 ⟨rfl, hI2, hK2⟩; have hM2 := hK2 M 133 _ (.inl rfl) ((HM.out.1.gr g1).st i (.bool true)); have hX2 := hK2 X 25 G (.inr rfl) ((HM.out.2.1.gr g1).far (p := ⟨M, i, none⟩) (by intro hxm; have hxx := (HM.out.2.1.gr g1).dif (HM.out.1.gr g1) (by decide); exact hxx hxm) _); have hX4 := hX2; rw [HG.out] at hX4; obtain ⟨y0, y1, y2, yf⟩ := hX4.c3; clear hX4)
            | (go_at_call 111; refine (C3.out _ hI2).mono ?_; rintro e w3 ⟨rfl, g3⟩))
          have hM4 : Blk w3 M 133 (metC (road (clean L W O).next t k ++ [(i : Int)])) := by
            rw [← metC_set]
            exact hM2.gr g3
          go_roundw
          case rel =>
            refine ⟨k + 1, ?_, HN.out.1.up HNS.out, fun j hj => ?_, ?_, ?_, hX2.gr g3⟩
            · show Value.int .i64 ((clean L W O).next (i : Int)) = .int .i64 ((clean L W O).next (it (clean L W O).next t k))
              rw [HE.out]
            · by_cases hjk : j = k
              · rw [hjk, HE.out]; exact HO.out
              · exact HN.out.2 j (by omega)
            · rw [road_succ, HE.out]; exact HH.out.gr _ _ _ hI2 g3
            · rw [road_succ, HE.out]; exact hM4
          case measure => exact leftW_lt HM.out.1 hM4 hi64 HX.out
    · rw [show (clean L W O).th (it (clean L W O).next t k) = false by simpa [GS.th] using h1] at C86
      have HS := Lib.hid h1
      clear h1
      generalize it (clean L W O).next t k = z at C86 ⊢
      go_wp2_with (first | (go_at_call 86; refine (C86.out).mono ?_; rintro e w1 ⟨rfl, g1⟩))
      first | go_end0 | (rw [Exit.noGoto_normal]; go_end0)
      exact ⟨k, rfl, HN.out.1, HN.out.2, .inl ⟨.inl HS.out, HH.out.gr _ _ _ hI g1⟩⟩
end Go.Proofs.Ytkkobbomipcpoaa
