/- The walk of the law TagPlays of chapter 6 (tag): it returns true for every input, and changes nothing that was there. -/
import Derived.Test.YtbbhhlnbjgigaaaTagSame
import Derived.Test.YtbbhhlnbjgigaaaSumsLaws
namespace Go.Proofs.Ytbbhhlnbjgigaaa
open Go.RowKit TagP
set_option linter.unusedVariables false

theorem row_of_own {w : World} {B : Nat} {e : TypeId} {k : IntKind} {v : Value} {n : Nat} {zs : List Int} (h : w.ownsRow B e 1 v n (intCells k zs)) (hn : zs.length = n) :
    ∃ a cap, v = .slice a n cap ∧ n ≤ cap ∧ cap ≤ 9223372036854775807 ∧ RowAt k w a zs := by
  subst hn
  exact own_row h

/-- What holds ahead of each round. -/
structure TagInv (B R : Nat) (w wr : World) (v : Value) (k : Nat) (l : Int) (of : Nat → Int) (gs : List Int) : Prop where
  l0 : 0 ≤ l
  l1 : l ≤ 72057594037927935
  of0 : ∀ i, 0 ≤ of i ∧ of i ≤ 72057594037927935
  b : Blk wr B 85 (bookCells l (wf of))
  r : Blk wr R 67 (bookCells l of)
  own : wr.ownsRow (R + 1) 27 1 v gs.length (intCells .u64 gs)
  few : gs.length ≤ k
  bd : ∀ g ∈ gs, 0 ≤ g ∧ g ≤ 18446744073709551615
  gr : Gr w wr
def TagRel (B R : Nat) (w wr : World) (v : Value) (k : Nat) : Prop := ∃ l of gs, TagInv B R w wr v k l of gs

set_option maxRecDepth 100000 in
set_option maxHeartbeats 4000000 in
theorem tagPlays_walk (last : Int) (a : Option Addr) (len cap : Nat) (F : Nat → Nat → Value) (w : World) (hl : 0 ≤ last ∧ last ≤ 18446744073709551615) (h : RecsIn Try.prog 70 w a len cap 4 F) :
    Calls Try.prog 11 #[.int .u64 last, .slice a len cap] w fun e w' => e = .returned (.bool true) ∧ Gr w w' := by
  obtain ⟨hlen, hcap, hrow, hkind⟩ := h
  have hk0 : ∀ i, i < len → ∃ n, F i 0 = .int .u8 n ∧ 0 ≤ n ∧ n ≤ 255 := fun i hi => by
    obtain ⟨n, h1, h2⟩ := hkind 2 i 0 (some .u8) hi (by omega) (by kernel_rfl); exact ⟨n, h1, bd_u8 h2⟩
  have hk1 : ∀ i, i < len → ∃ n, F i 1 = .int .i64 n ∧ -9223372036854775808 ≤ n ∧ n ≤ 9223372036854775807 := fun i hi => by
    obtain ⟨n, h1, h2⟩ := hkind 2 i 1 (some .i64) hi (by omega) (by kernel_rfl); exact ⟨n, h1, bd_i64 h2⟩
  have hk2 : ∀ i, i < len → ∃ n, F i 2 = .int .u64 n ∧ 0 ≤ n ∧ n ≤ 18446744073709551615 := fun i hi => by
    obtain ⟨n, h1, h2⟩ := hkind 2 i 2 (some .u64) hi (by omega) (by kernel_rfl); exact ⟨n, h1, bd_u64 h2⟩
  have hk3 : ∀ i, i < len → ∃ b, F i 3 = .bool b := fun i hi => hkind 2 i 3 none hi (by omega) (by kernel_rfl)
  have HK := Lib.hid (And.intro hk0 (And.intro hk1 (And.intro hk2 hk3)))
  have HR := Lib.hid hrow
  clear hkind hk0 hk1 hk2 hk3 hrow
  go_enter Try.func11, Try.ntmps11
  go_wp2_with fail
  refine (new_any _ _).mono ?_
  rintro e w1 ⟨rfl, rfl⟩
  have hbk := Blk.new w 85 (bookCells (min last 72057594037927935) fun _ => 0)
  have hg1 : Gr w (w.alloc (.cells (bookCells (min last 72057594037927935) fun _ => 0) 85)) := (Gr.refl w).al _
  generalize w.alloc (.cells (bookCells (min last 72057594037927935) fun _ => 0) 85) = w1 at *
  go_wp2_with fail
  refine (rnew_any _ _).mono ?_
  rintro e w2 ⟨rfl, g2⟩
  have hl0 : 0 ≤ min last 72057594037927935 ∧ min last 72057594037927935 ≤ 72057594037927935 := by omega
  generalize min last 72057594037927935 = l0 at *
  have hbk2 := (hbk.gr g2).al (.cells Try.zeroCells67 67)
  have hz := Blk.new w2 67 Try.zeroCells67
  have hg2 : Gr w (w2.alloc (.cells Try.zeroCells67 67)) := (hg1.tr g2).al _
  have hBR : w.heap.size < w2.heap.size := (hbk.gr g2).lt
  go_wp2_with (refine st67 (.tmp 6) (.tmp 18) w2.heap.size _ _ l0 _ rfl zsize67 rfl rfl rfl rfl hz ?_)
  intro w3 hr3 hc3
  have hbk3 := hbk2.ch hc3 (by simp; omega)
  have hg3 : Gr w w3 := hg2.chs hc3 (by simp; omega)
  have hRlt : w2.heap.size + 1 ≤ w3.heap.size := hr3.lt
  clear hbk hbk2 hz hg2 hc3 g2 hg1
  generalize hR : w2.heap.size = R at *
  clear hR
  go_wp2_with fail
  go_loopw [7, 8] (fun v i wr => ∃ k : Nat, k ≤ len ∧ k ≤ 40 ∧ i = .int .i64 k ∧ TagRel w.heap.size R w wr v k) (fun _ i _ => len - (intOf i).toNat)
  case atStart =>
    refine ⟨0, by omega, by omega, rfl, l0, fun _ => 0, [], ⟨hl0.1, hl0.2, fun _ => by omega, ?_, hr3, World.ownsRow_nil _ _ _ _, by simp, by simp, hg3⟩⟩
    have : wf (fun _ => 0) = fun _ => 0 := by funext i; simp [wf]
    rw [this]; exact hbk3
  case round =>
    obtain ⟨k, hk, hk40, rfl, l, of, gs, inv⟩ := hrel
    by_cases hlt : k < len
    · have hd : decide ((k : Int) < (len : Int)) = true := by simpa using hlt
      by_cases h40 : k < 40
      · have hd2 : decide ((k : Int) < 40) = true := by simp; omega
        rcases HR.out with h0 | ⟨bz, off, rfl, hc⟩
        · omega
        obtain ⟨kd, e0, hkd⟩ := HK.out.1 k hlt
        obtain ⟨sl, e1, hsl⟩ := HK.out.2.1 k hlt
        obtain ⟨wd, e2, hwd⟩ := HK.out.2.2.1 k hlt
        obtain ⟨od, e3⟩ := HK.out.2.2.2 k hlt
        have c0 := inv.gr.cell_some (hc k 0 hlt (by omega))
        have c1 := inv.gr.cell_some (hc k 1 hlt (by omega))
        have c2 := inv.gr.cell_some (hc k 2 hlt (by omega))
        have c3 := inv.gr.cell_some (hc k 3 hlt (by omega))
        rw [e0] at c0
        rw [e1] at c1
        rw [e2] at c2
        rw [e3] at c3
        clear e0 e1 e2 e3 hc
        simp only [Nat.add_zero] at c0
        have hbn := inv.b.al (.cells #[.int .u8 kd, .int .i64 sl, .int .u64 wd, .bool od] 70)
        have hrn := inv.r.al (.cells #[.int .u8 kd, .int .i64 sl, .int .u64 wd, .bool od] 70)
        have hon := inv.own.alloc (.cells #[.int .u8 kd, .int .i64 sl, .int .u64 wd, .bool od] 70)
        have hgn := inv.gr.al (.cells #[.int .u8 kd, .int .i64 sl, .int .u64 wd, .bool od] 70)
        have han := Blk.new wr 70 #[.int .u8 kd, .int .i64 sl, .int .u64 wd, .bool od]
        have hRA : R < wr.heap.size := inv.r.lt
        go_upto_region 8 with fail
        generalize wr.alloc (.cells #[.int .u8 kd, .int .i64 sl, .int .u64 wd, .bool od] 70) = W at *
        generalize hA : wr.heap.size = A at *
        have HI := Lib.hid inv
        clear hA c0 c1 c2 c3 inv
        obtain ⟨a0, a1, a2, a3, _⟩ := han.c4
        have hk4 : kd % 4 = 0 ∨ kd % 4 = 1 ∨ kd % 4 = 2 ∨ kd % 4 = 3 := by omega
        have hk4' : (kd % 4 = 0 ∨ kd % 4 = 1) ∨ kd % 4 = 2 ∨ kd % 4 = 3 := by omega
        clear hk4
        rcases hk4' with hk4 | hk4 | hk4
        · by_cases hy : 0 ≤ sl ∧ sl < 64 ∧ l < 72057594037927935
          · obtain ⟨i, hi⟩ := Int.eq_ofNat_of_zero_le hy.1
            have hgood : goodB (l + 1) sl = true := (good_iff _ _).2 ⟨by have := HI.out.l0; omega, by omega, hy.1, hy.2.1⟩
            have hword : wordI (l + 1) sl = (l + 1) * 256 + sl := by unfold wordI; rw [if_pos hgood]
            have hwpos : 0 < wordI (l + 1) sl ∧ wordI (l + 1) sl ≤ 18446744073709551615 := by have := HI.out.l0; omega
            have hwf : setF (wf of) sl.toNat (wordI (l + 1) sl) = wf (setF of sl.toNat (l + 1)) := by
              rw [hword, hi, Int.toNat_natCast]; exact wf_set of i (l + 1) (by have := HI.out.l0; omega)
            have CR := Lib.hid (fun w => rnext_yes l of sl w hy HI.out.l0)
            have CN := Lib.hid (fun (w' : World) (hb : Blk w' w.heap.size 85 (bookCells l (wf of))) => next_yes w.heap.size l (wf of) sl w' hb HI.out.l0 HI.out.l1 hgood)
            rw [hwf] at CN
            have hof' : ∀ j, 0 ≤ setF of sl.toNat (l + 1) j ∧ setF of sl.toNat (l + 1) j ≤ 72057594037927935 := fun j => by
              unfold setF; split
              · have := HI.out.l0; omega
              · exact HI.out.of0 j
            have CS := Lib.hid (fun (w' : World) (hb : Blk w' w.heap.size 85 (bookCells (l + 1) (wf (setF of sl.toNat (l + 1))))) => same_any w.heap.size (l + 1) _ w' hb hof')
            have HB := Lib.hid (And.intro hof' hwf)
            have hll : 0 ≤ l + 1 ∧ l + 1 ≤ 72057594037927935 := by have := HI.out.l0; omega
            clear hword hwf hgood hi hof' hy
            generalize wordI (l + 1) sl = q at *
            generalize setF of sl.toNat (l + 1) = of' at *
            generalize l + 1 = l' at *
            obtain ⟨av, cv, rfl, hcv1, hcv2, hrv⟩ := row_of_own hon rfl
            rcases hk4 with hk4 | hk4
            all_goals
              go_wp2_with (refine ld67 (.tmp 6) R l of rfl rfl rfl hrn ?_)
              with_reducible refine (CR.out _).mono ?_
              rintro e w4 ⟨rfl, g4⟩
              have hz4 := Blk.new w4 67 Try.zeroCells67
              have hr4 := (hrn.gr g4).al (.cells Try.zeroCells67 67)
              have hb4 := (hbn.gr g4).al (.cells Try.zeroCells67 67)
              have ha4 := (han.gr g4).al (.cells Try.zeroCells67 67)
              have ho4 := (g4.own hon).alloc (.cells Try.zeroCells67 67)
              have hg4 : Gr w (w4.alloc (.cells Try.zeroCells67 67)) := (hgn.tr g4).al _
              have hAN : A < w4.heap.size := (han.gr g4).lt
              go_upto_region 17 with (refine st67 (.tmp 10) (.tmp 68) w4.heap.size _ _ l' of' rfl zsize67 rfl rfl rfl rfl hz4 ?_; intro w6 hn6 hc6)
              have hr6 := hr4.ch hc6 (by simp; omega)
              have hb6 := hb4.ch hc6 (by simp; omega)
              have ha6 := ha4.ch hc6 (by simp; omega)
              have ho6 := hc6.own ho4 (fun q hq => by have := (hon.lt q hq).2; have := g4.size_le; have := han.lt; have : q < w4.heap.size := by have := ((g4.own hon).lt q hq).2; omega
                                                      simp; omega)
              have hg6 : Gr w w6 := hg4.chs hc6 (by have := hg4.size_le; simp; have := hbn.lt; have := hgn.size_le; have := (g4.size_le); omega)
              clear hz4 hr4 hb4 ha4 ho4 hg4 hc6 a0 a1 a2 a3
              go_upto_region 18 with (first | (refine ld67 (.tmp 10) w4.heap.size l' of' rfl rfl rfl hn6 ?_) | (refine st67 (.tmp 6) (.tmp 70) R _ _ l' of' rfl (bookCells_size _ _) rfl rfl rfl rfl hr6 ?_; intro w7 hr7 hc7))
              have hb7 := hb6.ch hc7 (by simp; omega)
              have ha7 := ha6.ch hc7 (by simp; omega)
              have ho7 := hc7.own ho6 (fun q hq => by have := (hon.lt q hq).1; simp; omega)
              have hg7 : Gr w w7 := hg6.chs hc7 (by simp; omega)
              obtain ⟨a0, a1, a2, a3, _⟩ := ha7.c4
              clear hr6 hb6 ha6 ho6 hg6 hc7
              go_wp2_with fail
              with_reducible refine (CN.out _ hb7).mono ?_
              rintro e w8 ⟨rfl, hb8, hc8⟩
              have hr8 := hr7.ch hc8 (by simp; omega)
              have ho8 := hc8.own ho7 (fun q hq => by have := (hon.lt q hq).1; simp; omega)
              have hg8 : Gr w w8 := hg7.chs hc8 (by simp)
              clear hr7 ha7 ho7 hg7 hc8 hb7 a0 a1 a2 a3
              have hlen8 : gs.length ≤ 40 := by have := HI.out.few; omega
              have hR8 := hr8.lt
              go_wp2_with (at_builtin; refine wpList_app1 el42 (.tmp 87) (.tmp 89) (R + 1) _ _ _ _ _ _ rfl rfl rfl rfl ho8 rfl rfl ?_ ?_ ?_ ?_)
              · omega
              · omega
              · omega
              intro v9 w9 ho9 hgr9
              have hown8 : ∀ q, (Value.slice av gs.length cv).ownBlock = some q → R + 1 ≤ q := fun q hq => (hon.lt q hq).1
              have hb9 := hb8.grown hgr9 (fun e => by have := hown8 _ e.symm; omega)
              have hr9 := hr8.grown hgr9 (fun e => by have := hown8 _ e.symm; omega)
              have hg9 : Gr w w9 := hg8.grown hgr9 (fun q hq => by have := hown8 q hq; omega)
              clear hgr9 ho8 hb8 hr8 hg8
              rw [show intCells .u64 gs ++ #[Value.int IntKind.u64 q].toList = intCells .u64 (gs ++ [q]) by rw [intCells_snoc]] at ho9
              go_wp2_with (first | (refine ld67 (.tmp 6) R l' of' rfl rfl rfl hr9 ?_) | (go_at_call 52; refine (CS.out _ hb9).mono ?_; rintro e w10 ⟨rfl, g10⟩))
              go_roundw
              case rel =>
                refine ⟨k + 1, by omega, by omega, by go_num, l', of', gs ++ [q], ⟨hll.1, hll.2, HB.out.1, hb9.gr g10, hr9.gr g10, ?_, ?_, ?_, hg9.tr g10⟩⟩
                · have := g10.own ho9; simpa using this
                · have := HI.out.few; simp; omega
                · intro x hx
                  rcases List.mem_append.1 hx with hx | hx
                  · exact HI.out.bd x hx
                  · obtain rfl : x = q := by simpa using hx
                    omega
              case measure => simp [intOf]; omega
          · have hgood : goodB (l + 1) sl = false := by
              cases hq : goodB (l + 1) sl with
              | false => rfl
              | true => have := (good_iff _ _).1 hq; omega
            have CR := Lib.hid (fun w => rnext_no l of sl w hy HI.out.l1)
            have CN := Lib.hid (fun (w' : World) (hb : Blk w' w.heap.size 85 (bookCells l (wf of))) => next_no w.heap.size l (wf of) sl w' hb HI.out.l0 HI.out.l1 hgood)
            have CS := Lib.hid (fun (w' : World) (hb : Blk w' w.heap.size 85 (bookCells l (wf of))) => same_any w.heap.size l _ w' hb HI.out.of0)
            clear hgood hy
            obtain ⟨av, cv, rfl, hcv1, hcv2, hrv⟩ := row_of_own hon rfl
            rcases hk4 with hk4 | hk4
            all_goals
              go_wp2_with (refine ld67 (.tmp 6) R l of rfl rfl rfl hrn ?_)
              with_reducible refine (CR.out _).mono ?_
              rintro e w4 ⟨rfl, g4⟩
              have hz4 := Blk.new w4 67 Try.zeroCells67
              have hr4 := (hrn.gr g4).al (.cells Try.zeroCells67 67)
              have hb4 := (hbn.gr g4).al (.cells Try.zeroCells67 67)
              have ha4 := (han.gr g4).al (.cells Try.zeroCells67 67)
              have ho4 := (g4.own hon).alloc (.cells Try.zeroCells67 67)
              have hg4 : Gr w (w4.alloc (.cells Try.zeroCells67 67)) := (hgn.tr g4).al _
              have hAN : A < w4.heap.size := (han.gr g4).lt
              go_upto_region 17 with (refine st67 (.tmp 10) (.tmp 68) w4.heap.size _ _ l of rfl zsize67 rfl rfl rfl rfl hz4 ?_; intro w6 hn6 hc6)
              have hr6 := hr4.ch hc6 (by simp; omega)
              have hb6 := hb4.ch hc6 (by simp; omega)
              have ha6 := ha4.ch hc6 (by simp; omega)
              have ho6 := hc6.own ho4 (fun q hq => by have := (hon.lt q hq).2; have := g4.size_le; have := han.lt; have : q < w4.heap.size := by have := ((g4.own hon).lt q hq).2; omega
                                                      simp; omega)
              have hg6 : Gr w w6 := hg4.chs hc6 (by have := hg4.size_le; simp; have := hbn.lt; have := hgn.size_le; have := (g4.size_le); omega)
              clear hz4 hr4 hb4 ha4 ho4 hg4 hc6 a0 a1 a2 a3
              go_upto_region 18 with (first | (refine ld67 (.tmp 10) w4.heap.size l of rfl rfl rfl hn6 ?_) | (refine st67 (.tmp 6) (.tmp 70) R _ _ l of rfl (bookCells_size _ _) rfl rfl rfl rfl hr6 ?_; intro w7 hr7 hc7))
              have hb7 := hb6.ch hc7 (by simp; omega)
              have ha7 := ha6.ch hc7 (by simp; omega)
              have ho7 := hc7.own ho6 (fun q hq => by have := (hon.lt q hq).1; simp; omega)
              have hg7 : Gr w w7 := hg6.chs hc7 (by simp; omega)
              obtain ⟨a0, a1, a2, a3, _⟩ := ha7.c4
              clear hr6 hb6 ha6 ho6 hg6 hc7
              go_wp2_with fail
              with_reducible refine (CN.out _ hb7).mono ?_
              rintro e w8 ⟨rfl, g8⟩
              have hb8 := hb7.gr g8
              have hr8 := hr7.gr g8
              have ho8 := g8.own ho7
              have hg8 : Gr w w8 := hg7.tr g8
              clear hr7 ha7 ho7 hg7 g8 hb7 a0 a1 a2 a3
              have hlen8 : gs.length ≤ 40 := by have := HI.out.few; omega
              have hR8 := hr8.lt
              go_wp2_with (at_builtin; refine wpList_app1 el42 (.tmp 87) (.tmp 89) (R + 1) _ _ _ _ _ _ rfl rfl rfl rfl ho8 rfl rfl ?_ ?_ ?_ ?_)
              · omega
              · omega
              · omega
              intro v9 w9 ho9 hgr9
              have hown8 : ∀ q, (Value.slice av gs.length cv).ownBlock = some q → R + 1 ≤ q := fun q hq => (hon.lt q hq).1
              have hb9 := hb8.grown hgr9 (fun e => by have := hown8 _ e.symm; omega)
              have hr9 := hr8.grown hgr9 (fun e => by have := hown8 _ e.symm; omega)
              have hg9 : Gr w w9 := hg8.grown hgr9 (fun q hq => by have := hown8 q hq; omega)
              clear hgr9 ho8 hb8 hr8 hg8
              rw [show intCells .u64 gs ++ #[Value.int IntKind.u64 0].toList = intCells .u64 (gs ++ [0]) by rw [intCells_snoc]] at ho9
              go_wp2_with (first | (refine ld67 (.tmp 6) R l of rfl rfl rfl hr9 ?_) | (go_at_call 52; refine (CS.out _ hb9).mono ?_; rintro e w10 ⟨rfl, g10⟩))
              go_roundw
              case rel =>
                refine ⟨k + 1, by omega, by omega, by go_num, l, of, gs ++ [0], ⟨HI.out.l0, HI.out.l1, HI.out.of0, hb9.gr g10, hr9.gr g10, ?_, ?_, ?_, hg9.tr g10⟩⟩
                · have := g10.own ho9; simpa using this
                · have := HI.out.few; simp; omega
                · intro x hx
                  rcases List.mem_append.1 hx with hx | hx
                  · exact HI.out.bd x hx
                  · obtain rfl : x = 0 := by simpa using hx
                    omega
              case measure => simp [intOf]; omega
        · -- Drop
          have CD := Lib.hid (fun (w' : World) (hb : Blk w' w.heap.size 85 (bookCells l (wf of))) => drop_any w.heap.size l (wf of) sl w' hb)
          obtain ⟨av, cv, rfl, hcv1, hcv2, hrv⟩ := row_of_own hon rfl
          by_cases hy : 0 ≤ sl ∧ sl < 64
          · obtain ⟨i, rfl⟩ := Int.eq_ofNat_of_zero_le hy.1
            have hdrop : dropF (wf of) (i : Int) = wf (setF of i 0) := by
              unfold dropF; rw [if_pos ((place_iff _).2 hy), Int.toNat_natCast, wf_drop]
            rw [hdrop] at CD
            have hof' : ∀ j, 0 ≤ setF of i 0 j ∧ setF of i 0 j ≤ 72057594037927935 := fun j => by
              unfold setF; split
              · omega
              · exact HI.out.of0 j
            have CS := Lib.hid (fun (w' : World) (hb : Blk w' w.heap.size 85 (bookCells l (wf (setF of i 0)))) => same_any w.heap.size l _ w' hb hof')
            have HB := Lib.hid hof'
            obtain ⟨hy0, hy1⟩ := hy
            clear hdrop hof'
            go_wp2_with fail
            with_reducible refine (CD.out _ hbn).mono ?_
            rintro e w4 ⟨rfl, hb4, hc4⟩
            have hr4 := hrn.ch hc4 (by simp; omega)
            have ha4 := han.ch hc4 (by simp; omega)
            have ho4 := hc4.own hon (fun q hq => by have := (hon.lt q hq).1; simp; omega)
            have hg4 : Gr w w4 := hgn.chs hc4 (by simp)
            clear a0 a1 a2 a3
            obtain ⟨a0, a1, a2, a3, _⟩ := ha4.c4
            have hcr := hr4.cell (1 + i)
            rw [bookCells_at _ _ i (by omega)] at hcr
            have hfr := hr4.frozen (1 + i)
            have hr5 := hr4.st (1 + i) (.int .u64 0)
            rw [bookCells_set] at hr5
            have hb5 := hb4.far (p := ⟨R, 1 + i, none⟩) (show w.heap.size ≠ R by omega) (.int .u64 0)
            have hc5 : Ch [R] w4 (w4.setCell ⟨R, 1 + i, none⟩ (.int .u64 0)) := (Ch.refl _ _).st (by simp) _
            have ho5 := hc5.own ho4 (fun q hq => by have := (hon.lt q hq).1; simp; omega)
            have hg5 : Gr w (w4.setCell ⟨R, 1 + i, none⟩ (.int .u64 0)) := hg4.chs hc5 (by simp; omega)
            go_upto_region 26 with fail
            generalize w4.setCell ⟨R, 1 + i, none⟩ (.int .u64 0) = w5 at *
            go_wp2_with (first | (refine ld67 (.tmp 6) R l (setF of i 0) rfl rfl rfl hr5 ?_) | (go_at_call 52; refine (CS.out _ hb5).mono ?_; rintro e w10 ⟨rfl, g10⟩))
            go_roundw
            case rel =>
              exact ⟨k + 1, by omega, by omega, by go_num, l, setF of i 0, gs, ⟨HI.out.l0, HI.out.l1, HB.out, hb5.gr g10, hr5.gr g10, g10.own ho5, by have := HI.out.few; omega, HI.out.bd, hg5.tr g10⟩⟩
            case measure => simp [intOf]; omega
          · have hdrop : dropF (wf of) sl = wf of := by
              unfold dropF; rw [if_neg (fun e => hy ((place_iff _).1 e))]
            rw [hdrop] at CD
            have CS := Lib.hid (fun (w' : World) (hb : Blk w' w.heap.size 85 (bookCells l (wf of))) => same_any w.heap.size l _ w' hb HI.out.of0)
            clear hdrop
            have hcs : sl < 0 ∨ (0 ≤ sl ∧ 64 ≤ sl) := by omega
            clear hy
            rcases hcs with hcs | ⟨hcs, hcs2⟩
            all_goals
              go_wp2_with fail
              with_reducible refine (CD.out _ hbn).mono ?_
              rintro e w4 ⟨rfl, hb4, hc4⟩
              have hr4 := hrn.ch hc4 (by simp; omega)
              have ha4 := han.ch hc4 (by simp; omega)
              have ho4 := hc4.own hon (fun q hq => by have := (hon.lt q hq).1; simp; omega)
              have hg4 : Gr w w4 := hgn.chs hc4 (by simp)
              clear a0 a1 a2 a3
              obtain ⟨a0, a1, a2, a3, _⟩ := ha4.c4
              go_wp2_with (first | (refine ld67 (.tmp 6) R l of rfl rfl rfl hr4 ?_) | (go_at_call 52; refine (CS.out _ hb4).mono ?_; rintro e w10 ⟨rfl, g10⟩))
              go_roundw
              case rel =>
                exact ⟨k + 1, by omega, by omega, by go_num, l, of, gs, ⟨HI.out.l0, HI.out.l1, HI.out.of0, hb4.gr g10, hr4.gr g10, g10.own ho4, by have := HI.out.few; omega, HI.out.bd, hg4.tr g10⟩⟩
              case measure => simp [intOf]; omega
        · -- Live
          have CS := Lib.hid (fun (w' : World) (hb : Blk w' w.heap.size 85 (bookCells l (wf of))) => same_any w.heap.size l _ w' hb HI.out.of0)
          have CL := Lib.hid (fun (u : Int) (h0 : 0 ≤ u) (h1 : u ≤ 18446744073709551615) => live51_any w.heap.size l of u W hbn HI.out.of0 h0 h1)
          obtain ⟨av, cv, rfl, hcv1, hcv2, hrv⟩ := row_of_own hon rfl
          have HRv := Lib.hid hrv
          clear hrv
          have hk01 : (kd % 4 == 0) = false ∧ (kd % 4 == 1) = false ∧ (kd % 4 == 2) = false := by simp; omega
          obtain ⟨hk0, hk1, hk2⟩ := hk01
          have hfew := HI.out.few
          have fin : ∀ W', Gr W W' → ∃ k' : Nat, k' ≤ len ∧ k' ≤ 40 ∧ Value.int .i64 ((k : Int) + 1) = .int .i64 k' ∧ TagRel w.heap.size R w W' (.slice av gs.length cv) k' := fun W' hW => ⟨k + 1, by omega, by omega, by go_num, l, of, gs, ⟨HI.out.l0, HI.out.l1, HI.out.of0, hbn.gr hW, hrn.gr hW, hW.own hon, by omega, HI.out.bd, hgn.tr hW⟩⟩
          have FIN := Lib.hid fin
          clear fin
          by_cases hod : od = true ∧ 0 < gs.length
          · obtain ⟨rfl, hpos⟩ := hod
            have hd5 : decide ((0 : Int) < (gs.length : Int)) = true := by simpa using hpos
            rcases HRv.out with hn | ⟨b1, off1, rfl, hcv⟩
            · rw [hn] at hpos; simp at hpos
            obtain ⟨j, hj⟩ : ∃ j : Nat, wd % (gs.length : Int) = (j : Int) := Int.eq_ofNat_of_zero_le (Int.emod_nonneg _ (by omega))
            have hjlt : j < gs.length := by have := Int.emod_lt_of_pos wd (show (0 : Int) < (gs.length : Int) by omega); omega
            have hcj := hcv j hjlt
            have hbj := HI.out.bd (gs.getD j 0) (by simp [List.getD_eq_getElem?_getD, hjlt])
            clear hcv
            generalize gs.getD j 0 = y at *
            go_wp2_with (first | (refine ld67 (.tmp 6) R l of rfl rfl rfl hrn ?_) | (go_at_call 51; refine (CL.out _ hbj.1 hbj.2).mono ?_; rintro e w4 ⟨rfl, g4⟩) | (refine ld67 (.tmp 6) R l of rfl rfl rfl (hrn.gr g4) ?_) | (go_at_call 52; refine (CS.out _ (hbn.gr g4)).mono ?_; rintro e w10 ⟨rfl, g10⟩))
            go_roundw
            case rel => exact FIN.out _ (g4.tr g10)
            case measure => simp [intOf]; omega
          · have hod' : od = false ∨ (od = true ∧ gs.length = 0) := by
              cases od
              · exact .inl rfl
              · right; exact ⟨rfl, by simpa using hod⟩
            clear hod
            rcases hod' with rfl | ⟨rfl, hz⟩
            · go_wp2_with (first | (refine ld67 (.tmp 6) R l of rfl rfl rfl hrn ?_) | (go_at_call 51; refine (CL.out _ hwd.1 hwd.2).mono ?_; rintro e w4 ⟨rfl, g4⟩) | (refine ld67 (.tmp 6) R l of rfl rfl rfl (hrn.gr g4) ?_) | (go_at_call 52; refine (CS.out _ (hbn.gr g4)).mono ?_; rintro e w10 ⟨rfl, g10⟩))
              go_roundw
              case rel => exact FIN.out _ (g4.tr g10)
              case measure => simp [intOf]; omega
            · have hd5 : decide (0 < gs.length) = false := by rw [hz]; rfl
              have HZ := Lib.hid hz
              clear hz
              go_wp2_with (first | (refine ld67 (.tmp 6) R l of rfl rfl rfl hrn ?_) | (go_at_call 51; refine (CL.out _ hwd.1 hwd.2).mono ?_; rintro e w4 ⟨rfl, g4⟩) | (refine ld67 (.tmp 6) R l of rfl rfl rfl (hrn.gr g4) ?_) | (go_at_call 52; refine (CS.out _ (hbn.gr g4)).mono ?_; rintro e w10 ⟨rfl, g10⟩))
              go_roundw
              case rel => exact FIN.out _ (g4.tr g10)
              case measure => simp [intOf]; omega
      · have hd2 : decide ((k : Int) < 40) = false := by simp; omega
        go_wp2_with (go_at_call 43; refine (awake6_any _).mono ?_; rintro e w9 ⟨rfl, g9⟩)
        go_ret
        exact ⟨rfl, inv.gr.tr g9⟩
    · have hd : decide ((k : Int) < (len : Int)) = false := by simp; omega
      go_wp2_with (go_at_call 43; refine (awake6_any _).mono ?_; rintro e w9 ⟨rfl, g9⟩)
      go_ret
      exact ⟨rfl, inv.gr.tr g9⟩
end Go.Proofs.Ytbbhhlnbjgigaaa
