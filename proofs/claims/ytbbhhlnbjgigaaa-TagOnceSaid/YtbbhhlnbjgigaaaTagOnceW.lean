/- The walk of the law TagOnce of chapter 6 (tag): it returns true for every input, and changes nothing that was there. -/
import Derived.Test.YtbbhhlnbjgigaaaTagOnceP
import Derived.Test.YtbbhhlnbjgigaaaSumsLaws
import Derived.Deep.DeepCutAuto
namespace Go.Proofs.Ytbbhhlnbjgigaaa
open Go.RowKit TagP TagOnceP
set_option linter.unusedVariables false

theorem own_row' {w : World} {B : Nat} {e : TypeId} {k : IntKind} {v : Value} {n : Nat} {zs : List Int} (h : w.ownsRow B e 1 v n (intCells k zs)) (hn : zs.length = n) :
    ∃ a cap, v = .slice a n cap ∧ n ≤ cap ∧ cap ≤ 9223372036854775807 ∧ RowAt k w a zs := by
  subst hn
  exact own_row h

set_option maxRecDepth 100000 in
set_option maxHeartbeats 4000000 in
theorem tagOnce_walk (last : Int) (a : Option Addr) (cap : Nat) (zs : List Int) (w : World) (hl : 0 ≤ last ∧ last ≤ 18446744073709551615) (h : SliceIn .u8 w a cap zs) :
    Calls Try.prog 10 #[.int .u64 last, .slice a zs.length cap] w fun e w' => e = .returned (.bool true) ∧ Gr w w' := by
  obtain ⟨hlen, hcap, hr, hwf, _⟩ := h
  have hz : ∀ j, 0 ≤ zs.getD j 0 ∧ zs.getD j 0 ≤ 255 := by
    intro j
    by_cases hj : j < zs.length
    · have : zs.getD j 0 ∈ zs := by simp [List.getD_eq_getElem?_getD, hj]
      exact bd_u8 (hwf _ this)
    · simp [List.getD_eq_getElem?_getD, hj]
  have HZ := Lib.hid hz
  have HR := Lib.hid hr
  clear hr hwf hz
  obtain ⟨hl0, hl1⟩ := hl
  obtain ⟨l0, hl0e⟩ : ∃ l0, l0 = min last 72057594037927935 := ⟨_, rfl⟩
  have hb0 : 0 ≤ l0 := by omega
  have hb1 : l0 ≤ 72057594037927935 := by omega
  have hb2 : l0 ≤ last := by omega
  have hb3 : l0 = 72057594037927935 ∨ l0 = last := by omega
  have HL := Lib.hid hb3
  have HE := Lib.hid hl0e
  clear hb3 hl0e
  go_enter Try.func10, Try.ntmps10
  go_wp2_with fail
  refine (new_any _ _).mono ?_
  rintro e w1 ⟨rfl, rfl⟩
  rw [← HE.out]
  have hbk := Blk.new w 85 (bookCells l0 fun _ => 0)
  have hg1 : Gr w (w.alloc (.cells (bookCells l0 fun _ => 0) 85)) := (Gr.refl w).al _
  generalize w.alloc (.cells (bookCells l0 fun _ => 0) 85) = w1 at *
  go_wp2_with fail
  go_loopw [6, 7] (fun v i wr => ∃ k : Nat, k ≤ zs.length ∧ k ≤ 60 ∧ l0 + k ≤ 72057594037927935 ∧ i = .int .i64 k ∧ Blk wr w.heap.size 85 (bookCells (l0 + k) (fN zs l0 k)) ∧
      wr.ownsRow (w.heap.size + 1) 27 1 v k (intCells .u64 (given zs l0 k)) ∧ Gr w wr) (fun _ i _ => zs.length - (intOf i).toNat)
  case atStart => exact ⟨0, by omega, by omega, by omega, rfl, by simpa [fN] using hbk, World.ownsRow_nil _ _ _ _, hg1⟩
  case round =>
    obtain ⟨k, hk, hk60, hkl, rfl, hb, hown, hg⟩ := hrel
    by_cases hlt : k < zs.length
    · have hd : decide ((k : Int) < (zs.length : Int)) = true := by simpa using hlt
      by_cases h60 : k < 60
      · have hd2 : decide ((k : Int) < 60) = true := by simp; omega
        rcases HR.out with h0 | ⟨bz, off, rfl, hc⟩
        · rw [h0] at hlt; simp at hlt
        have hc1 := hg.cell_some (hc k hlt)
        have hzk := HZ.out k
        have HC := Lib.hid hc
        clear hc
        have HS := Lib.hid (show zs.getD k 0 % 8 = sl zs k from rfl)
        have hsb := sl_bd zs k
        generalize zs.getD k 0 = z at hc1 hzk HS
        by_cases hkl' : l0 + k + 1 ≤ 72057594037927935
        · have hgood := wd_good zs l0 k hb0 (by omega)
          have hword := wd_word zs l0 k hb0 (by omega)
          rw [show l0 + 1 + (k : Int) = l0 + k + 1 by omega] at hgood hword
          have CN := next_yes w.heap.size (l0 + k) (fN zs l0 k) (sl zs k) wr hb (by omega) (by omega) hgood
          rw [hword] at CN
          have CN' := Lib.hid CN
          have hwdb := wd_bd zs l0 k hb0 (by omega)
          clear CN hgood hword
          have hgt : 0 < k → (given zs l0 k).getD (k - 1) 0 < wd zs l0 k := fun h => by
            rw [given_get zs l0 k (k - 1) (by omega)]
            have := wd_lt zs l0 (k - 1)
            rwa [show k - 1 + 1 = k by omega] at this
          go_wp2_with fail
          rw [HS.out]
          with_reducible refine (CN'.out).mono ?_
          rintro e w2 ⟨rfl, hb2', gc2⟩
          have hown2 := gc2.own hown (fun q hq => by have := (hown.lt q hq).1; simp; omega)
          have hg2 : Gr w w2 := hg.chs gc2 (by simp)
          rw [show l0 + (k : Int) + 1 = l0 + ((k + 1 : Nat) : Int) by omega] at hb2'
          change Blk w2 w.heap.size 85 (bookCells (l0 + ((k + 1 : Nat) : Int)) (fN zs l0 (k + 1))) at hb2'
          obtain ⟨a1, cap1, rfl, hcp1, hcp2, hrow⟩ := own_row' hown2 (given_length zs l0 k)
          have HRow := Lib.hid hrow
          clear hrow
          go_upto_region 9 with fail
          go_cut [64] (fun s wx => s = .bool false ∧ w2 = wx)
          case first =>
            by_cases h0 : 0 < k
            · rcases HRow.out with hn | ⟨b1, off1, rfl, hc⟩
              · have := given_length zs l0 k; rw [hn] at this; simp at this; omega
              have hc2 := hc (k - 1) (by rw [given_length]; omega)
              have hgt' := hgt h0
              have hd3 : decide ((0 : Int) < (k : Int)) = true := by simpa using h0
              have hi1 : (k : Int) - 1 = ((k - 1 : Nat) : Int) := by omega
              generalize (given zs l0 k).getD (k - 1) 0 = y at *
              generalize wd zs l0 k = q at *
              clear hc
              go_wp2_with fail
              go_meet
              case rel => exact ⟨congrArg Value.bool (by simp; omega), rfl⟩
            · have hd3 : decide ((0 : Int) < (k : Int)) = false := by simp; omega
              go_wp2_with fail
              go_meet
              case rel => exact ⟨rfl, rfl⟩
          case rest =>
            obtain ⟨rfl, rfl⟩ := hcut
            clear hgt CN' hb hown gc2 hc1 HS hzk hg
            go_wp2_with (at_builtin; refine wpList_app1 el42 (.tmp 65) (.tmp 67) (w.heap.size + 1) _ _ _ _ _ _ rfl rfl rfl rfl hown2 rfl rfl ?_ ?_ ?_ ?_)
            · omega
            · omega
            · have := hb2'.lt; omega
            intro v3 w3 hown3 hgr3
            have hb3' := hb2'.grown hgr3 (by simpa using fun e => by have := (hown2.lt _ e.symm).1; omega)
            have hg3 : Gr w w3 := hg2.grown hgr3 (fun q hq => by have := (hown2.lt q hq).1; omega)
            rw [show intCells .u64 (given zs l0 k) ++ #[Value.int IntKind.u64 (wd zs l0 k)].toList = intCells .u64 (given zs l0 (k + 1)) by rw [given_snoc, intCells_snoc]] at hown3
            clear hown2 HRow hb2' hg2 hgr3
            obtain ⟨a2, cap2, rfl, hcp3, hcp4, hrow⟩ := own_row' hown3 (given_length zs l0 (k + 1))
            have HRow := Lib.hid hrow
            have HOwn := Lib.hid hown3
            clear hrow hown3
            go_wp2_with fail
            go_loopw [10] (fun i wr => ∃ j : Nat, j ≤ k + 1 ∧ i = .int .i64 j ∧ Gr w3 wr) (fun i _ => k + 1 - (intOf i).toNat)
            case atStart => exact ⟨0, by omega, rfl, Gr.refl _⟩
            case round =>
              obtain ⟨j, hj, rfl, hgj⟩ := hrel
              obtain ⟨wo, hwo⟩ : ∃ wo : World, wo = wr := ⟨_, rfl⟩
              subst hwo
              by_cases hjlt : j < k + 1
              · rcases HRow.out with hn | ⟨b2, off2, rfl, hcr⟩
                · have := given_length zs l0 (k + 1); rw [hn] at this; simp at this
                have hcj := hgj.cell_some (hcr j (by rw [given_length]; omega))
                rw [given_get zs l0 (k + 1) j hjlt] at hcj
                clear hcr
                have hjd : decide ((j : Int) < (k : Int) + 1) = true := by simp; omega
                have hwj := wd_bd zs l0 j hb0 (by omega)
                have hdiv := wd_div zs l0 j
                have hgood := wd_good zs l0 j hb0 (by omega)
                have hlive := fN_live zs l0 j (k + 1) hjlt
                have hsj := sl_bd zs j
                have hcl : ∃ r : Int × Bool, (∀ W, Blk W w.heap.size 85 (bookCells (l0 + ((k + 1 : Nat) : Int)) (fN zs l0 (k + 1))) → Calls Try.prog 47 #[.pointer (some ⟨w.heap.size, 0, none⟩), .int .u64 (wd zs l0 j)] W fun e w' => e = .returned (.tuple #[.int .i64 r.1, .bool r.2]) ∧ Gr W w') ∧
                    r.2 = !later zs j (k + 1) ∧ (r.2 = true → r.1 = sl zs j) := by
                  cases hlt : later zs j (k + 1) with
                  | true =>
                    refine ⟨(0, false), fun W hW => live_no _ _ _ _ W hW hwj.1 hwj.2 (by rw [hdiv.1, hdiv.2]; exact hgood) (by rw [hdiv.2]; intro e; rw [hlive.1 e] at hlt; cases hlt), rfl, fun h => by cases h⟩
                  | false =>
                    refine ⟨(sl zs j, true), fun W hW => ?_, rfl, fun _ => rfl⟩
                    have := live_yes _ _ _ _ W hW hwj.1 hwj.2 (by rw [hdiv.1, hdiv.2]; exact hgood) (by rw [hdiv.2]; exact hlive.2 hlt)
                    rwa [hdiv.2] at this
                obtain ⟨⟨r1, r2⟩, hcl, hr2, hr1⟩ := hcl
                have CL := Lib.hid (hcl wo (hb3'.gr hgj))
                have HR2 := Lib.hid (And.intro hr2 hr1)
                clear hcl hr2 hr1 hlive hgood hdiv
                go_wp2_with fail
                with_reducible refine (CL.out).mono ?_
                rintro e w4 ⟨rfl, g4⟩
                have hg4 := hgj.tr g4
                have hgw4 := hg3.tr hg4
                dsimp only
                clear CL hcj
                go_wp2_with fail
                go_loopw [13, 14] (fun b m wr => ∃ mm : Nat, j + 1 ≤ mm ∧ mm ≤ k + 1 ∧ m = .int .i64 mm ∧ b = .bool (later zs j mm) ∧ Gr w4 wr) (fun _ m _ => k + 1 - (intOf m).toNat)
                case atStart => exact ⟨j + 1, by omega, by omega, by go_num, by rw [later_le zs j (j + 1) (Nat.le_refl _)], Gr.refl _⟩
                case round =>
                  obtain ⟨mm, hm1, hm2, rfl, rfl, hgm⟩ := hrel
                  by_cases hmlt : mm < k + 1
                  · have hmd : decide ((mm : Int) < (k : Int) + 1) = true := by simp; omega
                    have hcm := (hgw4.tr hgm).cell_some (HC.out mm (by omega))
                    have hcj2 := (hgw4.tr hgm).cell_some (HC.out j (by omega))
                    have hzm := HZ.out mm
                    have hzj := HZ.out j
                    have HStep := Lib.hid (later_step zs j mm (by omega))
                    have HEq := Lib.hid (show decide (sl zs mm = sl zs j) = (zs.getD mm 0 % 8 == zs.getD j 0 % 8) by unfold sl; rw [Bool.eq_iff_iff]; simp)
                    generalize zs.getD mm 0 = zm at *
                    generalize zs.getD j 0 = zj at *
                    have hi1 : (mm : Int) < (zs.length : Int) := by omega
                    have hi2 : (j : Int) < (zs.length : Int) := by omega
                    cases hla : later zs j mm with
                    | true =>
                      go_wp2_with fail
                      go_quiet (fail)
                      go_wp2_with fail
                      go_roundw
                      case rel => exact ⟨mm + 1, by omega, by omega, by go_num, by rw [HStep.out, hla]; rfl, hgm.drewN _⟩
                      case measure => simp [intOf]; omega
                    | false =>
                      go_wp2_with fail
                      go_quiet (fail)
                      go_wp2_with fail
                      go_roundw
                      case rel => exact ⟨mm + 1, by omega, by omega, by go_num, by rw [HStep.out, hla, HEq.out]; rfl, hgm.drewN _⟩
                      case measure => simp [intOf]; omega
                  · obtain rfl : mm = k + 1 := by omega
                    have hmd : decide (((k + 1 : Nat) : Int) < (k : Int) + 1) = false := by simp
                    have hcj2 := (hgw4.tr hgm).cell_some (HC.out j (by omega))
                    have hzj := HZ.out j
                    have HSj := Lib.hid (show zs.getD j 0 % 8 = sl zs j from rfl)
                    generalize zs.getD j 0 = zj at *
                    cases hla : later zs j (k + 1) with
                    | true =>
                      have hr2 : r2 = false := by rw [HR2.out.1, hla]; rfl
                      subst hr2
                      go_wp2_with fail
                      go_roundw
                      case rel => exact ⟨j + 1, by omega, by go_num, hg4.tr hgm⟩
                      case measure => simp [intOf]; omega
                    | false =>
                      have hr2 : r2 = true := by rw [HR2.out.1, hla]; rfl
                      have hr1 := HR2.out.2 hr2
                      subst hr2
                      subst hr1
                      have hne : (sl zs j != zj % 8) = false := by rw [HSj.out]; simp
                      go_wp2_with fail
                      go_roundw
                      case rel => exact ⟨j + 1, by omega, by go_num, hg4.tr hgm⟩
                      case measure => simp [intOf]; omega
              · have hjd : decide ((j : Int) < (k : Int) + 1) = false := by simp; omega
                go_wp2_with fail
                go_roundw
                case rel => exact ⟨k + 1, by omega, by omega, by omega, by go_num, (hb3'.gr hgj), hgj.own HOwn.out, hg3.tr hgj⟩
                case measure => simp [intOf]; omega
        · have hgood : goodB (l0 + k + 1) (sl zs k) = false := by
            have := good_iff (l0 + k + 1) (sl zs k)
            cases hq : goodB (l0 + k + 1) (sl zs k) with
            | false => rfl
            | true => have := this.1 hq; omega
          have CN := next_no w.heap.size (l0 + k) (fN zs l0 k) (sl zs k) wr hb (by omega) (by omega) hgood
          have CN' := Lib.hid CN
          clear CN hgood
          have hge : decide (72057594037927935 - (k : Int) ≤ last) = true := by simp; omega
          go_wp2_with fail
          rw [HS.out]
          with_reducible refine (CN'.out).mono ?_
          rintro e w2 ⟨rfl, g2⟩
          go_wp2_with (go_at_call 43; refine (awake6_any _).mono ?_; rintro e w9 ⟨rfl, g9⟩)
          go_ret
          exact ⟨rfl, (hg.tr g2).tr g9⟩
      · have hd2 : decide ((k : Int) < 60) = false := by simp; omega
        go_wp2_with (go_at_call 43; refine (awake6_any _).mono ?_; rintro e w9 ⟨rfl, g9⟩)
        go_ret
        exact ⟨rfl, hg.tr g9⟩
    · have hd : decide ((k : Int) < (zs.length : Int)) = false := by simp; omega
      go_wp2_with (go_at_call 43; refine (awake6_any _).mono ?_; rintro e w9 ⟨rfl, g9⟩)
      go_ret
      exact ⟨rfl, hg.tr g9⟩
end Go.Proofs.Ytbbhhlnbjgigaaa
