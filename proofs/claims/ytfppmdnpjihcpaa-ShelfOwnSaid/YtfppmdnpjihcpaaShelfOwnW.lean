/- The walk of the law ShelfOwn of chapter 16 (shelf): it returns true for every input, and changes nothing that was there. -/
import Derived.Test.YtfppmdnpjihcpaaShelfPlaysW
namespace Go.Proofs.Ytfppmdnpjihcpaa
open Go.RowKit LinesP
set_option linter.unusedVariables false
/-- A slice of the call's own, as long as a row, in new blocks. -/
def OwnS (w : World) (v : Value) (n : Nat) (wr : World) : Prop := Gr w wr ∧ ∃ zs : List Int, zs.length = n ∧ Sl 39 .u64 wr v zs
set_option maxRecDepth 100000 in
set_option maxHeartbeats 4000000 in
theorem shelfOwn_walk (a : Option Addr) (cap : Nat) (zs : List Int) (w : World) (h : SliceIn .u64 w a cap zs) :
    Calls Try.prog 8 #[.slice a zs.length cap] w fun e w' => e = .returned (.bool true) ∧ Gr w w' := by
  obtain ⟨hlen, hcap, hrow, hwf, hnil⟩ := h
  have HR := Lib.hid hrow
  clear hwf hnil hrow
  go_enter Try.func8, Try.ntmps8
  go_wp2_with fail
  refine (shelfNew_any 20 _).mono ?_
  rintro e w1 ⟨rfl, l1, g1, z1⟩
  go_wp2_with fail
  refine (dsNew_any 20 _).mono ?_
  rintro e w2 ⟨rfl, d2, g2⟩
  have T2 : TwoS w w2 w.heap.size w1.heap.size 20 := ⟨g1.tr g2, _, _, _, both_new l1 g1 d2 g2⟩
  clear l1 g1 d2 g2
  generalize w1.heap.size = hh at *
  clear w1 z1
  go_wp2_with fail
  go_loopw [5] (fun i wr => ∃ k : Nat, k ≤ zs.length ∧ k ≤ 18 ∧ i = .int .i64 k ∧ TwoS w wr w.heap.size hh 20) (fun i _ => zs.length - (intOf i).toNat)
  case atStart => exact ⟨0, by omega, by omega, rfl, T2⟩
  case round =>
    obtain ⟨k, hk, hk18, rfl, T⟩ := hrel
    by_cases hgo : k < zs.length ∧ k < 18
    · obtain ⟨hlt, h18⟩ := hgo
      have hd : decide ((k : Int) < (zs.length : Int)) = true := by simpa using hlt
      have hd2 : decide ((k : Int) < 18) = true := by simp; omega
      rcases HR.out with h0 | ⟨bz, off, rfl, hc⟩
      · simp [h0] at hlt
      obtain ⟨gr, ws, cl, on, v, c, v2, l, rfl, rfl, d, dj, b1, b2⟩ := T
      have hbz : bz < w.heap.size := World.block_lt_of_cell? _ _ (hc k hlt)
      have c0 := gr.cell_some (hc k hlt)
      generalize zs.getD k 0 = x at c0
      clear hc
      have hB := gr.size_le
      have i1 : (0 : Int) ≤ (k : Int) := by omega
      have i2 : (k : Int) < (zs.length : Int) := by omega
      have C1 := Lib.hid (fun w' (g' : Gr wr w') => upush _ 20 v ws w' c (l.gr g') x)
      have C2 := Lib.hid (fun w' (d' : DocS w' hh 20 v2 ws c.is c.isOn) => vpush hh 20 v2 ws w' c.is c.isOn d' x)
      generalize pushE 20 ws c.is = E at C1 C2
      generalize pushL 20 ws c.is x = L at C1 C2
      have ee : (E != E) = false := by simp
      go_upto_region 6 with fail
      go_region_held3 (fun w' => w'.cell? ⟨bz, off + k, none⟩ = some (.int .u64 x)) (first | exact c0 | exact y1 | exact z1)
        (first
        | (go_at_call 37; refine (C1.out _ ((Gr.refl wr).drew)).mono ?_; rintro e w3 ⟨rfl, t3⟩; have k3 := t3.choose_spec.choose_spec.2.2.2.1; have y1 := k3.cell (w := wr.drew) c0 (fun hm => by have := b1 _ hm; simp at this; omega); have d3 := (d.gr ((Gr.refl wr).drew)).ch k3 dj.symm)
        | (go_at_call 38; refine (C2.out _ d3).mono ?_; rintro e w4 ⟨rfl, t4⟩; have z1 := t4.choose_spec.2.1.cell y1 (fun hm => by have := b2 _ hm; simp at this; omega)))
      all_goals
        go_wp2_with fail
        go_roundw
        case rel =>
          obtain ⟨r1, r2⟩ := Both.step (d.gr ((Gr.refl wr).drew)) (l.gr ((Gr.refl wr).drew)) dj b1 b2 hB t3 t4
          exact ⟨k + 1, by omega, by omega, by go_num, Below.trans gr.drew.below r2, _, _, _, r1⟩
        case measure => simp [intOf]; omega
    · obtain ⟨gr, ws, cl, on, v, c, v2, l, rfl, rfl, d, dj, b1, b2⟩ := T
      have C39 := Lib.hid (fun w' (g' : Gr wr w') => sall_any _ 20 v ws w' c (l.gr g'))
      have DW := Lib.hid (fun w' (g' : Gr wr w') => d.words.gr g')
      obtain ⟨a2, cp2, hv2, h12, h22⟩ := d.words.len
      subst hv2
      have DB := Lib.hid (fun w' (g' : Gr wr w') => d.hdr.gr g')
      have hll := l.len
      clear l d dj b1 b2
      have key : ∀ w', Gr wr w' → Gr w w' := fun w' g' => gr.tr g'
      have HK := Lib.hid key
      clear key
      obtain ⟨wo, hwo⟩ : ∃ wo, wo = wr := ⟨_, rfl⟩
      subst hwo
      have hds : (k < zs.length ∧ decide ((k : Int) < 18) = false) ∨ ¬ k < zs.length := by
        by_cases hlt : k < zs.length
        · exact .inl ⟨hlt, by simp; omega⟩
        · exact .inr hlt
      clear hgo
      rcases hds with ⟨hd, hd2⟩ | hd
      all_goals
        go_wp2_with fail
        refine (C39.out _ (Gr.refl _)).mono ?_
        rintro e w5 ⟨v5, rfl, s5, g5, n5⟩
        obtain ⟨a5, cp5, rfl, h15, h25⟩ := s5.len
        have O5 : OwnS wo (.slice a5 ws.length cp5) ws.length w5 := ⟨g5, ws, rfl, s5⟩
        clear s5 g5
        have N5 := Lib.hid n5
        clear n5
        go_wp2_with fail
        go_loopw [7] (fun i wr => ∃ j : Nat, j ≤ ws.length ∧ i = .int .i64 j ∧ OwnS wo (.slice a5 ws.length cp5) ws.length wr) (fun i _ => ws.length - (intOf i).toNat)
        case atStart => exact ⟨0, by omega, rfl, O5⟩
        case round =>
          obtain ⟨j, hj, rfl, g6, ys, hys, s6⟩ := hrel
          by_cases hjl : j < ws.length
          · skip
            rw [← hys] at s6
            obtain ⟨b6, off6, cp6, e6, h16, h26, hc6, hf6, hlt6⟩ := s6.cells (by omega)
            injection e6 with e61 e62 e63
            subst e61 e63
            have hnb : wo.heap.size ≤ b6 := N5.out b6 (by simp [sb])
            have cj := hc6 j (by omega)
            have fj := hf6 (off6 + j)
            have PS := Lib.hid (show ∀ x : Int, ∃ zs : List Int, zs.length = ws.length ∧ Sl 39 .u64 (wr.setCell ⟨b6, off6 + j, none⟩ (.int .u64 x)) (.slice (some ⟨b6, off6, none⟩) ws.length cp5) zs from fun x => ⟨ys.set j x, by simpa using hys, by have := s6.st j (by omega) x; rwa [List.length_set, hys] at this⟩)
            have HY := Lib.hid hys
            clear hys hc6 hf6 s6
            generalize ys.getD j 0 = y at cj
            go_wp2_with fail
            go_roundw
            case rel => exact ⟨j + 1, by omega, by go_num, g6.st hnb _, PS.out _⟩
            case measure => simp [intOf]; omega
          · obtain rfl : ws.length = j := by omega
            have HY := Lib.hid hys
            clear hys
            have HY7 := Lib.hid (show (ys ++ [7]).length = ws.length + 1 by have := HY.out; simp; exact this)
            go_wp2_with (at_builtin; refine wpList_sl1 el40 .u64 _ _ (.slice a5 ws.length cp5) ys 7 _ _ rfl rfl rfl rfl s6 (by have := HY.out; omega) (by have := HY.out; omega) ?_; intro v7 w7 s7 k7 f7; obtain ⟨a7, cp7, hv7, h17, h27⟩ := s7.len; rw [HY7.out] at hv7; subst hv7)
            have g7 : Gr wo w7 := g6.chs k7 (fun b hb => N5.out b hb)
            obtain ⟨d0, d1, d2, d3, df⟩ := (DB.out _ g7).c4
            have hw1 : ((ws.length : Int) + 1 == (ws.length : Int) + 1) = true := by simp
            have HL := Lib.hid (show ws.length ≤ 1000 by omega)
            have hwr : IntKind.i64.wrap ((ws.length : Int) + 1) = (ws.length : Int) + 1 := IntWalk.i64_in _ (by omega)
            clear s6 s7 k7 f7
            go_region_held3 (fun w' => w'.cell? ⟨hh, 1, none⟩ = some (.slice a2 ws.length cp2)) (first | exact d1 | exact (DB.out _ hh10).c4.2.1 | exact (DB.out _ hh9).c4.2.1 | exact (DB.out _ hh8).c4.2.1)
              (first
              | (go_at_call 39; refine (C39.out _ g7.drew).mono ?_; rintro e w8 ⟨v8, rfl, s8, g8, n8⟩; have hh8 := g7.drew.tr g8; obtain ⟨a8, cp8, rfl, h18, h28⟩ := s8.len)
              | (go_at_call 40; refine (wsame_any ws _ _ _ s8 (DW.out _ hh8) HL.out).mono ?_; rintro e w9 ⟨rfl, g9⟩; have hh9 := hh8.tr g9)
              | (go_at_call 21; refine (awake16_any _).mono ?_; rintro e w10 ⟨rfl, g10⟩; have hh10 := hh9.tr g10))
            all_goals
              go_wp2_with fail
              go_ret
              exact ⟨rfl, HK.out _ (hh9.tr g10)⟩
end Go.Proofs.Ytfppmdnpjihcpaa
