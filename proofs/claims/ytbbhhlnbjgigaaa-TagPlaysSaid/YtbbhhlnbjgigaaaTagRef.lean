/- Contracts of the reference's functions of chapter 6 (tag), for every input. -/
import Derived.Test.YtbbhhlnbjgigaaaTag2
import Derived.Test.YtbbhhlnbjgigaaaKit3
namespace Go.Proofs.Ytbbhhlnbjgigaaa
open Go.RowKit TagP
set_option linter.unusedVariables false

theorem info67 (l : Int) (f : Nat → Int) : (Try.prog.info? 67).map (·.size) = some (bookCells l f).size := by rw [bookCells_size]; kernel_rfl
theorem zero67 (x : Int) : Try.zeroCells67.setIfInBounds 0 (.int .u64 x) = bookCells x fun _ => 0 := by kernel_rfl
theorem wp_ld67 {d : Option Tmp} {x : Tmp} {ty' : TypeId} {p : String} {af : Array Edge} {gd : Option (Nat × Bool)} {a : Act} {w : World} {K : Act → World → Prop} {Q : Exit → Act → World → Prop}
    (h0 : isPtr0 (a.eval (.tmp x)) = true) (h : HasRow w (ptrBlk (a.eval (.tmp x))) 65) : Oper.wp Try.prog ⟨d, .load 67 (.tmp x), ty', p, af, gd⟩ a w K Q = K (a.put d (.agg (rowOf w (ptrBlk (a.eval (.tmp x)))))) w :=
  wp_ldRow Try.underlying67 rfl (by kernel_rfl) h0 h
attribute [local go_sem ↓] wp_ld67
theorem zsize67 : Try.zeroCells67.size = 65 := by kernel_rfl
section
variable {ops : Array Oper} {rest : List Oper} {o : Oper} {a : Act} {w : World} {Q : Exit → Act → World → Prop}
theorem ld67 (x : Operand) (g : Nat) (l : Int) (f : Nat → Int) (hw : Region.wanted o (yielded ops a.tmps) = true) (ho : o.op = .load 67 x) (hx : a.eval x = .pointer (some ⟨g, 0, none⟩)) (hb : Blk w g 67 (bookCells l f))
    (h : wpList Try.prog ops Q rest (a.put o.dst (.agg (bookCells l f))) w) : wpList Try.prog ops Q (o :: rest) a w :=
  wpList_ldW 67 x g 67 _ _ hw ho hx hb Try.underlying67 rfl (info67 l f) h
theorem st67 (x y : Operand) (g : Nat) (old cs : Array Value) (l : Int) (f : Nat → Int) (hcs : cs = bookCells l f) (hos : old.size = 65) (hw : Region.wanted o (yielded ops a.tmps) = true) (ho : o.op = .store 67 x y)
    (hx : a.eval x = .pointer (some ⟨g, 0, none⟩)) (hy : a.eval y = .agg cs) (hb : Blk w g 67 old)
    (h : ∀ w', Blk w' g 67 (bookCells l f) → Ch [g] w w' → wpList Try.prog ops Q rest (a.put o.dst undef) w') : wpList Try.prog ops Q (o :: rest) a w := by
  subst hcs
  exact wpList_stW 67 x y g 67 old _ hw ho hx hy hb (info67 l f) (by rw [hos, bookCells_size]) (bookCells_one l f) h
end

theorem results_agg67 {fn : Func} {p : Tmp} (h : fn.results = #[.cell p 67]) (tmps : Array Value) (w : World) (g : Nat) (l : Int) (f : Nat → Int) (hp : tmps.getD p undef = .pointer (some ⟨g, 0, none⟩)) (hb : Blk w g 67 (bookCells l f)) :
    (results fn tmps).run Try.prog w = .ok (.agg (bookCells l f)) w := results_cell_row h tmps w g 67 _ (0, 0) _ hp hb Try.underlying67 rfl (info67 l f)
theorem results_agg67_2 {fn : Func} {p t : Tmp} (h : fn.results = #[.cell p 67, .tmp t]) (tmps : Array Value) (w : World) (g : Nat) (l : Int) (f : Nat → Int) (hp : tmps.getD p undef = .pointer (some ⟨g, 0, none⟩)) (hb : Blk w g 67 (bookCells l f)) :
    (results fn tmps).run Try.prog w = .ok (.tuple #[.agg (bookCells l f), tmps.getD t undef]) w := by
  have hp' : tmps[p]?.getD undef = .pointer (some ⟨g, 0, none⟩) := by simpa using hp
  simp [results, h, hp', asAddr, run_loadVar_row w g 67 67 (bookCells l f) (0, 0) _ hb Try.underlying67 rfl (info67 l f)]

theorem rnew_any (last : Int) (w : World) :
    Calls Try.prog 48 #[.int .u64 last] w fun e w' => e = .returned (.agg (bookCells (min last 72057594037927935) fun _ => 0)) ∧ Gr w w' := by
  have HB := Lib.hid (Blk.new w 67 Try.zeroCells67)
  by_cases h : 72057594037927935 < last
  · have HM := Lib.hid (show min last 72057594037927935 = 72057594037927935 by omega)
    go_enter Try.func48, Try.ntmps48
    go_wp2_with (refine st67 (.tmp 2) (.tmp 6) w.heap.size _ _ _ _ (zero67 _) zsize67 rfl rfl rfl rfl HB.out ?_)
    intro w1 hb1 hc1
    go_wp2
    refine bodyPost_ret (results_agg67 rfl _ _ _ _ _ rfl hb1) rfl ⟨?_, ((Gr.refl w).al _).chs hc1 (by simp)⟩
    rw [HM.out]
  · have HM := Lib.hid (show min last 72057594037927935 = last by omega)
    go_enter Try.func48, Try.ntmps48
    go_wp2_with (refine st67 (.tmp 2) (.tmp 6) w.heap.size _ _ _ _ (zero67 _) zsize67 rfl rfl rfl rfl HB.out ?_)
    intro w1 hb1 hc1
    go_wp2
    refine bodyPost_ret (results_agg67 rfl _ _ _ _ _ rfl hb1) rfl ⟨?_, ((Gr.refl w).al _).chs hc1 (by simp)⟩
    rw [HM.out]

/-- The reference's Now: a place's word, by its stamp. -/
def rnowI (of : Nat → Int) (slot : Int) : Int := if placeB slot then (if of slot.toNat = 0 then 0 else of slot.toNat * 256 + slot) else 0
theorem rnow_any (last : Int) (of : Nat → Int) (slot : Int) (w : World) (hof : ∀ i, 0 ≤ of i ∧ of i ≤ 72057594037927935) :
    Calls Try.prog 68 #[.agg (bookCells last of), .int .i64 slot] w fun e w' => e = .returned (.int .u64 (rnowI of slot)) ∧ Gr w w' := by
  by_cases h : placeB slot = true
  · obtain ⟨h3, h4⟩ := (place_iff slot).1 h
    obtain ⟨i, rfl⟩ := Int.eq_ofNat_of_zero_le h3
    have hb := Blk.new w 67 (bookCells last of)
    have hc := hb.cell (1 + i)
    rw [bookCells_at _ _ i (by omega)] at hc
    have hofi := hof i
    have HI := Lib.hid (show rnowI of (i : Int) = if of i = 0 then 0 else of i * 256 + i by unfold rnowI; rw [if_pos h]; rfl)
    clear h hof hb
    have hgood : ¬ of i = 0 → goodB (of i) (i : Int) = true := fun h0 => (good_iff _ _).2 ⟨by omega, by omega, h3, h4⟩
    have hword : ¬ of i = 0 → wordI (of i) (i : Int) = of i * 256 + i := fun h0 => by unfold wordI; rw [if_pos (hgood h0)]
    have HG := Lib.hid (And.intro hgood hword)
    clear hgood hword
    generalize of i = o at *
    by_cases h0 : o = 0
    · subst h0
      go_enter Try.func68, Try.ntmps68
      go_wp2
      go_ret
      exact ⟨ret_int (by rw [HI.out]; simp), (Gr.refl _).al _⟩
    · have h0' : (o == 0) = false := by simpa using h0
      have CW := Lib.hid (fun w => rword_any o (i : Int) w (HG.out.1 h0))
      go_enter Try.func68, Try.ntmps68
      go_wp2_with (go_at_call 42; refine (CW.out _).mono ?_; rintro e w' ⟨rfl, rfl⟩)
      go_ret
      exact ⟨ret_int (by rw [HI.out, if_neg h0, HG.out.2 h0]), (Gr.refl _).al _⟩
  · have HI := Lib.hid (show rnowI of slot = 0 by unfold rnowI; rw [if_neg h])
    have hc : slot < 0 ∨ (0 ≤ slot ∧ 63 < slot) := by have := mt (place_iff slot).2 h; omega
    clear h hof
    rcases hc with h | ⟨h, h'⟩
    · go_enter Try.func68, Try.ntmps68
      go_wp2
      go_ret
      exact ⟨ret_int (by rw [HI.out]), (Gr.refl _).al _⟩
    · have h2 : decide (slot < 0) = false := by simp; omega
      go_enter Try.func68, Try.ntmps68
      go_wp2
      go_ret
      exact ⟨ret_int (by rw [HI.out]), (Gr.refl _).al _⟩

/-- The reference's Next. -/
theorem rnext_no (last : Int) (of : Nat → Int) (slot : Int) (w : World) (h : ¬ (0 ≤ slot ∧ slot < 64 ∧ last < 72057594037927935)) (h1 : last ≤ 72057594037927935) :
    Calls Try.prog 49 #[.agg (bookCells last of), .int .i64 slot] w fun e w' => e = .returned (.tuple #[.agg (bookCells last of), .int .u64 0]) ∧ Gr w w' := by
  have HB := Lib.hid ((Blk.new w 67 (bookCells last of)).al (.cells Try.zeroCells67 67))
  have HZ := Lib.hid (Blk.new (w.alloc (.cells (bookCells last of) 67)) 67 Try.zeroCells67)
  have hc := HB.out.cell 0
  rw [bookCells_0] at hc
  have hcase : slot < 0 ∨ (0 ≤ slot ∧ 63 < slot) ∨ (0 ≤ slot ∧ slot ≤ 63 ∧ last = 72057594037927935) := by omega
  clear h
  rcases hcase with h | ⟨h, h'⟩ | ⟨h, h', h3⟩
  · go_enter Try.func49, Try.ntmps49
    go_wp2_with (first | (refine ld67 (.tmp 2) w.heap.size last of rfl rfl rfl HB.out ?_) | (refine st67 (.tmp 4) (.tmp 17) (w.heap.size + 1) _ _ last of rfl zsize67 rfl rfl rfl rfl (by simpa using HZ.out) ?_))
    intro w1 hb1 hc1
    go_wp2
    refine bodyPost_ret (results_agg67_2 rfl _ _ _ _ _ rfl hb1) rfl ⟨rfl, (((Gr.refl w).al _).al _).chs hc1 (by simp)⟩
  · have h2 : decide (slot < 0) = false := by simp; omega
    go_enter Try.func49, Try.ntmps49
    go_wp2_with (first | (refine ld67 (.tmp 2) w.heap.size last of rfl rfl rfl HB.out ?_) | (refine st67 (.tmp 4) (.tmp 17) (w.heap.size + 1) _ _ last of rfl zsize67 rfl rfl rfl rfl (by simpa using HZ.out) ?_))
    intro w1 hb1 hc1
    go_wp2
    refine bodyPost_ret (results_agg67_2 rfl _ _ _ _ _ rfl hb1) rfl ⟨rfl, (((Gr.refl w).al _).al _).chs hc1 (by simp)⟩
  · have h2 : decide (slot < 0) = false := by simp; omega
    have h4 : decide (63 < slot) = false := by simp; omega
    have h5 : (last == 72057594037927935) = true := by simpa using h3
    have H3 := Lib.hid h3
    clear h3
    go_enter Try.func49, Try.ntmps49
    go_wp2_with (first | (refine ld67 (.tmp 2) w.heap.size last of rfl rfl rfl HB.out ?_) | (refine st67 (.tmp 4) (.tmp 17) (w.heap.size + 1) _ _ last of rfl zsize67 rfl rfl rfl rfl (by simpa using HZ.out) ?_))
    intro w1 hb1 hc1
    go_wp2
    refine bodyPost_ret (results_agg67_2 rfl _ _ _ _ _ rfl hb1) rfl ⟨rfl, (((Gr.refl w).al _).al _).chs hc1 (by simp)⟩

theorem rnext_yes (last : Int) (of : Nat → Int) (slot : Int) (w : World) (h : 0 ≤ slot ∧ slot < 64 ∧ last < 72057594037927935) (h1 : 0 ≤ last) :
    Calls Try.prog 49 #[.agg (bookCells last of), .int .i64 slot] w fun e w' => e = .returned (.tuple #[.agg (bookCells (last + 1) (setF of slot.toNat (last + 1))), .int .u64 (wordI (last + 1) slot)]) ∧ Gr w w' := by
  obtain ⟨h0, h64, hlast⟩ := h
  have HW := Lib.hid (fun w => rword_any (last + 1) slot w ((good_iff _ _).2 ⟨by omega, by omega, h0, h64⟩))
  obtain ⟨i, rfl⟩ := Int.eq_ofNat_of_zero_le h0
  have hb := (Blk.new w 67 (bookCells last of)).al (.cells Try.zeroCells67 67)
  have hz := Blk.new (w.alloc (.cells (bookCells last of) 67)) 67 Try.zeroCells67
  rw [World.size_alloc] at hz
  have hgr : Gr w ((w.alloc (.cells (bookCells last of) 67)).alloc (.cells Try.zeroCells67 67)) := ((Gr.refl w).al _).al _
  go_enter Try.func49, Try.ntmps49
  go_upto_region 1 with fail
  generalize (w.alloc (.cells (bookCells last of) 67)).alloc (.cells Try.zeroCells67 67) = W at *
  have hc := hb.cell 0
  rw [bookCells_0] at hc
  have hf0 := hb.frozen 0
  have hb2 := hb.st 0 (.int .u64 (last + 1))
  rw [bookCells_last] at hb2
  have hc2 := hb2.cell (1 + i)
  rw [bookCells_at _ _ i (by omega)] at hc2
  have hc3 := hb2.cell 0
  rw [bookCells_0] at hc3
  have hf2 := hb2.frozen (1 + i)
  have hb3 := hb2.st (1 + i) (.int .u64 (last + 1))
  rw [bookCells_set] at hb3
  have h2 : decide ((i : Int) < 0) = false := by simp
  have h4 : decide (63 < (i : Int)) = false := by simp; omega
  have h5 : (last == 72057594037927935) = false := by simp; omega
  go_upto_region 5 with fail
  have hz3 := (hz.far (p := ⟨w.heap.size, 0, none⟩) (by simp) (.int .u64 (last + 1))).far (p := ⟨w.heap.size, 1 + i, none⟩) (by simp) (.int .u64 (last + 1))
  have hgr3 : Gr w ((W.setCell ⟨w.heap.size, 0, none⟩ (.int .u64 (last + 1))).setCell ⟨w.heap.size, 1 + i, none⟩ (.int .u64 (last + 1))) := (hgr.st (by simp) _).st (by simp) _
  clear hc hf0 hb2 hc2 hc3 hf2 hb hz hgr
  generalize (W.setCell ⟨w.heap.size, 0, none⟩ (.int .u64 (last + 1))).setCell ⟨w.heap.size, 1 + i, none⟩ (.int .u64 (last + 1)) = W3 at *
  have hc := hb3.drew.cell 0
  rw [bookCells_0] at hc
  have hr1 := hb3.drew.rowOf
  have hr2 := hb3.drew.hasRow (bookCells_size _ _)
  have hr3 := hz3.drew.hasRow zsize67
  have hr4 : AllOne (bookCells (last + 1) (setF of i (last + 1))) := bookCells_one _ _
  have hr5 := bookCells_size (last + 1) (setF of i (last + 1))
  go_region_law (go_simp; go_at_call 42; refine (HW.out _).mono ?_; rintro e w' ⟨rfl, rfl⟩)
  all_goals
    go_wp2
    refine bodyPost_ret (results_agg67_2 rfl _ _ _ _ _ rfl (hz3.drew.row _)) rfl ⟨rfl, ?_⟩
    exact hgr3.drew.chs ((Ch.refl [w.heap.size + 1] _).row (by simp) _) (by simp)

/-- The reference's Live: the first place below n whose word it is; -1: none. -/
def rliveF (of : Nat → Int) (u : Int) : Nat → Nat → Int
  | 0, _ => -1
  | n + 1, i => if of i ≠ 0 ∧ of i * 256 + i = u then (i : Int) else rliveF of u n (i + 1)
def rliveI (of : Nat → Int) (u : Int) : Int := rliveF of u 64 0
theorem rlive_any (last : Int) (of : Nat → Int) (u : Int) (w : World) (hof : ∀ i, 0 ≤ of i ∧ of i ≤ 72057594037927935) :
    Calls Try.prog 67 #[.agg (bookCells last of), .int .u64 u] w fun e w' => e = .returned (.int .i64 (rliveI of u)) ∧ Gr w w' := by
  have CN := Lib.hid (fun (i : Int) w => rnow_any last of i w hof)
  have HO := Lib.hid hof
  clear hof
  have hb := Blk.new w 67 (bookCells last of)
  have hg : Gr w (w.alloc (.cells (bookCells last of) 67)) := (Gr.refl w).al _
  go_enter Try.func67, Try.ntmps67
  go_wp2_with fail
  generalize w.alloc (.cells (bookCells last of) 67) = w1 at *
  go_loopw [5] (fun i wr => ∃ k : Nat, k ≤ 64 ∧ i = .int .i64 k ∧ rliveF of u (64 - k) k = rliveI of u ∧ Gr w1 wr) (fun i _ => 64 - (intOf i).toNat)
  case atStart => exact ⟨0, by omega, rfl, rfl, Gr.refl _⟩
  case round =>
    obtain ⟨k, hk, rfl, hrel, hgk⟩ := hrel
    have HRel := Lib.hid hrel
    clear hrel
    by_cases hlt : k < 64
    · have hb1 := hb.gr hgk
      have hc := hb1.cell (1 + k)
      rw [bookCells_at _ _ k hlt] at hc
      have hok := HO.out k
      have HStep := Lib.hid (show rliveF of u (64 - k) k = if of k ≠ 0 ∧ of k * 256 + k = u then (k : Int) else rliveF of u (64 - (k + 1)) (k + 1) by
        rw [show 64 - k = (64 - (k + 1)) + 1 by omega]; rfl)
      have HN := Lib.hid (show rnowI of (k : Int) = if of k = 0 then 0 else of k * 256 + k by unfold rnowI; rw [if_pos ((place_iff _).2 (by omega))]; rfl)
      by_cases h0 : of k = 0
      · have h0' : (of k != 0) = false := by simpa using h0
        have H0 := Lib.hid h0
        clear h0
        go_wp2_with fail
        go_roundw
        case rel => exact ⟨k + 1, by omega, by go_num, by rw [← HRel.out, HStep.out, if_neg (fun h => h.1 H0.out)], hgk⟩
        case measure => simp [intOf]; omega
      · have h0' : (of k != 0) = true := by simpa using h0
        have HN2 := Lib.hid (show rnowI of (k : Int) = of k * 256 + k by rw [HN.out, if_neg h0])
        have H0 := Lib.hid h0
        clear h0 HN
        by_cases hq : of k * 256 + k = u
        · have HQ := Lib.hid hq
          clear hq
          go_wp2_with (first | (refine ld67 (.tmp 2) w.heap.size last of rfl rfl rfl hb1 ?_) | (go_at_call 68; refine (CN.out _ _).mono ?_; rintro e w2 ⟨rfl, g2⟩; rw [HN2.out, HQ.out]))
          go_ret
          exact ⟨ret_int (by rw [← HRel.out, HStep.out, if_pos ⟨H0.out, HQ.out⟩]), (hg.tr hgk).tr g2⟩
        · have hq' : (of k * 256 + (k : Int) == u) = false := by simpa using hq
          go_wp2_with (first | (refine ld67 (.tmp 2) w.heap.size last of rfl rfl rfl hb1 ?_) | (go_at_call 68; refine (CN.out _ _).mono ?_; rintro e w2 ⟨rfl, g2⟩; rw [HN2.out]))
          go_roundw
          case rel => exact ⟨k + 1, by omega, by go_num, by rw [← HRel.out, HStep.out, if_neg (fun h => hq h.2)], hgk.tr g2⟩
          case measure => simp [intOf]; omega
    · obtain rfl : k = 64 := by omega
      go_wp2_with fail
      go_ret
      exact ⟨ret_int (by rw [← HRel.out]; rfl), hg.tr hgk⟩
end Go.Proofs.Ytbbhhlnbjgigaaa
