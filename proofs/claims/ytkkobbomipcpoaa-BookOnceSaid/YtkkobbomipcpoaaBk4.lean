/- Contract of the document's Place of chapter 29 (book), for every input. -/
import Derived.Test.YtkkobbomipcpoaaBk3
namespace Go.Proofs.Ytkkobbomipcpoaa
open Go.RowKit TagP
set_option linter.unusedVariables false

theorem bookL_0 (l : Int) (f : Nat → Int) : (bookCells l f).toList[0]? = some (.int .u64 l) := by simp [bookCells]
theorem bookL_s (l : Int) (f : Nat → Int) (j : Nat) : (bookCells l f).toList[j + 1]? = (tab 64 fun i => Value.int .u64 (f i))[j]? := by simp [bookCells]
theorem bookL_len (l : Int) (f : Nat → Int) : (bookCells l f).toList.length = 65 := by have := bookCells_size l f; simpa using this
theorem DocAt.book {w : World} {r : Nat} {of : Nat → Int} {s : BS} (l : DocAt w r of s) : w.rangeAt r 1 (bookCells s.last of).toList := fun j v hv => by
  cases j with
  | zero => rw [bookL_0] at hv; cases hv; exact l.hdr.cell (by omega)
  | succ j =>
    rw [bookL_s] at hv
    have hj : j < 64 := by have := (List.getElem?_eq_some_iff.1 hv).1; rwa [tab_length] at this
    rw [tab_get _ _ _ hj] at hv
    cases hv
    rw [l.hdr.cell (show 1 + (j + 1) < 450 by omega), show 1 + (j + 1) = j + 2 by omega]
    show some (if j < 64 then _ else _) = _
    rw [if_pos hj]
theorem DocAt.stT {w : World} {r : Nat} {of : Nat → Int} {s : BS} (l : DocAt w r of s) (x : Int) (of' : Nat → Int) (hx : 0 ≤ x ∧ x ≤ 72057594037927935) : DocAt (w.setCells r 1 (bookCells x of').toList) r of' { s with last := x } :=
  ⟨(l.hdr.sts (bookCells x of').toList 1).congr fun j _ => by
    unfold updL
    rw [bookL_len]
    match j with
    | 0 => rw [if_neg (by omega)]; rfl
    | 1 => rw [if_pos (by omega), List.getD_eq_getElem?_getD, show (1 - 1 : Nat) = 0 from rfl, bookL_0]; rfl
    | j + 2 =>
      show _ = (if j < 64 then _ else oneR s ((j - 64) / 6) ((j - 64) % 6))
      by_cases hj : j < 64
      · rw [if_pos (by omega), if_pos hj, List.getD_eq_getElem?_getD, show j + 2 - 1 = j + 1 by omega, bookL_s, tab_get _ _ _ hj]; rfl
      · rw [if_neg (by omega), if_neg hj]
        show (if j < 64 then _ else _) = _
        rw [if_neg hj], l.c1, hx⟩
section
variable {ops : Array Oper} {rest : List Oper} {o : Oper} {a : Act} {w : World} {Q : Exit → Act → World → Prop}
theorem ldT (x : Operand) (r : Nat) (of : Nat → Int) (s : BS) (hg : o.guard = none) (ho : o.op = .load 123 x) (hx : a.eval x = .pointer (some ⟨r, 1, none⟩)) (l : DocAt w r of s)
    (h : wpList Try.prog ops Q rest (a.put o.dst (.agg (bookCells s.last of))) w) : wpList Try.prog ops Q (o :: rest) a w :=
  wpList_load_mid hg 123 x ho r 1 hx (bookCells s.last of).toList _ l.book Try.underlying123 rfl (by rw [info123 s.last of, bookL_len, bookCells_size]) (by simpa using h)
theorem stT (x y : Operand) (r : Nat) (of : Nat → Int) (s : BS) (z : Int) (of' : Nat → Int) (hz : 0 ≤ z ∧ z ≤ 72057594037927935) (hg : o.guard = none) (ho : o.op = .store 123 x y) (hx : a.eval x = .pointer (some ⟨r, 1, none⟩)) (hy : a.eval y = .agg (bookCells z of')) (l : DocAt w r of s)
    (h : ∀ w', DocAt w' r of' { s with last := z } → Ch [r] w w' → wpList Try.prog ops Q rest (a.put o.dst undef) w') : wpList Try.prog ops Q (o :: rest) a w :=
  wpList_store_mid hg 123 x y ho r 1 _ hx hy (by rw [bookCells_size]; exact l.hdr.there 1 65 (by omega)) (info123 z of') (bookCells_one z of')
    (h _ (l.stT z of' hz) (Ch.sts (by simp) _ _ _ (Ch.refl _ _)))
end

theorem dplace_no (r : Nat) (of : Nat → Int) (s : BS) (slot cpu level now : Int) (anew : Bool) (w : World) (l : DocAt w r of s) (hn : (placeB slot && cpuB s.c cpu) = false) :
    Calls Try.prog 108 #[.pointer (some ⟨r, 0, none⟩), .int .i64 slot, .int .i64 cpu, .int .i64 level, .int .u64 now, .bool anew] w fun e w' => e = .returned (.int .u64 0) ∧ w = w' := by
  have c0 := l.head
  by_cases h1 : placeB slot = true
  · have HP := Lib.hid h1
    rw [h1] at hn
    have hc : cpu < 0 ∨ (0 ≤ cpu ∧ s.c ≤ cpu) := by unfold cpuB at hn; simp at hn; omega
    clear h1 l hn
    generalize s.c = q at *
    rcases hc with hc | ⟨hc, hc2⟩
    · have d1 : decide (cpu < 0) = true := by simpa using hc
      go_enter Try.func108, Try.ntmps108
      go_wp2_with (go_at_call 107; refine (dis _ _).mono ?_; rintro e w' ⟨rfl, rfl⟩; rw [HP.out])
      go_ret
      exact ⟨rfl, rfl⟩
    · have d1 : decide (cpu < 0) = false := by simp; omega
      have d2 : decide (q ≤ cpu) = true := by simpa using hc2
      go_enter Try.func108, Try.ntmps108
      go_wp2_with (go_at_call 107; refine (dis _ _).mono ?_; rintro e w' ⟨rfl, rfl⟩; rw [HP.out])
      go_ret
      exact ⟨rfl, rfl⟩
  · have HP := Lib.hid (show placeB slot = false by simpa using h1)
    clear h1 l hn
    go_enter Try.func108, Try.ntmps108
    go_wp2_with (go_at_call 107; refine (dis _ _).mono ?_; rintro e w' ⟨rfl, rfl⟩; rw [HP.out])
    go_ret
    exact ⟨rfl, rfl⟩

set_option maxRecDepth 100000 in
set_option maxHeartbeats 4000000 in
theorem dplace_yes (r : Nat) (of : Nat → Int) (s : BS) (i : Nat) (cpu level now : Int) (anew : Bool) (w : World) (l : DocAt w r of s) (hi : i < 64) (hc : cpuB s.c cpu = true) (hl : s.last < 72057594037927935) :
    Calls Try.prog 108 #[.pointer (some ⟨r, 0, none⟩), .int .i64 i, .int .i64 cpu, .int .i64 level, .int .u64 now, .bool anew] w fun e w' => e = .returned (.int .u64 ((s.last + 1) * 256 + i)) ∧ DocAt w' r (setF of i (s.last + 1)) (plS s i cpu level now anew) ∧ Ch [r] w w' := by
  have HP := Lib.hid ((place_iff (i : Int)).2 (by omega))
  have HL := Lib.hid l
  have hcc : 0 ≤ cpu ∧ cpu < s.c := by unfold cpuB at hc; simpa using hc
  have d1 : decide (cpu < 0) = false := by simp; omega
  have d2 : decide (s.c ≤ cpu) = false := by simp; omega
  have c0 := l.head
  have hgood : goodB (s.last + 1) (i : Int) = true := (good_iff _ _).2 (by have := l.l0; omega)
  have hword : wordI (s.last + 1) (i : Int) = (s.last + 1) * 256 + i := by unfold wordI; rw [if_pos hgood]
  have CN := Lib.hid (fun w => rnext_yes s.last of i w (by have := l.l0; omega) l.l0.1)
  rw [hword, Int.toNat_natCast] at CN
  have hl0 := l.l0
  have H0 := Lib.hid (show 0 ≤ s.last + 1 ∧ s.last + 1 ≤ 72057594037927935 by omega)
  clear hgood hword hc l hcc hl0
  go_enter Try.func108, Try.ntmps108
  go_upto_region 4 with (first
    | (go_at_call 107; refine (dis _ _).mono ?_; rintro e w' ⟨rfl, rfl⟩; rw [HP.out])
    | (refine ldT (.tmp 34) r of s rfl rfl rfl HL.out ?_)
    | (go_at_call 116; refine (CN.out _).mono ?_; rintro e w1 ⟨rfl, g1⟩)
    | (refine st123 (.tmp 13) (.tmp 38) w1.heap.size _ _ (s.last + 1) (setF of i (s.last + 1)) rfl zsize123 rfl rfl rfl rfl (Blk.new _ _ _) ?_; intro w2 hb2 k2))
  have hB : w.heap.size ≤ w1.heap.size := g1.size_le
  have hrB : r < w.heap.size := HL.out.hdr.lt
  have l2 : DocAt w2 r of s := ((HL.out.gr g1).gr ((Gr.refl w1).al _)).ch k2 (by simp; omega)
  have g2 : Gr w w2 := (g1.al _).chs k2 (by simpa using hB)
  clear k2 g1 c0
  generalize w1.heap.size = B at *
  obtain ⟨q, hq⟩ : ∃ q, (s.last + 1) * 256 + (i : Int) = q := ⟨_, rfl⟩
  rw [hq] at CN ⊢
  have HQ := Lib.hid hq
  clear hq CN
  have L2 := Lib.hid l2
  clear l2
  go_upto_region 5 with (first
    | (refine ld123 (.tmp 13) B _ _ rfl rfl rfl hb2 ?_)
    | (refine stT (.tmp 43) (.tmp 41) r of s (s.last + 1) (setF of i (s.last + 1)) H0.out rfl rfl rfl rfl L2.out ?_; intro w3 l3 k3))
  have k03 : Ch [r] w w3 := (g2.ch _).tr k3 (by simp)
  clear hb2 k3 g2
  have HX : Hid (∀ W z4 b5, DocAt W r (setF of i (s.last + 1)) { s with last := s.last + 1 } → z4 = (if freshB s i anew then now else s.sc i) → b5 = (if freshB s i anew then false else s.mv i) →
      DocAt ((((((W.setCell ⟨r, 66 + i * 6, none⟩ (.bool true)).setCell ⟨r, 66 + i * 6 + 1, none⟩ (.int .u64 q)).setCell ⟨r, 66 + i * 6 + 2, none⟩ (.int .i64 cpu)).setCell ⟨r, 66 + i * 6 + 3, none⟩ (.int .i64 (holdI level))).setCell ⟨r, 66 + i * 6 + 4, none⟩ (.int .u64 z4)).setCell ⟨r, 66 + i * 6 + 5, none⟩ (.bool b5)) r (setF of i (s.last + 1)) (plS s i cpu level now anew)) := Lib.hid (fun W z4 b5 lW h4 h5 => by
    have hq0 : q ≠ 0 := by have := HQ.out; have := L2.out.l0; omega
    have hf : (plS s i cpu level now anew).f i = q := by show setF s.f i ((s.last + 1) * 256 + i) i = q; unfold setF; rw [if_pos rfl, HQ.out]
    have := lW.st6 i hi (plS s i cpu level now anew) rfl rfl (fun a b ha => by
      unfold oneR plS
      by_cases hfr : freshB s i anew = true
      · simp [setF, upd, ha, hfr]
      · simp [setF, upd, ha, hfr])
    rw [show oneR (plS s i cpu level now anew) i 0 = .bool true by simp [oneR, hf, hq0], show oneR (plS s i cpu level now anew) i 1 = .int .u64 q by simp [oneR, hf], show oneR (plS s i cpu level now anew) i 2 = .int .i64 cpu by simp [oneR, plS, upd],
      show oneR (plS s i cpu level now anew) i 3 = .int .i64 (holdI level) by simp [oneR, hf, hq0]; simp [plS, upd], show oneR (plS s i cpu level now anew) i 4 = .int .u64 z4 by simp [oneR, hf, hq0]; rw [h4]; unfold plS; simp only; split <;> simp [upd],
      show oneR (plS s i cpu level now anew) i 5 = .bool b5 by simp [oneR, hf, hq0]; rw [h5]; unfold plS; simp only; split <;> simp [upd]] at this
    exact this)
  have L3 := Lib.hid l3
  have CH := Lib.hid (fun w => rhold level w)
  obtain ⟨c0, c1, c2, c3, c4, c5, cf⟩ := l3.one hi
  have hone : ∃ b0 z1 z2 z3 z4 b5, oneR { s with last := s.last + 1 } i 0 = .bool b0 ∧ oneR { s with last := s.last + 1 } i 1 = .int .u64 z1 ∧ oneR { s with last := s.last + 1 } i 2 = .int .i64 z2 ∧ oneR { s with last := s.last + 1 } i 3 = .int .i64 z3 ∧ oneR { s with last := s.last + 1 } i 4 = .int .u64 z4 ∧ oneR { s with last := s.last + 1 } i 5 = .bool b5 ∧ (b0 = decide (s.f i ≠ 0)) ∧ (s.f i ≠ 0 → z4 = s.sc i) ∧ (s.f i ≠ 0 → b5 = s.mv i) :=
    ⟨_, _, _, _, _, _, rfl, rfl, rfl, rfl, rfl, rfl, rfl, fun h => if_pos h, fun h => by simp [h]⟩
  obtain ⟨b0, z1, z2, z3, z4, b5, e0, e1, e2, e3, e4, e5, h0, h4, h5⟩ := hone
  rw [e0] at c0; rw [e1] at c1; rw [e2] at c2; rw [e3] at c3; rw [e4] at c4; rw [e5] at c5
  have HZ := Lib.hid (And.intro h0 (And.intro h4 h5))
  clear e0 e1 e2 e3 e4 e5 h0 h4 h5 l3
  have hr3 : r < w3.heap.size := L3.out.hdr.lt
  have hi' : (i : Int) < 64 := by omega
  have hi0 : (0 : Int) ≤ (i : Int) := by omega
  by_cases hfr : freshB s i anew = true
  · have hcs : anew = true ∨ (anew = false ∧ b0 = false) := by
      unfold freshB stB at hfr
      cases anew
      · right
        refine ⟨rfl, ?_⟩
        rw [HZ.out.1]
        rw [HP.out] at hfr
        simpa using hfr
      · left; rfl
    have HX' := Lib.hid (fun W lW => HX.out W now false lW (by rw [if_pos hfr]) (by rw [if_pos hfr]))
    clear hfr HX
    rcases hcs with rfl | ⟨rfl, rfl⟩
    · go_upto_region 13 with (go_at_call 38; refine (CH.out _).mono ?_; rintro e w' ⟨rfl, rfl⟩)
      have HL4 := Lib.hid (L3.out.gr ((Gr.refl w3).al (.cells #[.bool true, .int .u64 q, .int .i64 cpu, .int .i64 (holdI level), .int .u64 now, .bool false] 125)))
      have b4 := Blk.new w3 125 #[.bool true, .int .u64 q, .int .i64 cpu, .int .i64 (holdI level), .int .u64 now, .bool false]
      have k4 : Ch [r] w (w3.alloc (.cells #[.bool true, .int .u64 q, .int .i64 cpu, .int .i64 (holdI level), .int .u64 now, .bool false] 125)) := k03.al _
      generalize w3.alloc (.cells #[.bool true, .int .u64 q, .int .i64 cpu, .int .i64 (holdI level), .int .u64 now, .bool false] 125) = W4 at *
      generalize w3.heap.size = X at *
      clear c0 c1 c2 c3 c4 c5 cf
      obtain ⟨c0, c1, c2, c3, c4, c5, cf⟩ := HL4.out.one hi
      obtain ⟨x0, x1, x2, x3, x4, x5⟩ : W4.cell? ⟨X, 0, none⟩ = some (.bool true) ∧ W4.cell? ⟨X, 1, none⟩ = some (.int .u64 q) ∧ W4.cell? ⟨X, 2, none⟩ = some (.int .i64 cpu) ∧ W4.cell? ⟨X, 3, none⟩ = some (.int .i64 (holdI level)) ∧ W4.cell? ⟨X, 4, none⟩ = some (.int .u64 now) ∧ W4.cell? ⟨X, 5, none⟩ = some (.bool false) := ⟨b4.cell 0, b4.cell 1, b4.cell 2, b4.cell 3, b4.cell 4, b4.cell 5⟩
      clear b4
      generalize holdI level = hv at *
      go_region_law (fail)
      all_goals go_wp2
      all_goals go_ret
      all_goals exact ⟨ret_int HQ.out.symm, (HX'.out W4 HL4.out).drew, (((((((k4.st (p := ⟨r, _, none⟩) (by simp) _).st (p := ⟨r, _, none⟩) (by simp) _).st (p := ⟨r, _, none⟩) (by simp) _).st (p := ⟨r, _, none⟩) (by simp) _).st (p := ⟨r, _, none⟩) (by simp) _).st (p := ⟨r, _, none⟩) (by simp) _).drew)⟩
    · go_upto_region 13 with (go_at_call 38; refine (CH.out _).mono ?_; rintro e w' ⟨rfl, rfl⟩)
      have HL4 := Lib.hid (L3.out.gr ((Gr.refl w3).al (.cells #[.bool true, .int .u64 q, .int .i64 cpu, .int .i64 (holdI level), .int .u64 now, .bool false] 125)))
      have b4 := Blk.new w3 125 #[.bool true, .int .u64 q, .int .i64 cpu, .int .i64 (holdI level), .int .u64 now, .bool false]
      have k4 : Ch [r] w (w3.alloc (.cells #[.bool true, .int .u64 q, .int .i64 cpu, .int .i64 (holdI level), .int .u64 now, .bool false] 125)) := k03.al _
      generalize w3.alloc (.cells #[.bool true, .int .u64 q, .int .i64 cpu, .int .i64 (holdI level), .int .u64 now, .bool false] 125) = W4 at *
      generalize w3.heap.size = X at *
      clear c0 c1 c2 c3 c4 c5 cf
      obtain ⟨c0, c1, c2, c3, c4, c5, cf⟩ := HL4.out.one hi
      obtain ⟨x0, x1, x2, x3, x4, x5⟩ : W4.cell? ⟨X, 0, none⟩ = some (.bool true) ∧ W4.cell? ⟨X, 1, none⟩ = some (.int .u64 q) ∧ W4.cell? ⟨X, 2, none⟩ = some (.int .i64 cpu) ∧ W4.cell? ⟨X, 3, none⟩ = some (.int .i64 (holdI level)) ∧ W4.cell? ⟨X, 4, none⟩ = some (.int .u64 now) ∧ W4.cell? ⟨X, 5, none⟩ = some (.bool false) := ⟨b4.cell 0, b4.cell 1, b4.cell 2, b4.cell 3, b4.cell 4, b4.cell 5⟩
      clear b4
      generalize holdI level = hv at *
      go_region_law (fail)
      all_goals go_wp2
      all_goals go_ret
      all_goals exact ⟨ret_int HQ.out.symm, (HX'.out W4 HL4.out).drew, (((((((k4.st (p := ⟨r, _, none⟩) (by simp) _).st (p := ⟨r, _, none⟩) (by simp) _).st (p := ⟨r, _, none⟩) (by simp) _).st (p := ⟨r, _, none⟩) (by simp) _).st (p := ⟨r, _, none⟩) (by simp) _).st (p := ⟨r, _, none⟩) (by simp) _).drew)⟩
  · have hcs : anew = false ∧ b0 = true ∧ z4 = s.sc i ∧ b5 = s.mv i := by
      unfold freshB stB at hfr
      rw [HP.out] at hfr
      cases anew
      · have h : s.f i ≠ 0 := by simpa using hfr
        exact ⟨rfl, by rw [HZ.out.1]; simpa using h, HZ.out.2.1 h, HZ.out.2.2 h⟩
      · simp at hfr
    obtain ⟨rfl, rfl, hz4, hb5⟩ := hcs
    have HX' := Lib.hid (fun W lW => HX.out W z4 b5 lW (by rw [if_neg hfr]; exact hz4) (by rw [if_neg hfr]; exact hb5))
    clear hfr HX hz4 hb5
    go_upto_region 13 with (go_at_call 38; refine (CH.out _).mono ?_; rintro e w' ⟨rfl, rfl⟩)
    have HL4 := Lib.hid (L3.out.gr ((Gr.refl w3).al (.cells #[.bool true, .int .u64 q, .int .i64 cpu, .int .i64 (holdI level), .int .u64 z4, .bool b5] 125)))
    have b4 := Blk.new w3 125 #[.bool true, .int .u64 q, .int .i64 cpu, .int .i64 (holdI level), .int .u64 z4, .bool b5]
    have k4 : Ch [r] w (w3.alloc (.cells #[.bool true, .int .u64 q, .int .i64 cpu, .int .i64 (holdI level), .int .u64 z4, .bool b5] 125)) := k03.al _
    generalize w3.alloc (.cells #[.bool true, .int .u64 q, .int .i64 cpu, .int .i64 (holdI level), .int .u64 z4, .bool b5] 125) = W4 at *
    generalize w3.heap.size = X at *
    clear c0 c1 c2 c3 c4 c5 cf
    obtain ⟨c0, c1, c2, c3, c4, c5, cf⟩ := HL4.out.one hi
    obtain ⟨x0, x1, x2, x3, x4, x5⟩ : W4.cell? ⟨X, 0, none⟩ = some (.bool true) ∧ W4.cell? ⟨X, 1, none⟩ = some (.int .u64 q) ∧ W4.cell? ⟨X, 2, none⟩ = some (.int .i64 cpu) ∧ W4.cell? ⟨X, 3, none⟩ = some (.int .i64 (holdI level)) ∧ W4.cell? ⟨X, 4, none⟩ = some (.int .u64 z4) ∧ W4.cell? ⟨X, 5, none⟩ = some (.bool b5) := ⟨b4.cell 0, b4.cell 1, b4.cell 2, b4.cell 3, b4.cell 4, b4.cell 5⟩
    clear b4
    generalize holdI level = hv at *
    go_region_law (fail)
    all_goals go_wp2
    all_goals go_ret
    all_goals exact ⟨ret_int HQ.out.symm, (HX'.out W4 HL4.out).drew, (((((((k4.st (p := ⟨r, _, none⟩) (by simp) _).st (p := ⟨r, _, none⟩) (by simp) _).st (p := ⟨r, _, none⟩) (by simp) _).st (p := ⟨r, _, none⟩) (by simp) _).st (p := ⟨r, _, none⟩) (by simp) _).st (p := ⟨r, _, none⟩) (by simp) _).drew)⟩
end Go.Proofs.Ytkkobbomipcpoaa
