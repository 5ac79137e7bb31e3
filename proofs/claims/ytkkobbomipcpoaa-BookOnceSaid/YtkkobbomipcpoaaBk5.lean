/- Contracts of Loads and Late of chapter 29 (book), the program's and the document's, for every input. -/
import Derived.Test.YtkkobbomipcpoaaBk4
namespace Go.Proofs.Ytkkobbomipcpoaa
open Go.RowKit TagP
set_option linter.unusedVariables false

/-- What always holds of a book. -/
structure Fine (s : BS) : Prop where
  hm : ∀ i, 0 ≤ s.hm i ∧ s.hm i < s.c
  sc : ∀ i, 0 ≤ s.sc i ∧ s.sc i ≤ 18446744073709551615
theorem el22 : Elem Try.prog 22 3 (.int .i64 0) 1 8 := ⟨Try.underlying22, by kernel_rfl, rfl, by decide⟩
/-- The loads that the first k places make. -/
def ldL (s : BS) : Nat → List Int
  | 0 => List.replicate s.c.toNat 0
  | k + 1 => if s.f k ≠ 0 then (ldL s k).set (s.hm k).toNat ((ldL s k).getD (s.hm k).toNat 0 + 1) else ldL s k
theorem ldL_len (s : BS) (k : Nat) : (ldL s k).length = s.c.toNat := by
  induction k with
  | zero => simp [ldL]
  | succ k ih => unfold ldL; split <;> simp [ih]
theorem ldL_bd (s : BS) (k j : Nat) : 0 ≤ (ldL s k).getD j 0 ∧ (ldL s k).getD j 0 ≤ k := by
  induction k generalizing j with
  | zero => simp only [ldL, List.getD_eq_getElem?_getD, List.getElem?_replicate]; split <;> simp
  | succ k ih =>
    unfold ldL
    split
    · have h1 := ih (s.hm k).toNat
      have h2 := ih j
      simp only [List.getD_eq_getElem?_getD, List.getElem?_set]
      split
      · split
        · simp only [Option.getD_some]; simp only [List.getD_eq_getElem?_getD] at h1; omega
        · simp; omega
      · simp only [List.getD_eq_getElem?_getD] at h2; omega
    · have h2 := ih j; omega
section
variable {ops : Array Oper} {rest : List Oper} {o : Oper} {a : Act} {w : World} {Q : Exit → Act → World → Prop}
theorem info115 (F : Nat → Value) (o : Nat) : (Try.prog.info? 115).map (·.size) = some (part F o 256).length := by rw [part_length]; kernel_rfl
theorem ldA (x : Operand) (g h : Nat) (s : BS) (hg : o.guard = none) (ho : o.op = .load 115 x) (hx : a.eval x = .pointer (some ⟨g, 2, none⟩)) (l : BookAt w g h s)
    (hh : wpList Try.prog ops Q rest (a.put o.dst (.agg (part (bkF h s) 2 256).toArray)) w) : wpList Try.prog ops Q (o :: rest) a w :=
  wpList_load_mid hg 115 x ho g 2 hx (part (bkF h s) 2 256) _ (l.hdr.range 2 256 (by omega)) Try.underlying115 rfl (info115 _ _) hh
end
theorem part_takeDrop (F : Nat → Value) (o n i m : Nat) (h : i + m ≤ n) : List.take m (List.drop i (part F o n)) = part F (o + i) m := by
  apply List.ext_getElem?
  intro j
  rw [List.getElem?_take, List.getElem?_drop]
  by_cases hj : j < m
  · rw [if_pos hj, part_get _ _ _ _ (by omega), part_get _ _ _ _ hj, Nat.add_assoc]
  · rw [if_neg hj, List.getElem?_eq_none (by rw [part_length]; omega)]
theorem idx115 (F : Nat → Value) (k : Nat) (hk : k < 64) (w : World) : (Instr.index 115 (.agg (part F 2 256).toArray) (.int .i64 k)).run Try.prog w = .ok (.agg (part F (2 + k * 4) 4).toArray) w := by
  have h : (0 : Int) ≤ k ∧ (k : Int) < 64 := by omega
  have hu := run_underlying Try.underlying115 w
  unfold Instr.index
  simp [asIntOf, hu, Sem.run_bind, h, Go.part]
  rw [if_pos hk, part_takeDrop _ _ _ _ _ (by omega)]
theorem part_one (h : Nat) (s : BS) (k : Nat) : (part (bkF h s) (2 + k * 4) 4).toArray = #[.int .i64 (s.hm k), .int .i64 (s.lv k), .int .u64 (s.sc k), .bool (s.mv k)] := by
  have e : part (bkF h s) (2 + k * 4) 4 = [bkF h s (2 + k * 4 + 0), bkF h s (2 + k * 4 + 1), bkF h s (2 + k * 4 + 2), bkF h s (2 + k * 4 + 3)] := rfl
  rw [e, bkF_at h s k 0 (by omega), bkF_at h s k 1 (by omega), bkF_at h s k 2 (by omega), bkF_at h s k 3 (by omega)]
  rfl
theorem idxA (h : Nat) (s : BS) (k : Nat) (hk : k < 64) (w : World) : (Instr.index 115 (.agg (part (bkF h s) 2 256).toArray) (.int .i64 k)).run Try.prog w = .ok (.agg #[.int .i64 (s.hm k), .int .i64 (s.lv k), .int .u64 (s.sc k), .bool (s.mv k)]) w := by
  rw [idx115 _ k hk, part_one]
theorem bloads (g h : Nat) (s : BS) (w : World) (l : BookAt w g h s) (fi : Fine s) :
    Calls Try.prog 55 #[.pointer (some ⟨g, 0, none⟩)] w fun e w' => ∃ v, e = .returned v ∧ Sl 3 .i64 w' v (ldL s 64) ∧ Gr w w' := by
  obtain ⟨m, hm⟩ := Int.eq_ofNat_of_zero_le (show 0 ≤ s.c by have := l.c1; omega)
  have hle : m ≤ 64 := by have := l.c1; omega
  have hmk := run_make_recs el22 m (by omega) (by omega)
  rw [show (recs m 1 fun _ k => (Value.int .i64 0).cells[k]!) = (intCells .i64 (List.replicate m 0)).toArray by
    apply Array.ext_getElem?
    intro j
    by_cases hj : j < m <;> simp [recs, tab, intCells, hj, Nat.mod_one, Value.cells]] at hmk
  have L := Lib.hid l
  have HM := Lib.hid hm
  obtain ⟨c0, c1⟩ := l.head
  rw [hm] at c1
  clear l hm
  go_enter Try.func55, Try.ntmps55
  go_upto_region 4 with fail
  have hb := Blk.new w 3 (intCells .i64 (List.replicate m 0)).toArray
  have g1 := (Gr.refl w).al (.cells (intCells .i64 (List.replicate m 0)).toArray 3)
  generalize w.alloc (.cells (intCells .i64 (List.replicate m 0)).toArray 3) = w1 at *
  have L1 := Lib.hid (L.out.gr g1)
  go_wp2_with (refine ldA (.tmp 15) g h s rfl rfl rfl L1.out ?_)
  have hB : w.heap.size < w1.heap.size := hb.lt
  have hgB : g < w.heap.size := L.out.hdr.lt
  have hhB : h < w.heap.size := L.out.tag.lt
  generalize hBe : w.heap.size = B at *
  have HBe := Lib.hid (Nat.le_of_eq hBe)
  clear hBe
  have HI := Lib.hid (idxA h s)
  have HF := Lib.hid (fun k w l => bstands g h s k w l)
  generalize (part (bkF h s) 2 256).toArray = C at *
  go_loopw [17] (fun i wr => ∃ k : Nat, k ≤ 64 ∧ i = .int .i64 k ∧ Blk wr B 3 (intCells .i64 (ldL s k)).toArray ∧ Ch [B] w1 wr) (fun i _ => 64 - (intOf i).toNat)
  case atStart => exact ⟨0, by omega, rfl, by unfold ldL; rw [HM.out]; exact hb, Ch.refl _ _⟩
  case round =>
    obtain ⟨k, hk, rfl, hbr, ch⟩ := hrel
    have lr := Lib.hid (L1.out.ch ch (by simp; omega) (by simp; omega))
    have hszr : w1.heap.size ≤ wr.heap.size := ch.size
    by_cases hlt : k < 64
    · have hlt' : (k : Int) < 64 := by omega
      have hst : stB s.f (k : Int) = decide (s.f k ≠ 0) := by unfold stB; rw [(place_iff (k : Int)).2 (by omega), Int.toNat_natCast]; simp
      have hi := HI.out k hlt
      obtain ⟨j, hj⟩ := Int.eq_ofNat_of_zero_le (fi.hm k).1
      have hjm : j < m := by have := (fi.hm k).2; have := HM.out; omega
      rw [hj] at hi
      generalize s.lv k = q1 at hi
      generalize s.sc k = q2 at hi
      generalize s.mv k = q3 at hi
      have HST := Lib.hid hst
      have HJ := Lib.hid hj
      have hld := ldL_len s k
      have hlb := ldL_bd s k j
      have hcell := hbr.cell j
      have hlen : (ldL s k).length = m := by rw [hld, HM.out]; rfl
      rw [List.getElem?_toArray, show (intCells .i64 (ldL s k))[j]? = some (.int .i64 ((ldL s k).getD j 0)) by simp [intCells, List.getD_eq_getElem?_getD, hlen, hjm]] at hcell
      have hfr := hbr.frozen j
      have hBr := hbr.lt
      have j0 : (0 : Int) ≤ (j : Int) := by omega
      have j1 : (j : Int) < (m : Int) := by omega
      clear hld hst hj hlen hb
      by_cases hf : s.f k = 0
      · have HB := Lib.hid (show ldL s (k + 1) = ldL s k by show (if _ then _ else _) = _; rw [if_neg (by simpa using hf)])
        have HP := Lib.hid (fun w l => HF.out k w l)
        rw [HST.out, show decide (s.f k ≠ 0) = false by simpa using hf] at HP
        clear hf
        go_wp2_with (go_at_call 98; refine (HP.out _ (lr.out.gr ?_)).mono ?_; exact (Gr.refl _).al _; rintro e w' ⟨rfl, rfl⟩)
        go_roundw
        case rel => exact ⟨k + 1, by omega, by go_num, by rw [HB.out]; exact hbr.gr ((Gr.refl _).al _), ch.al _⟩
        case measure => simp [intOf]; omega
      · have HB := Lib.hid (show ldL s (k + 1) = (ldL s k).set j ((ldL s k).getD j 0 + 1) by show (if _ then _ else _) = _; rw [if_pos hf, HJ.out]; rfl)
        have HP := Lib.hid (fun w l => HF.out k w l)
        rw [HST.out, show decide (s.f k ≠ 0) = true by simpa using hf] at HP
        clear hf
        generalize hz : (ldL s k).getD j 0 = z at *
        have HZ := Lib.hid hz
        clear hz
        go_wp2_with (go_at_call 98; refine (HP.out _ (lr.out.gr ?_)).mono ?_; exact (Gr.refl _).al _; rintro e w' ⟨rfl, rfl⟩)
        go_roundw
        case rel =>
          refine ⟨k + 1, by omega, by go_num, ?_, (ch.st (p := ⟨B, j, none⟩) (by simp) _).al _⟩
          rw [HB.out]
          have := (hbr.st j (.int .i64 (z + 1))).al (.cells #[.int .i64 (j : Int), .int .i64 q1, .int .u64 q2, .bool q3] 114)
          rw [List.setIfInBounds_toArray] at this
          rw [show intCells .i64 ((ldL s k).set j (z + 1)) = (intCells .i64 (ldL s k)).set j (.int .i64 (z + 1)) by unfold intCells; rw [List.map_set]]
          exact this
        case measure => simp [intOf]; omega
    · obtain rfl : k = 64 := by omega
      have hlen : (ldL s 64).length = m := by rw [ldL_len, HM.out]; rfl
      have HFin : Hid (Sl 3 .i64 wr (.slice (some ⟨B, 0, none⟩) m m) (ldL s 64)) := Lib.hid ⟨some ⟨B, 0, none⟩, m, by rw [hlen], by omega, by omega, .inr ⟨B, 0, _, rfl, hbr, by simp [intCells, hlen], fun i x hx => by simp [intCells, hx]⟩⟩
      go_wp2_with fail
      go_ret
      exact ⟨_, rfl, HFin.out, g1.chs ch (by simpa using HBe.out)⟩
end Go.Proofs.Ytkkobbomipcpoaa
