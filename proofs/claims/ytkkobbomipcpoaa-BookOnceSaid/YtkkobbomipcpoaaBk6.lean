/- Contracts of the document's Loads and Live, and of Late, the program's and the document's, of chapter 29 (book), for every input. -/
import Derived.Test.YtkkobbomipcpoaaBk5
namespace Go.Proofs.Ytkkobbomipcpoaa
open Go.RowKit TagP
set_option linter.unusedVariables false

theorem dloads (r : Nat) (of : Nat → Int) (s : BS) (w : World) (l : DocAt w r of s) (fi : Fine s) :
    Calls Try.prog 56 #[.pointer (some ⟨r, 0, none⟩)] w fun e w' => ∃ v, e = .returned v ∧ Sl 3 .i64 w' v (ldL s 64) ∧ Gr w w' := by
  obtain ⟨m, hm⟩ := Int.eq_ofNat_of_zero_le (show 0 ≤ s.c by have := l.c1; omega)
  have hle : m ≤ 64 := by have := l.c1; omega
  have hmk := run_make_recs el22 m (by omega) (by omega)
  rw [show (recs m 1 fun _ k => (Value.int .i64 0).cells[k]!) = (intCells .i64 (List.replicate m 0)).toArray by
    apply Array.ext_getElem?
    intro j
    by_cases hj : j < m <;> simp [recs, tab, intCells, hj, Nat.mod_one, Value.cells]] at hmk
  have L := Lib.hid l
  have HM := Lib.hid hm
  have c0 := l.head
  rw [hm] at c0
  clear l hm
  go_enter Try.func56, Try.ntmps56
  go_upto_region 2 with fail
  have hb := Blk.new w 3 (intCells .i64 (List.replicate m 0)).toArray
  have g1 := (Gr.refl w).al (.cells (intCells .i64 (List.replicate m 0)).toArray 3)
  generalize w.alloc (.cells (intCells .i64 (List.replicate m 0)).toArray 3) = w1 at *
  have L1 := Lib.hid (L.out.gr g1)
  have hB : w.heap.size < w1.heap.size := hb.lt
  have hgB : r < w.heap.size := L.out.hdr.lt
  generalize hBe : w.heap.size = B at *
  have HBe := Lib.hid (Nat.le_of_eq hBe)
  clear hBe
  go_wp2_with fail
  go_loopw [4] (fun i wr => ∃ k : Nat, k ≤ 64 ∧ i = .int .i64 k ∧ Blk wr B 3 (intCells .i64 (ldL s k)).toArray ∧ Ch [B] w1 wr) (fun i _ => 64 - (intOf i).toNat)
  case atStart => exact ⟨0, by omega, rfl, by unfold ldL; rw [HM.out]; exact hb, Ch.refl _ _⟩
  case round =>
    obtain ⟨k, hk, rfl, hbr, ch⟩ := hrel
    have lr := Lib.hid (L1.out.ch ch (by simp; omega))
    have hszr : w1.heap.size ≤ wr.heap.size := ch.size
    by_cases hlt : k < 64
    · have hlt' : (k : Int) < 64 := by omega
      obtain ⟨d0, d1, d2, d3, d4, d5, _⟩ := lr.out.one hlt
      clear d1 d3 d4 d5
      simp only [oneR] at d0 d2
      obtain ⟨j, hj⟩ := Int.eq_ofNat_of_zero_le (fi.hm k).1
      have hjm : j < m := by have := (fi.hm k).2; have := HM.out; omega
      rw [hj] at d2
      have HJ := Lib.hid hj
      have hld := ldL_len s k
      have hlb := ldL_bd s k j
      have hcell := hbr.cell j
      have hlen : (ldL s k).length = m := by rw [hld, HM.out]; rfl
      rw [List.getElem?_toArray, show (intCells .i64 (ldL s k))[j]? = some (.int .i64 ((ldL s k).getD j 0)) by simp [intCells, List.getD_eq_getElem?_getD, hlen, hjm]] at hcell
      have hfr := hbr.frozen j
      have hBr := hbr.lt
      have j0 : (0 : Int) ≤ (j : Int) := by omega
      have j1 : (j : Int) < (m : Int) := by omega
      clear hld hj hlen hb
      by_cases hf : s.f k = 0
      · have HB := Lib.hid (show ldL s (k + 1) = ldL s k by show (if _ then _ else _) = _; rw [if_neg (by simpa using hf)])
        rw [show decide (s.f k ≠ 0) = false by simpa using hf] at d0
        clear hf
        go_wp2_with fail
        go_roundw
        case rel => exact ⟨k + 1, by omega, by go_num, by rw [HB.out]; exact hbr, ch⟩
        case measure => simp [intOf]; omega
      · have HB := Lib.hid (show ldL s (k + 1) = (ldL s k).set j ((ldL s k).getD j 0 + 1) by show (if _ then _ else _) = _; rw [if_pos hf, HJ.out]; rfl)
        rw [show decide (s.f k ≠ 0) = true by simpa using hf] at d0
        clear hf
        generalize hz : (ldL s k).getD j 0 = z at *
        have HZ := Lib.hid hz
        clear hz
        go_wp2_with fail
        go_roundw
        case rel =>
          refine ⟨k + 1, by omega, by go_num, ?_, ch.st (p := ⟨B, j, none⟩) (by simp) _⟩
          rw [HB.out]
          have := hbr.st j (.int .i64 (z + 1))
          rw [List.setIfInBounds_toArray] at this
          rw [show intCells .i64 ((ldL s k).set j (z + 1)) = (intCells .i64 (ldL s k)).set j (.int .i64 (z + 1)) by unfold intCells; rw [List.map_set]]
          exact this
        case measure => simp [intOf]; omega
    · obtain rfl : k = 64 := by omega
      have hlen : (ldL s 64).length = m := by rw [ldL_len, HM.out]; rfl
      have HFin : Hid (Sl 3 .i64 wr (.slice (some ⟨B, 0, none⟩) m m) (ldL s 64)) := Lib.hid ⟨some ⟨B, 0, none⟩, m, by rw [hlen], by omega, by omega, .inr ⟨B, 0, _, rfl, hbr, by simp [intCells, hlen], fun i x hx => by simp [intCells, hx]⟩⟩
      go_wp2_with fail
      go_ret
      exact ⟨_, rfl, HFin.out, g1.chs ch (by simpa using HBe.out)⟩

/-- The document's Live. -/
def dliveI (f : Nat → Int) (u : Int) : Int := if liveB f u then u % 256 else -1
/-- A word that stands tells its place. -/
def Words (f : Nat → Int) : Prop := ∀ i, f i = 0 ∨ ∃ st : Int, 1 ≤ st ∧ st ≤ 72057594037927935 ∧ f i = st * 256 + i
theorem live_at {f : Nat → Int} (hw : Words f) {k : Nat} (hk : k < 64) (h0 : f k ≠ 0) : liveB f (f k) = true ∧ (f k) % 256 = k := by
  rcases hw k with h | ⟨st, h1, h2, h3⟩
  · exact absurd h h0
  · have e1 : (f k) % 256 = k := by omega
    refine ⟨?_, e1⟩
    unfold liveB
    rw [e1, (good_iff _ _).2 (by omega), Int.toNat_natCast]
    simp
theorem live_none {f : Nat → Int} {u : Int} (h : ∀ j, j < 64 → ¬ (f j ≠ 0 ∧ f j = u)) : liveB f u = false := by
  unfold liveB
  by_cases hg : goodB (u / 256) (u % 256) = true
  · obtain ⟨g1, g2, g3, g4⟩ := (good_iff _ _).1 hg
    have := h (u % 256).toNat (by omega)
    rw [hg]
    by_cases hf : f (u % 256).toNat = u
    · exact absurd ⟨by omega, hf⟩ this
    · simpa using hf
  · rw [show goodB (u / 256) (u % 256) = false by simpa using hg]; rfl
theorem dlive (r : Nat) (of : Nat → Int) (s : BS) (u : Int) (w : World) (l : DocAt w r of s) (hw : Words s.f) :
    Calls Try.prog 59 #[.pointer (some ⟨r, 0, none⟩), .int .u64 u] w fun e w' => e = .returned (.int .i64 (dliveI s.f u)) ∧ w = w' := by
  have L := Lib.hid l
  clear l
  go_enter Try.func59, Try.ntmps59
  go_wp2_with fail
  go_loop [5] (fun i => ∃ k : Nat, k ≤ 64 ∧ i = .int .i64 k ∧ ∀ j, j < k → ¬ (s.f j ≠ 0 ∧ s.f j = u)) (fun i => 64 - (intOf i).toNat)
  case atStart => exact ⟨0, by omega, rfl, fun j hj => by omega⟩
  case round =>
    obtain ⟨k, hk, rfl, hno⟩ := hrel
    have HNO := Lib.hid hno
    clear hno
    by_cases hlt : k < 64
    · have hlt' : (k : Int) < 64 := by omega
      obtain ⟨d0, d1, d2, d3, d4, d5, _⟩ := L.out.one hlt
      clear d2 d3 d4 d5
      simp only [oneR] at d0 d1
      by_cases h0 : s.f k = 0
      · have HN := Lib.hid (show ∀ j, j < k + 1 → ¬ (s.f j ≠ 0 ∧ s.f j = u) from fun j hj => by
          by_cases e : j = k
          · subst e; exact fun h => h.1 h0
          · exact HNO.out j (by omega))
        rw [show decide (s.f k ≠ 0) = false by simpa using h0] at d0
        generalize s.f k = z at d1
        clear h0
        go_wp2_with fail
        go_round
        case rel => exact ⟨k + 1, by omega, by go_num, HN.out⟩
        case measure => simp [intOf]; omega
      · rw [show decide (s.f k ≠ 0) = true by simpa using h0] at d0
        by_cases hu : s.f k = u
        · have HN := Lib.hid (show dliveI s.f u = k by
            obtain ⟨h1, h2⟩ := live_at hw hlt h0
            unfold dliveI
            rw [← hu, h1, if_pos rfl, h2])
          have e1 : (s.f k == u) = true := by simpa using hu
          generalize s.f k = z at d1 e1
          clear hu h0
          go_wp2_with fail
          go_ret
          exact ⟨ret_int (by rw [HN.out]), rfl⟩
        · have HN := Lib.hid (show ∀ j, j < k + 1 → ¬ (s.f j ≠ 0 ∧ s.f j = u) from fun j hj => by
            by_cases e : j = k
            · subst e; exact fun h => hu h.2
            · exact HNO.out j (by omega))
          have e1 : (s.f k == u) = false := by simpa using hu
          generalize s.f k = z at d1 e1
          clear hu h0
          go_wp2_with fail
          go_round
          case rel => exact ⟨k + 1, by omega, by go_num, HN.out⟩
          case measure => simp [intOf]; omega
    · obtain rfl : k = 64 := by omega
      have HN := Lib.hid (show dliveI s.f u = -1 by unfold dliveI; rw [live_none HNO.out]; rfl)
      go_wp2_with fail
      go_ret
      exact ⟨ret_int (by rw [HN.out]), rfl⟩
end Go.Proofs.Ytkkobbomipcpoaa
