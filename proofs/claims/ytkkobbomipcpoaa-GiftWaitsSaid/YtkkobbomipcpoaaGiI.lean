/- Chapter 25 (gift): filled, due, and the function values of the program's walks. -/
import Derived.Test.YtkkobbomipcpoaaGiQ
import Derived.Test.YtkkobbomipcpoaaGiH
namespace Go.Proofs.Ytkkobbomipcpoaa
open Go.RowKit
set_option linter.unusedVariables false
set_option maxHeartbeats 2000000
theorem recs_lst (n : Nat) (f : Nat → Int) : recs n 1 (fun i _ => Value.int .i64 (f i)) = (intCells .i64 (lst n f)).toArray := by
  apply Array.ext_getElem?
  intro i
  by_cases h : i < n
  · have := recs_get n 1 (fun i _ => Value.int .i64 (f i)) i 0 h (by omega)
    simp only [Nat.mul_one, Nat.add_zero] at this
    rw [this]
    simp [intCells, lst, h]
  · have h1 : (recs n 1 (fun i _ => Value.int .i64 (f i)))[i]? = none := by rw [Array.getElem?_eq_none]; rw [recs_size]; omega
    rw [h1]
    simp [intCells, lst, h]
theorem run_make_int (n : Nat) (h : n ≤ 64) (w : World) : (Instr.makeSlice 22 (.int .i64 (n : Int)) (.int .i64 (n : Int))).run Try.prog w = .ok (.slice (some ⟨w.heap.size, 0, none⟩) n n) (w.alloc (.cells (intCells .i64 (lst n fun _ => 0)).toArray 3)) := by
  have k1 := run_make_recs el22 n (by omega) (by omega) w
  rw [show (recs n 1 fun _ k => (Value.int .i64 0).cells[k]!) = recs n 1 (fun i _ => .int .i64 ((fun _ => 0 : Nat → Int) i)) from
    recs_congr _ _ _ _ fun i k _ hk => by obtain rfl : k = 0 := (by omega); rfl, recs_lst] at k1
  exact k1
theorem Sl.st' {w : World} {b n : Nat} {f : Nat → Int} (h : Sl 3 .i64 w (.slice (some ⟨b, 0, none⟩) n n) (lst n f)) (i : Nat) (hi : i < n) (x : Int) : Sl 3 .i64 (w.setCell ⟨b, i, none⟩ (.int .i64 x)) (.slice (some ⟨b, 0, none⟩) n n) (lst n (upd f i x)) := by
  rw [show (Value.slice (some ⟨b, 0, none⟩) n n) = .slice (some ⟨b, 0, none⟩) (lst n f).length n by rw [lst_length]] at h
  have := h.st i (by rw [lst_length]; exact hi) x
  rwa [lst_set, lst_length, Nat.zero_add] at this
set_option maxRecDepth 100000 in
theorem gfilled (gv : Value) (L W O eff : List Int) (ev : Value) (w : World) (h : GV w gv L W O) (he : Rd w ev eff) : Calls Try.prog 85 #[gv, ev] w (NewL w (lst (clean L W O).n (fillF eff))) := by
  have HG := Lib.hid h
  have HE := Lib.hid he
  obtain ⟨vl, vw, vo, rfl, ⟨al, cl, rfl, hl1, hl2, hl⟩, ⟨aw, cw, rfl, hw1, hw2, hw⟩, ⟨ao, co, rfl, ho1, ho2, ho⟩⟩ := h
  obtain ⟨ae, ce, rfl, he1, he2⟩ := he.hd
  clear hl hw ho he
  have hn64 := (clean_ok L W O).n64
  have hB := Blk.new w 25 #[.slice al L.length cl, .slice aw W.length cw, .slice ao O.length co]
  have g1 := (Gr.refl w).al (.cells #[.slice al L.length cl, .slice aw W.length cw, .slice ao O.length co] 25)
  have CT := Lib.hid (fun w' (g' : Gr w w') => gthreads _ L W O w' (HG.out.gr g'))
  have hmk := run_make_int (clean L W O).n hn64
  generalize (clean L W O).n = n at *
  go_enter Try.func85, Try.ntmps85
  go_upto_region 1 with fail
  generalize w.alloc (.cells #[.slice al L.length cl, .slice aw W.length cw, .slice ao O.length co] 25) = W1 at *
  obtain ⟨X, hX⟩ : ∃ X, w.heap.size = X := ⟨_, rfl⟩
  rw [hX] at hB ⊢
  obtain ⟨x0, x1, x2, xf⟩ := hB.c3
  go_upto_region 2 with (go_at_call 68; refine (CT.out _ g1).mono ?_; rintro e w2 ⟨rfl, g2⟩)
  have hs := Sl.blk (lst n fun _ => 0) n (lst_length _ _) (Blk.new w2 3 _) (by rw [lst_length]; omega)
  have g3 := (g1.tr g2).al (.cells (intCells .i64 (lst n fun _ => 0)).toArray 3)
  have hsz : w.heap.size ≤ w2.heap.size := (g1.tr g2).size_le
  generalize w2.alloc (.cells (intCells .i64 (lst n fun _ => 0)).toArray 3) = W3 at *
  generalize w2.heap.size = B at *
  have HI := Lib.hid (And.intro hs g3)
  clear hmk x0 x1 x2 xf hB g1 g2 g3 hs
  go_wp2_with fail
  go_loopw [12] (fun i wr => ∃ k : Nat, k ≤ n ∧ i = .int .i64 k ∧ Sl 3 .i64 wr (.slice (some ⟨B, 0, none⟩) n n) (lst n fun j => if j < k then fillF eff j else 0) ∧ Gr w wr) (fun i _ => n - (intOf i).toNat)
  case atStart => exact ⟨0, by omega, rfl, by simpa using HI.out.1, HI.out.2⟩
  case round =>
    clear HI
    obtain ⟨k, hk, rfl, hv, gr⟩ := hrel
    by_cases hlt : k < n
    · have hd : decide ((k : Int) < (n : Int)) = true := by simpa using hlt
      obtain ⟨b', off', cp', hvv, _, _, hc, hf⟩ := hv.at hlt
      cases hvv
      simp only [Nat.zero_add] at hc
      have i1 : (0 : Int) ≤ (k : Int) := by omega
      have i2 : (k : Int) < (n : Int) := by omega
      have HS := Lib.hid (fun x (hx : fillF eff k = x) => show lst n (upd (fun j => if j < k then fillF eff j else 0) k x) = lst n fun j => if j < k + 1 then fillF eff j else 0 from lst_congr fun j _ => by
        unfold upd
        by_cases hjk : j = k
        · subst hjk; simp [hx]
        · by_cases hj2 : j < k
          · simp [hjk, hj2, show j < k + 1 by omega]
          · simp [hjk, hj2, show ¬ j < k + 1 by omega])
      have HS2 := Lib.hid (fun x y => show lst n (upd (upd (fun j => if j < k then fillF eff j else 0) k x) k y) = lst n (upd (fun j => if j < k then fillF eff j else 0) k y) from lst_congr fun j _ => by
        unfold upd
        by_cases hjk : j = k <;> simp [hjk])
      have HV := Lib.hid hv
      clear hv
      by_cases hke : k < eff.length
      · obtain ⟨be, oe, ce', hve, _, _, ec0⟩ := HE.out.at hke
        cases hve
        have hbe : be ≠ B := by have := World.block_lt_of_cell? _ _ ec0; show be ≠ B; have : be < w.heap.size := this; omega
        have ec := gr.cell_some ec0
        have HF := Lib.hid (show fillF eff k = min (max (eff.getD k 0) 0) 8 by unfold fillF; rw [if_pos hke])
        have e2 : (k : Int) < (eff.length : Int) := by omega
        generalize eff.getD k 0 = z at *
        clear ec0
        have hz : z < 0 ∨ (¬ z < 0 ∧ 8 < z) ∨ (¬ z < 0 ∧ ¬ 8 < z) := by omega
        rcases hz with hz | ⟨hz, hz2⟩ | ⟨hz, hz2⟩
        all_goals
          go_wp2_with fail
          go_roundw
          case rel =>
            refine ⟨k + 1, by omega, by go_num, ?_, (gr.st (p := ⟨B, k, none⟩) hsz _).st (p := ⟨B, k, none⟩) hsz _⟩
            rw [← HS.out _ rfl, ← HS2.out 8]
            have := (HV.out.st' k hlt 8).st' k hlt (fillF eff k)
            rw [HF.out] at this ⊢
            first
              | exact this
              | (rw [show min (max z 0) 8 = 0 by omega] at this ⊢; exact this)
              | (rw [show min (max z 0) 8 = 8 by omega] at this ⊢; exact this)
              | (rw [show min (max z 0) 8 = z by omega] at this ⊢; exact this)
          case measure => simp [intOf]; omega
      · have HF := Lib.hid (show fillF eff k = 8 by unfold fillF; rw [if_neg hke])
        go_wp2_with fail
        go_roundw
        case rel =>
          refine ⟨k + 1, by omega, by go_num, ?_, gr.st (p := ⟨B, k, none⟩) hsz _⟩
          rw [← HS.out 8 HF.out]
          exact HV.out.st' k hlt 8
        case measure => simp [intOf]; omega
    · obtain rfl : k = n := by omega
      have hd : decide ((k : Int) < (k : Int)) = false := by simp
      have HV := Lib.hid hv
      clear hv
      go_wp2_with fail
      go_ret
      refine ⟨_, rfl, ?_, by simp [sb]; omega, gr⟩
      rw [lst_congr (g := fun j => if j < k then fillF eff j else 0) (fun j hj => by simp [hj])]
      exact HV.out
end Go.Proofs.Ytkkobbomipcpoaa
