/- Contracts of the document's functions of chapter 29 (book), but for Place, Loads and Late, for every input. -/
import Derived.Test.YtkkobbomipcpoaaBk2
namespace Go.Proofs.Ytkkobbomipcpoaa
open Go.RowKit TagP
set_option linter.unusedVariables false

/-- The document's place, cell by cell, as the program's book has it. -/
def oneR (s : BS) (i k : Nat) : Value := match k with
  | 0 => .bool (decide (s.f i ≠ 0))
  | 1 => .int .u64 (s.f i)
  | 2 => .int .i64 (s.hm i)
  | 3 => .int .i64 (if s.f i ≠ 0 then s.lv i else 0)
  | 4 => .int .u64 (if s.f i ≠ 0 then s.sc i else 0)
  | _ => .bool (decide (s.f i ≠ 0) && s.mv i)
def drF (of : Nat → Int) (s : BS) : Nat → Value
  | 0 => .int .i64 s.c
  | 1 => .int .u64 s.last
  | j + 2 => if j < 64 then .int .u64 (of j) else oneR s ((j - 64) / 6) ((j - 64) % 6)
theorem drF_at (of : Nat → Int) (s : BS) (i k : Nat) (hk : k < 6) : drF of s (66 + i * 6 + k) = oneR s i k := by
  rw [show 66 + i * 6 + k = (64 + (i * 6 + k)) + 2 by omega]
  show (if 64 + (i * 6 + k) < 64 then _ else oneR s ((64 + (i * 6 + k) - 64) / 6) ((64 + (i * 6 + k) - 64) % 6)) = _
  rw [if_neg (by omega), show 64 + (i * 6 + k) - 64 = i * 6 + k by omega, (rec_div i hk).1, (rec_div i hk).2]
theorem drF_upd (of : Nat → Int) (s s' : BS) (i k : Nat) (v : Value) (hk : k < 6) (hc : s'.c = s.c) (hl : s'.last = s.last) (e : ∀ a b, b < 6 → oneR s' a b = if a = i ∧ b = k then v else oneR s a b) (j : Nat) : updF (drF of s) (66 + i * 6 + k) v j = drF of s' j := by
  unfold updF
  match j with
  | 0 => rw [if_neg (by omega)]; show Value.int .i64 s.c = .int .i64 s'.c; rw [hc]
  | 1 => rw [if_neg (by omega)]; show Value.int .u64 s.last = .int .u64 s'.last; rw [hl]
  | j + 2 =>
    show _ = (if j < 64 then _ else oneR s' ((j - 64) / 6) ((j - 64) % 6))
    by_cases h64 : j < 64
    · rw [if_neg (by omega), if_pos h64]
      show (if j < 64 then _ else _) = _
      rw [if_pos h64]
    · rw [if_neg h64, e _ _ (Nat.mod_lt _ (by omega))]
      by_cases hj : j + 2 = 66 + i * 6 + k
      · rw [if_pos hj, if_pos (by omega)]
      · rw [if_neg hj, if_neg (by omega)]
        show (if j < 64 then _ else _) = _
        rw [if_neg h64]

/-- The document's book, in block r: all of it as the program's book has it; of: the stamps. -/
structure DocAt (w : World) (r : Nat) (of : Nat → Int) (s : BS) : Prop where
  hdr : Arr w r 128 450 (drF of s)
  c1 : 1 ≤ s.c ∧ s.c ≤ 64
  l0 : 0 ≤ s.last ∧ s.last ≤ 72057594037927935
section
variable {w w' : World} {r : Nat} {of : Nat → Int} {s : BS} {S : List Nat} (l : DocAt w r of s)
include l
theorem DocAt.gr (k : Gr w w') : DocAt w' r of s := ⟨l.hdr.gr k, l.c1, l.l0⟩
theorem DocAt.ch (k : Ch S w w') (h1 : r ∉ S) : DocAt w' r of s := ⟨l.hdr.ch k h1, l.c1, l.l0⟩
theorem DocAt.drew : DocAt w.drew r of s := ⟨l.hdr, l.c1, l.l0⟩
theorem DocAt.head : w.cell? ⟨r, 0, none⟩ = some (.int .i64 s.c) := l.hdr.cell (by omega)
theorem DocAt.one {i : Nat} (hi : i < 64) : w.cell? ⟨r, 66 + i * 6, none⟩ = some (oneR s i 0) ∧ w.cell? ⟨r, 66 + i * 6 + 1, none⟩ = some (oneR s i 1) ∧ w.cell? ⟨r, 66 + i * 6 + 2, none⟩ = some (oneR s i 2) ∧ w.cell? ⟨r, 66 + i * 6 + 3, none⟩ = some (oneR s i 3) ∧ w.cell? ⟨r, 66 + i * 6 + 4, none⟩ = some (oneR s i 4) ∧ w.cell? ⟨r, 66 + i * 6 + 5, none⟩ = some (oneR s i 5) ∧ ∀ j, w.frozen? ⟨r, j, none⟩ = false :=
  ⟨(l.hdr.cell (by omega)).trans (congrArg some (drF_at of s i 0 (by omega))), (l.hdr.cell (by omega)).trans (congrArg some (drF_at of s i 1 (by omega))), (l.hdr.cell (by omega)).trans (congrArg some (drF_at of s i 2 (by omega))), (l.hdr.cell (by omega)).trans (congrArg some (drF_at of s i 3 (by omega))), (l.hdr.cell (by omega)).trans (congrArg some (drF_at of s i 4 (by omega))), (l.hdr.cell (by omega)).trans (congrArg some (drF_at of s i 5 (by omega))), l.hdr.frozen⟩
theorem DocAt.stH (i : Nat) (x : Int) : DocAt (w.setCell ⟨r, 66 + i * 6 + 2, none⟩ (.int .i64 x)) r of { s with hm := upd s.hm i x } :=
  ⟨(l.hdr.st (66 + i * 6 + 2) _).congr fun j _ => drF_upd of s { s with hm := upd s.hm i x } i 2 _ (by omega) rfl rfl (fun a b hb => by
    have : b = 0 ∨ b = 1 ∨ b = 2 ∨ b = 3 ∨ b = 4 ∨ b = 5 := by omega
    rcases this with rfl | rfl | rfl | rfl | rfl | rfl <;> simp [oneR, upd]
    split <;> rfl) j, l.c1, l.l0⟩
theorem DocAt.stM (i : Nat) (hi : s.f i ≠ 0) : DocAt (w.setCell ⟨r, 66 + i * 6 + 5, none⟩ (.bool true)) r of { s with mv := upd s.mv i true } :=
  ⟨(l.hdr.st (66 + i * 6 + 5) _).congr fun j _ => drF_upd of s { s with mv := upd s.mv i true } i 5 _ (by omega) rfl rfl (fun a b hb => by
    have : b = 0 ∨ b = 1 ∨ b = 2 ∨ b = 3 ∨ b = 4 ∨ b = 5 := by omega
    rcases this with rfl | rfl | rfl | rfl | rfl | rfl <;> simp [oneR, upd]
    by_cases h : a = i
    · subst h; simp [hi]
    · simp [h]) j, l.c1, l.l0⟩
end
/-- A place's six cells are stored. -/
theorem DocAt.st6 {w : World} {r : Nat} {of : Nat → Int} {s : BS} (l : DocAt w r of s) (i : Nat) (hi : i < 64) (s' : BS) (hc : s'.c = s.c) (hl : s'.last = s.last) (e : ∀ a b, a ≠ i → oneR s' a b = oneR s a b) :
    DocAt ((((((w.setCell ⟨r, 66 + i * 6, none⟩ (oneR s' i 0)).setCell ⟨r, 66 + i * 6 + 1, none⟩ (oneR s' i 1)).setCell ⟨r, 66 + i * 6 + 2, none⟩ (oneR s' i 2)).setCell ⟨r, 66 + i * 6 + 3, none⟩ (oneR s' i 3)).setCell ⟨r, 66 + i * 6 + 4, none⟩ (oneR s' i 4)).setCell ⟨r, 66 + i * 6 + 5, none⟩ (oneR s' i 5)) r of s' :=
  ⟨(((((((l.hdr.st (66 + i * 6) _).st (66 + i * 6 + 1) _).st (66 + i * 6 + 2) _).st (66 + i * 6 + 3) _).st (66 + i * 6 + 4) _).st (66 + i * 6 + 5) _)).congr fun j _ => by
    unfold updF
    match j with
    | 0 => rw [if_neg (by omega), if_neg (by omega), if_neg (by omega), if_neg (by omega), if_neg (by omega), if_neg (by omega)]; show Value.int .i64 s.c = .int .i64 s'.c; rw [hc]
    | 1 => rw [if_neg (by omega), if_neg (by omega), if_neg (by omega), if_neg (by omega), if_neg (by omega), if_neg (by omega)]; show Value.int .u64 s.last = .int .u64 s'.last; rw [hl]
    | j + 2 =>
      show _ = (if j < 64 then _ else oneR s' ((j - 64) / 6) ((j - 64) % 6))
      by_cases h64 : j < 64
      · rw [if_neg (by omega), if_neg (by omega), if_neg (by omega), if_neg (by omega), if_neg (by omega), if_neg (by omega), if_pos h64]
        show (if j < 64 then _ else _) = _
        rw [if_pos h64]
      · rw [if_neg h64]
        by_cases hj : (j - 64) / 6 = i
        · have hm : (j - 64) % 6 = 0 ∨ (j - 64) % 6 = 1 ∨ (j - 64) % 6 = 2 ∨ (j - 64) % 6 = 3 ∨ (j - 64) % 6 = 4 ∨ (j - 64) % 6 = 5 := by omega
          rw [hj]
          rcases hm with hm | hm | hm | hm | hm | hm <;> rw [hm]
          · rw [if_neg (by omega), if_neg (by omega), if_neg (by omega), if_neg (by omega), if_neg (by omega), if_pos (by omega)]
          · rw [if_neg (by omega), if_neg (by omega), if_neg (by omega), if_neg (by omega), if_pos (by omega)]
          · rw [if_neg (by omega), if_neg (by omega), if_neg (by omega), if_pos (by omega)]
          · rw [if_neg (by omega), if_neg (by omega), if_pos (by omega)]
          · rw [if_neg (by omega), if_pos (by omega)]
          · rw [if_pos (by omega)]
        · rw [if_neg (by omega), if_neg (by omega), if_neg (by omega), if_neg (by omega), if_neg (by omega), if_neg (by omega), e _ _ hj]
          show (if j < 64 then _ else _) = _
          rw [if_neg h64], by rw [hc]; exact l.c1, by rw [hl]; exact l.l0⟩

theorem zero128 (c : Int) : Try.zeroCells128.setIfInBounds 0 (.int .i64 c) = (tab 450 (drF (fun _ => 0) (s0 c))).toArray := by kernel_rfl
theorem dnew (c : Int) (w : World) : Calls Try.prog 52 #[.int .i64 c] w fun e w' => e = .returned (.pointer (some ⟨w.heap.size, 0, none⟩)) ∧ DocAt w' w.heap.size (fun _ => 0) (s0 (clampI c 1 64)) ∧ Gr w w' := by
  have HB := Lib.hid (fun q (hq : 1 ≤ q ∧ q ≤ 64) => (show DocAt (w.alloc (.cells (tab 450 (drF (fun _ => 0) (s0 q))).toArray 128)) w.heap.size (fun _ => 0) (s0 q) from
    ⟨Blk.new w 128 _, hq, by show (0 : Int) ≤ 0 ∧ (0 : Int) ≤ _; omega⟩))
  have HE : Hid (∀ q, q = clampI c 1 64 → DocAt (w.alloc (.cells (tab 450 (drF (fun _ => 0) (s0 q))).toArray 128)) w.heap.size (fun _ => 0) (s0 (clampI c 1 64))) := Lib.hid (fun q hq => by
    rw [← hq]; exact HB.out q (by unfold clampI at hq; split at hq <;> (try split at hq) <;> omega))
  have HQ : Hid (∀ q, q = (if c < 1 then 1 else if 64 < c then 64 else c) → q = clampI c 1 64) := Lib.hid (fun q hq => hq)
  clear HB
  generalize clampI c 1 64 = q at *
  go_enter Try.func52, Try.ntmps52
  go_wp2
  all_goals go_ret
  all_goals rw [zero128]
  all_goals exact ⟨rfl, HE.out _ (HQ.out _ (by split <;> (try split) <;> omega)), (Gr.refl w).al _⟩
theorem dis (x : Int) (w : World) : Calls Try.prog 107 #[.int .i64 x] w fun e w' => e = .returned (.bool (placeB x)) ∧ w = w' := by
  go_enter Try.func107, Try.ntmps107
  go_wp2
  all_goals go_ret
  all_goals (refine ⟨ret_bool ?_, rfl⟩; unfold placeB; simp_all; try omega)
theorem dlevel (r : Nat) (of : Nat → Int) (s : BS) (slot : Int) (w : World) (l : DocAt w r of s) : Calls Try.prog 109 #[.pointer (some ⟨r, 0, none⟩), .int .i64 slot] w fun e w' => e = .returned (.int .i64 (queuedI s slot)) ∧ w = w' := by
  by_cases h1 : placeB slot = true
  · have HP := Lib.hid h1
    obtain ⟨h3, h4⟩ := (place_iff slot).1 h1
    obtain ⟨i, rfl⟩ := Int.eq_ofNat_of_zero_le h3
    obtain ⟨c0, c1, c2, c3, c4, c5, cf⟩ := l.one (i := i) (by omega)
    by_cases hf : s.f i = 0
    · have HQ := Lib.hid (show queuedI s i = 8 by unfold queuedI stB; rw [h1]; simp [hf])
      simp only [oneR, hf] at c0
      clear h1 l c1 c2 c3 c4 c5
      go_enter Try.func109, Try.ntmps109
      go_wp2_with (go_at_call 107; refine (dis _ _).mono ?_; rintro e w' ⟨rfl, rfl⟩; rw [HP.out])
      go_ret
      exact ⟨ret_int (by rw [HQ.out]), rfl⟩
    · have HQ := Lib.hid (show queuedI s i = s.lv i by unfold queuedI stB; rw [h1]; simp [hf])
      simp [oneR, hf] at c0 c3
      clear h1 l c1 c2 c4 c5
      generalize s.lv i = z at *
      go_enter Try.func109, Try.ntmps109
      go_wp2_with (go_at_call 107; refine (dis _ _).mono ?_; rintro e w' ⟨rfl, rfl⟩; rw [HP.out])
      go_ret
      exact ⟨ret_int (by rw [HQ.out]), rfl⟩
  · have HP := Lib.hid (show placeB slot = false by simpa using h1)
    have HQ := Lib.hid (show queuedI s slot = 8 by unfold queuedI; rw [stB_placeF HP.out]; rfl)
    clear h1 l
    go_enter Try.func109, Try.ntmps109
    go_wp2_with (go_at_call 107; refine (dis _ _).mono ?_; rintro e w' ⟨rfl, rfl⟩; rw [HP.out])
    go_ret
    exact ⟨ret_int (by rw [HQ.out]), rfl⟩
theorem ddrop (r : Nat) (of : Nat → Int) (s : BS) (slot : Int) (w : World) (l : DocAt w r of s) : Calls Try.prog 106 #[.pointer (some ⟨r, 0, none⟩), .int .i64 slot] w fun e w' => e = .returned (.bool (stB s.f slot)) ∧ DocAt w' r of (dropS s slot) ∧ Ch [r] w w' := by
  by_cases h1 : placeB slot = true
  · have HP := Lib.hid h1
    obtain ⟨h3, h4⟩ := (place_iff slot).1 h1
    obtain ⟨i, rfl⟩ := Int.eq_ofNat_of_zero_le h3
    obtain ⟨c0, c1, c2, c3, c4, c5, cf⟩ := l.one (i := i) (by omega)
    by_cases hf : s.f i = 0
    · have HQ := Lib.hid (show stB s.f i = false by unfold stB; rw [h1]; simp [hf])
      have HD := Lib.hid (show dropS s i = s by unfold dropS; rw [HQ.out]; rfl)
      have HL := Lib.hid l
      rw [HQ.out]
      simp only [oneR, hf] at c0
      clear h1 l c1 c2 c3 c4 c5
      go_enter Try.func106, Try.ntmps106
      go_wp2_with (go_at_call 107; refine (dis _ _).mono ?_; rintro e w' ⟨rfl, rfl⟩; rw [HP.out])
      go_ret
      rw [HD.out]
      exact ⟨rfl, HL.out, Ch.refl _ _⟩
    · have HQ := Lib.hid (show stB s.f i = true by unfold stB; rw [h1]; simp [hf])
      have HD := Lib.hid (show dropS s i = { s with f := setF s.f i 0 } by unfold dropS; rw [HQ.out]; rfl)
      have HL := Lib.hid l
      rw [HQ.out]
      simp [oneR, hf] at c0
      simp only [oneR] at c1 c2 c3 c4 c5
      have HX : Hid (∀ z, s.hm i = z → DocAt ((((((w.setCell ⟨r, 66 + i * 6, none⟩ (.bool false)).setCell ⟨r, 66 + i * 6 + 1, none⟩ (.int .u64 0)).setCell ⟨r, 66 + i * 6 + 2, none⟩ (.int .i64 z)).setCell ⟨r, 66 + i * 6 + 3, none⟩ (.int .i64 0)).setCell ⟨r, 66 + i * 6 + 4, none⟩ (.int .u64 0)).setCell ⟨r, 66 + i * 6 + 5, none⟩ (.bool false)) r of { s with f := setF s.f i 0 }) := Lib.hid (fun z hz => by
        have := l.st6 i (by omega) { s with f := setF s.f i 0 } rfl rfl (fun a b ha => by simp [oneR, setF, ha])
        rw [show oneR { s with f := setF s.f i 0 } i 0 = .bool false by simp [oneR, setF], show oneR { s with f := setF s.f i 0 } i 1 = .int .u64 0 by simp [oneR, setF], show oneR { s with f := setF s.f i 0 } i 2 = .int .i64 z by simp [oneR, hz], show oneR { s with f := setF s.f i 0 } i 3 = .int .i64 0 by simp [oneR, setF], show oneR { s with f := setF s.f i 0 } i 4 = .int .u64 0 by simp [oneR, setF], show oneR { s with f := setF s.f i 0 } i 5 = .bool false by simp [oneR, setF]] at this
        exact this)
      clear h1 l
      generalize hz : s.hm i = z at *
      have HZ := Lib.hid hz
      clear hz
      go_enter Try.func106, Try.ntmps106
      go_upto_region 3 with (go_at_call 107; refine (dis _ _).mono ?_; rintro e w' ⟨rfl, rfl⟩; rw [HP.out])
      go_region_law (fail)
      all_goals go_wp2
      all_goals go_ret
      all_goals (rw [HD.out]; exact ⟨rfl, (HX.out z rfl).drew, ((((((((Ch.refl _ _).st (by simp) _).st (by simp) _).st (by simp) _).st (by simp) _).st (by simp) _).st (by simp) _).drew)⟩)
  · have HP := Lib.hid (show placeB slot = false by simpa using h1)
    have HQ := Lib.hid (stB_placeF (f := s.f) HP.out)
    have HD := Lib.hid (show dropS s slot = s by unfold dropS; rw [HQ.out]; rfl)
    have HL := Lib.hid l
    rw [HQ.out]
    clear h1 l
    go_enter Try.func106, Try.ntmps106
    go_wp2_with (go_at_call 107; refine (dis _ _).mono ?_; rintro e w' ⟨rfl, rfl⟩; rw [HP.out])
    go_ret
    rw [HD.out]
    exact ⟨rfl, HL.out, Ch.refl _ _⟩
end Go.Proofs.Ytkkobbomipcpoaa
