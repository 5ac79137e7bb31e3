/- Contracts of the functions of chapter 6 (tag), for every input: what each returns, and what it does to its book. -/
import Derived.Test.YtbbhhlnbjgigaaaProg
import Derived.Test.YtbbhhlnbjgigaaaKit2
import Derived.Laws.Bits64b
namespace Go.Proofs.Ytbbhhlnbjgigaaa
open Go.RowKit
set_option linter.unusedVariables false

namespace TagP
def L : Int := 72057594037927935
def placeB (x : Int) : Bool := decide (0 ≤ x) && decide (x < 64)
def goodB (s x : Int) : Bool := decide (1 ≤ s) && decide (s ≤ 72057594037927935) && placeB x
def wordI (s x : Int) : Int := if goodB s x then s * 256 + x else 0
theorem place_iff (x : Int) : placeB x = true ↔ 0 ≤ x ∧ x < 64 := by simp [placeB]
theorem good_iff (s x : Int) : goodB s x = true ↔ 1 ≤ s ∧ s ≤ 72057594037927935 ∧ 0 ≤ x ∧ x < 64 := by simp [goodB, placeB, and_assoc]
def nowI (f : Nat → Int) (slot : Int) : Int := if placeB slot then f slot.toNat else 0
def setF (f : Nat → Int) (i : Nat) (x : Int) : Nat → Int := fun j => if j = i then x else f j
def dropF (f : Nat → Int) (slot : Int) : Nat → Int := if placeB slot then setF f slot.toNat 0 else f
end TagP
open TagP

theorem place_any (x : Int) (w : World) : Calls Try.prog 66 #[.int .i64 x] w fun e w' => e = .returned (.bool (placeB x)) ∧ w = w' := by
  go_enter Try.func66, Try.ntmps66
  go_wp2
  all_goals go_ret
  all_goals (refine ⟨ret_bool ?_, rfl⟩; unfold placeB; simp_all; try omega)

theorem cast_word (s x : Nat) : ((s * 256 + x : Nat) : Int) = (s : Int) * 256 + x := by omega
theorem cast_mul256 (s : Nat) : ((s * 256 : Nat) : Int) = (s : Int) * 256 := by omega
theorem or_word (s x : Nat) (hs : s ≤ 72057594037927935) (hx : x < 64) : bits .or .u64 ((s : Int) * 256) (x : Int) = (s : Int) * 256 + x := by
  have h := bits_or_u64_nat (s * 256) x (by omega) (by omega)
  have e : (s * 256) ||| x = s * 256 + x := by
    have := Nat.shiftLeft_add_eq_or_of_lt (show x < 2 ^ 8 by omega) s
    rw [Nat.shiftLeft_eq, show (2 : Nat) ^ 8 = 256 from rfl] at this
    exact this.symm
  rw [e] at h
  rw [cast_mul256, cast_word] at h
  exact h

theorem word_any (s x : Int) (w : World) (hs0 : 0 ≤ s) (hs1 : s ≤ 18446744073709551615) :
    Calls Try.prog 40 #[.agg #[.int .u64 s, .int .i64 x]] w fun e w' => e = .returned (.tuple #[.int .u64 (wordI s x), .bool (goodB s x)]) ∧ Gr w w' := by
  by_cases h : goodB s x = true
  · obtain ⟨h1, h2, h3, h4⟩ := (good_iff s x).1 h
    have HP := Lib.hid ((place_iff x).2 ⟨h3, h4⟩)
    have HW := Lib.hid (show wordI s x = s * 256 + x by unfold wordI; rw [if_pos h])
    have HG := Lib.hid h
    clear h
    obtain ⟨sn, rfl⟩ := Int.eq_ofNat_of_zero_le hs0
    obtain ⟨xn, rfl⟩ := Int.eq_ofNat_of_zero_le h3
    have HO := or_word sn xn (by omega) (by omega)
    go_enter Try.func40, Try.ntmps40
    go_wp2_with (go_at_call 66; refine (place_any _ _).mono ?_; rintro e w' ⟨rfl, rfl⟩; rw [HP.out])
    go_ret2
    rw [HW.out, HG.out]
    exact ⟨rfl, (Gr.refl _).al _⟩
  · have h' : goodB s x = false := by simpa using h
    have HW := Lib.hid (show wordI s x = 0 by unfold wordI; rw [if_neg h])
    have HG := Lib.hid h'
    have hc : s < 1 ∨ 72057594037927935 < s ∨ (1 ≤ s ∧ s ≤ 72057594037927935 ∧ placeB x = false) := by
      by_cases a1 : s < 1
      · exact .inl a1
      · by_cases a2 : 72057594037927935 < s
        · exact .inr (.inl a2)
        · refine .inr (.inr ⟨by omega, by omega, ?_⟩)
          unfold goodB at h'
          simp at h'
          have := h' (by omega) (by omega)
          simpa using this
    clear h h'
    rcases hc with h | h | ⟨h1, h2, h⟩
    · go_enter Try.func40, Try.ntmps40
      go_wp2
      go_ret2
      rw [HW.out, HG.out]
      exact ⟨rfl, (Gr.refl _).al _⟩
    · have h1 : ¬ s < 1 := by omega
      go_enter Try.func40, Try.ntmps40
      go_wp2
      go_ret2
      rw [HW.out, HG.out]
      exact ⟨rfl, (Gr.refl _).al _⟩
    · have HP := Lib.hid h
      clear h
      go_enter Try.func40, Try.ntmps40
      go_wp2_with (go_at_call 66; refine (place_any _ _).mono ?_; rintro e w' ⟨rfl, rfl⟩; rw [HP.out])
      go_ret2
      rw [HW.out, HG.out]
      exact ⟨rfl, (Gr.refl _).al _⟩

theorem rgood_any (s x : Int) (w : World) : Calls Try.prog 41 #[.int .u64 s, .int .i64 x] w fun e w' => e = .returned (.bool (goodB s x)) ∧ w = w' := by
  go_enter Try.func41, Try.ntmps41
  go_wp2
  all_goals go_ret
  all_goals (refine ⟨ret_bool ?_, rfl⟩; unfold goodB placeB; simp_all; try omega)

theorem rword_any (s x : Int) (w : World) (h : goodB s x = true) : Calls Try.prog 42 #[.int .u64 s, .int .i64 x] w fun e w' => e = .returned (.int .u64 (wordI s x)) ∧ w = w' := by
  obtain ⟨h1, h2, h3, h4⟩ := (good_iff s x).1 h
  have HW := Lib.hid (show wordI s x = s * 256 + x by unfold wordI; rw [if_pos h])
  clear h
  go_enter Try.func42, Try.ntmps42
  go_wp2
  go_ret
  exact ⟨ret_int (by rw [HW.out]), rfl⟩

theorem and255N (u : Nat) (h : u < 18446744073709551616) : bits .and .u64 (u : Int) 255 = ((u % 256 : Nat) : Int) := by
  have := bits_and_u64_nat u 255 h (by omega)
  rw [show u &&& 255 = u % 256 from Nat.and_two_pow_sub_one_eq_mod u 8] at this
  exact this
theorem and255 (u : Int) (h0 : 0 ≤ u) (h1 : u ≤ 18446744073709551615) : bits .and .u64 u 255 = u % 256 := by
  obtain ⟨n, rfl⟩ := Int.eq_ofNat_of_zero_le h0
  rw [and255N n (by omega)]
  rfl

theorem of_yes (u : Int) (w : World) (h0 : 0 ≤ u) (h1 : u ≤ 18446744073709551615) (h : goodB (u / 256) (u % 256) = true) :
    Calls Try.prog 44 #[.int .u64 u] w fun e w' => e = .returned (.tuple #[.agg #[.int .u64 (u / 256), .int .i64 (u % 256)], .bool true]) ∧ Gr w w' := by
  have hw := fun w => word_any (u / 256) (u % 256) w (by omega) (by omega)
  rw [h, show wordI (u / 256) (u % 256) = u by unfold wordI; rw [if_pos h]; omega] at hw
  have HW := Lib.hid hw
  clear hw h
  have ha := and255 u h0 h1
  have hm : 0 ≤ u % 256 ∧ u % 256 ≤ 255 := by omega
  go_enter Try.func44, Try.ntmps44
  go_wp2_with fail
  refine (HW.out _).mono ?_
  rintro e w1 ⟨rfl, g1⟩
  obtain ⟨b0, b1, g2⟩ := g1.new2
  obtain ⟨c0, c1, f0⟩ := b0.c2
  obtain ⟨d0, d1, f1⟩ := b1.c2
  have hlt := b1.lt
  clear g1
  go_wp2
  exact bodyPost_ret (v := .tuple #[.agg #[.int .u64 (u / 256), .int .i64 (u % 256)], .bool true]) (by simp [results, Try.results44, go_sem, c0, c1]) rfl ⟨rfl, (g2.st (Nat.le_refl _) _).st (Nat.le_refl _) _⟩
theorem of_no (u : Int) (w : World) (h0 : 0 ≤ u) (h1 : u ≤ 18446744073709551615) (h : goodB (u / 256) (u % 256) = false) :
    Calls Try.prog 44 #[.int .u64 u] w fun e w' => e = .returned (.tuple #[.agg #[.int .u64 0, .int .i64 0], .bool false]) ∧ Gr w w' := by
  have hw := fun w => word_any (u / 256) (u % 256) w (by omega) (by omega)
  rw [h] at hw
  have HW := Lib.hid hw
  clear hw h
  have ha := and255 u h0 h1
  have hm : 0 ≤ u % 256 ∧ u % 256 ≤ 255 := by omega
  go_enter Try.func44, Try.ntmps44
  go_wp2_with fail
  refine (HW.out _).mono ?_
  rintro e w1 ⟨rfl, g1⟩
  obtain ⟨b0, b1, g2⟩ := g1.new2
  obtain ⟨c0, c1, f0⟩ := b0.c2
  obtain ⟨d0, d1, f1⟩ := b1.c2
  have hlt := b1.lt
  clear g1
  generalize wordI (u / 256) (u % 256) = q
  go_wp2
  exact bodyPost_ret (v := .tuple #[.agg #[.int .u64 0, .int .i64 0], .bool false]) (by simp [results, Try.results44, go_sem, c0, c1]) rfl ⟨rfl, (g2.st (Nat.le_refl _) _).st (Nat.le_refl _) _⟩

/-- A book's cells: the last stamp, and each place's number. -/
def bookCells (last : Int) (f : Nat → Int) : Array Value := (Value.int .u64 last :: tab 64 fun i => Value.int .u64 (f i)).toArray
theorem bookCells_size (l : Int) (f : Nat → Int) : (bookCells l f).size = 65 := by simp [bookCells, tab_length]
theorem bookCells_0 (l : Int) (f : Nat → Int) : (bookCells l f)[0]? = some (.int .u64 l) := by simp [bookCells]
theorem bookCells_at (l : Int) (f : Nat → Int) (i : Nat) (h : i < 64) : (bookCells l f)[1 + i]? = some (.int .u64 (f i)) := by
  simp [bookCells, Nat.add_comm 1 i, tab_get _ _ _ h]
theorem bookCells_last (l l' : Int) (f : Nat → Int) : (bookCells l f).setIfInBounds 0 (.int .u64 l') = bookCells l' f := by
  simp [bookCells]
theorem bookCells_set (l : Int) (f : Nat → Int) (i : Nat) (x : Int) : (bookCells l f).setIfInBounds (1 + i) (.int .u64 x) = bookCells l (setF f i x) := by
  unfold setF
  simp only [bookCells, Nat.add_comm 1 i, List.setIfInBounds_toArray, List.set_cons_succ, tab_set]
  congr 2
  exact tab_congr _ _ _ fun j _ => by split <;> rfl
theorem bookCells_one (l : Int) (f : Nat → Int) : (bookCells l f).all (·.oneCell') = true := by
  rw [Array.all_eq_true_iff_forall_mem]
  intro x hx
  simp only [bookCells, tab, List.mem_toArray, List.mem_cons, List.mem_map] at hx
  rcases hx with rfl | ⟨i, _, rfl⟩ <;> rfl

theorem zero85 (x : Int) : Try.zeroCells85.setIfInBounds 0 (.int .u64 x) = bookCells x fun _ => 0 := by kernel_rfl
theorem new_any (last : Int) (w : World) :
    Calls Try.prog 45 #[.int .u64 last] w fun e w' => e = .returned (.pointer (some ⟨w.heap.size, 0, none⟩)) ∧ w.alloc (.cells (bookCells (min last 72057594037927935) fun _ => 0) 85) = w' := by
  go_enter Try.func45, Try.ntmps45
  go_wp2
  all_goals
    go_ret
    rw [zero85]
    refine ⟨rfl, ?_⟩
    congr 3
    omega

theorem now_any (g : Nat) (last : Int) (f : Nat → Int) (slot : Int) (w : World) (hb : Blk w g 85 (bookCells last f)) :
    Calls Try.prog 53 #[.pointer (some ⟨g, 0, none⟩), .int .i64 slot] w fun e w' => e = .returned (.int .u64 (nowI f slot)) ∧ w = w' := by
  by_cases h : placeB slot = true
  · obtain ⟨h3, h4⟩ := (place_iff slot).1 h
    obtain ⟨i, rfl⟩ := Int.eq_ofNat_of_zero_le h3
    have HP := Lib.hid h
    clear h
    have hc := hb.cell (1 + i)
    rw [bookCells_at _ _ i (by omega)] at hc
    go_enter Try.func53, Try.ntmps53
    go_wp2_with (go_at_call 66; refine (place_any _ _).mono ?_; rintro e w' ⟨rfl, rfl⟩; rw [HP.out])
    go_ret
    exact ⟨ret_int (by unfold nowI; rw [if_pos HP.out]; rfl), rfl⟩
  · have HP := Lib.hid (show placeB slot = false by simpa using h)
    clear h
    go_enter Try.func53, Try.ntmps53
    go_wp2_with (go_at_call 66; refine (place_any _ _).mono ?_; rintro e w' ⟨rfl, rfl⟩; rw [HP.out])
    go_ret
    exact ⟨ret_int (by unfold nowI; rw [HP.out]; rfl), rfl⟩
theorem now_nil (slot : Int) (w : World) : Calls Try.prog 53 #[.pointer none, .int .i64 slot] w fun e w' => e = .returned (.int .u64 0) ∧ w = w' := by
  go_enter Try.func53, Try.ntmps53
  go_wp2
  go_ret
  exact ⟨rfl, rfl⟩

theorem drop_any (g : Nat) (last : Int) (f : Nat → Int) (slot : Int) (w : World) (hb : Blk w g 85 (bookCells last f)) :
    Calls Try.prog 50 #[.pointer (some ⟨g, 0, none⟩), .int .i64 slot] w fun e w' => e = .returned (.tuple #[]) ∧ Blk w' g 85 (bookCells last (dropF f slot)) ∧ Ch [g] w w' := by
  by_cases h : placeB slot = true
  · obtain ⟨h3, h4⟩ := (place_iff slot).1 h
    obtain ⟨i, rfl⟩ := Int.eq_ofNat_of_zero_le h3
    have HP := Lib.hid h
    clear h
    have hc := hb.cell (1 + i)
    rw [bookCells_at _ _ i (by omega)] at hc
    have hf := hb.frozen (1 + i)
    go_enter Try.func50, Try.ntmps50
    go_wp2_with (go_at_call 66; refine (place_any _ _).mono ?_; rintro e w' ⟨rfl, rfl⟩; rw [HP.out])
    go_end0
    refine ⟨rfl, ?_, (Ch.refl _ _).st (by simp) _⟩
    have := hb.st (1 + i) (.int .u64 0)
    rw [bookCells_set] at this
    unfold dropF
    rw [if_pos HP.out]
    exact this
  · have HP := Lib.hid (show placeB slot = false by simpa using h)
    clear h
    go_enter Try.func50, Try.ntmps50
    go_wp2_with (go_at_call 66; refine (place_any _ _).mono ?_; rintro e w' ⟨rfl, rfl⟩; rw [HP.out])
    go_end0
    exact ⟨rfl, by unfold dropF; rw [HP.out]; exact hb, Ch.refl _ _⟩
theorem drop_nil (slot : Int) (w : World) : Calls Try.prog 50 #[.pointer none, .int .i64 slot] w fun e w' => e = .returned (.tuple #[]) ∧ w = w' := by
  go_enter Try.func50, Try.ntmps50
  go_wp2
  go_end0
  exact ⟨rfl, rfl⟩

/-- Next: the place's next word, and the book behind it. -/
def nextOk (last slot : Int) : Bool := goodB (last + 1) slot
theorem next_yes (g : Nat) (last : Int) (f : Nat → Int) (slot : Int) (w : World) (hb : Blk w g 85 (bookCells last f)) (h0 : 0 ≤ last) (h1 : last ≤ 72057594037927935) (h : goodB (last + 1) slot = true) :
    Calls Try.prog 46 #[.pointer (some ⟨g, 0, none⟩), .int .i64 slot] w fun e w' => e = .returned (.tuple #[.int .u64 (wordI (last + 1) slot), .bool true]) ∧
      Blk w' g 85 (bookCells (last + 1) (setF f slot.toNat (wordI (last + 1) slot))) ∧ Ch [g] w w' := by
  obtain ⟨h1, h2, h3, h4⟩ := (good_iff _ _).1 h
  have CW := fun w => word_any (last + 1) slot w (by omega) (by omega)
  rw [h] at CW
  have CW' := Lib.hid CW
  clear CW h
  obtain ⟨i, rfl⟩ := Int.eq_ofNat_of_zero_le h3
  have hc := hb.cell 0
  rw [bookCells_0] at hc
  generalize wordI (last + 1) (i : Int) = q at *
  go_enter Try.func46, Try.ntmps46
  go_wp2_with fail
  refine (CW'.out _).mono ?_
  rintro e w1 ⟨rfl, g1⟩
  have hb1 := hb.gr g1
  have hc1 := hb1.cell 0
  rw [bookCells_0] at hc1
  have hf0 := hb1.frozen 0
  have hb2 := hb1.st 0 (.int .u64 (last + 1))
  rw [bookCells_last] at hb2
  have hc2 := hb2.cell (1 + i)
  rw [bookCells_at _ _ i (by omega)] at hc2
  have hf2 := hb2.frozen (1 + i)
  have hb3 := hb2.st (1 + i) (.int .u64 q)
  rw [bookCells_set] at hb3
  have HB3 := Lib.hid hb3
  clear hb3 hc
  go_wp2
  go_ret2
  exact ⟨rfl, HB3.out, ((g1.ch _).st (by simp) _).st (by simp) _⟩
theorem next_no (g : Nat) (last : Int) (f : Nat → Int) (slot : Int) (w : World) (hb : Blk w g 85 (bookCells last f)) (h0 : 0 ≤ last) (h1 : last ≤ 72057594037927935) (h : goodB (last + 1) slot = false) :
    Calls Try.prog 46 #[.pointer (some ⟨g, 0, none⟩), .int .i64 slot] w fun e w' => e = .returned (.tuple #[.int .u64 0, .bool false]) ∧ Gr w w' := by
  have CW := fun w => word_any (last + 1) slot w (by omega) (by omega)
  rw [h] at CW
  have CW' := Lib.hid CW
  clear CW h
  have hc := hb.cell 0
  rw [bookCells_0] at hc
  generalize wordI (last + 1) slot = q at *
  go_enter Try.func46, Try.ntmps46
  go_wp2_with fail
  refine (CW'.out _).mono ?_
  rintro e w1 ⟨rfl, g1⟩
  go_wp2
  go_ret2
  exact ⟨rfl, g1⟩
theorem next_nil (slot : Int) (w : World) : Calls Try.prog 46 #[.pointer none, .int .i64 slot] w fun e w' => e = .returned (.tuple #[.int .u64 0, .bool false]) ∧ w = w' := by
  go_enter Try.func46, Try.ntmps46
  go_wp2
  go_ret2
  exact ⟨rfl, rfl⟩
end Go.Proofs.Ytbbhhlnbjgigaaa
