/- Contracts of the functions of chapter 6 (tag) that chapter 29 (book) calls, and of the document's. -/
import Derived.Test.YtkkobbomipcpoaaKit10
import Derived.Test.YtkkobbomipcpoaaProg
import Derived.Laws.Bits64b
namespace Go.Proofs.Ytkkobbomipcpoaa
open Go.RowKit
set_option linter.unusedVariables false

namespace TagP
def L : Int := 72057594037927935
def placeB (x : Int) : Bool := decide (0 ≤ x) && decide (x < 64)
def goodB (s x : Int) : Bool := decide (1 ≤ s) && decide (s ≤ 72057594037927935) && placeB x
def wordI (s x : Int) : Int := if goodB s x then s * 256 + x else 0
theorem place_iff (x : Int) : placeB x = true ↔ 0 ≤ x ∧ x < 64 := by simp [placeB]
theorem good_iff (s x : Int) : goodB s x = true ↔ 1 ≤ s ∧ s ≤ 72057594037927935 ∧ 0 ≤ x ∧ x < 64 := by simp [goodB, placeB, and_assoc]
def nowI (f : Nat → Int) (slot : Int) : Int := if placeB slot then f slot.toNat else 0
def setF (f : Nat → Int) (i : Nat) (x : Int) : Nat → Int := fun j => if j = i then x else f j
def dropF (f : Nat → Int) (slot : Int) : Nat → Int := if placeB slot then setF f slot.toNat 0 else f
end TagP
open TagP

theorem place_any (x : Int) (w : World) : Calls Try.prog 113 #[.int .i64 x] w fun e w' => e = .returned (.bool (placeB x)) ∧ w = w' := by
  go_enter Try.func113, Try.ntmps113
  go_wp2
  all_goals go_ret
  all_goals (refine ⟨ret_bool ?_, rfl⟩; unfold placeB; simp_all; try omega)

theorem cast_word (s x : Nat) : ((s * 256 + x : Nat) : Int) = (s : Int) * 256 + x := by omega
theorem cast_mul256 (s : Nat) : ((s * 256 : Nat) : Int) = (s : Int) * 256 := by omega
theorem or_word (s x : Nat) (hs : s ≤ 72057594037927935) (hx : x < 64) : bits .or .u64 ((s : Int) * 256) (x : Int) = (s : Int) * 256 + x := by
  have h := bits_or_u64_nat (s * 256) x (by omega) (by omega)
  have e : (s * 256) ||| x = s * 256 + x := by
    have := Nat.shiftLeft_add_eq_or_of_lt (show x < 2 ^ 8 by omega) s
    rw [Nat.shiftLeft_eq, show (2 : Nat) ^ 8 = 256 from rfl] at this
    exact this.symm
  rw [e] at h
  rw [cast_mul256, cast_word] at h
  exact h

theorem word_any (s x : Int) (w : World) (hs0 : 0 ≤ s) (hs1 : s ≤ 18446744073709551615) :
    Calls Try.prog 114 #[.agg #[.int .u64 s, .int .i64 x]] w fun e w' => e = .returned (.tuple #[.int .u64 (wordI s x), .bool (goodB s x)]) ∧ Gr w w' := by
  by_cases h : goodB s x = true
  · obtain ⟨h1, h2, h3, h4⟩ := (good_iff s x).1 h
    have HP := Lib.hid ((place_iff x).2 ⟨h3, h4⟩)
    have HW := Lib.hid (show wordI s x = s * 256 + x by unfold wordI; rw [if_pos h])
    have HG := Lib.hid h
    clear h
    obtain ⟨sn, rfl⟩ := Int.eq_ofNat_of_zero_le hs0
    obtain ⟨xn, rfl⟩ := Int.eq_ofNat_of_zero_le h3
    have HO := or_word sn xn (by omega) (by omega)
    go_enter Try.func114, Try.ntmps114
    go_wp2_with (go_at_call 113; refine (place_any _ _).mono ?_; rintro e w' ⟨rfl, rfl⟩; rw [HP.out])
    go_ret2
    rw [HW.out, HG.out]
    exact ⟨rfl, (Gr.refl _).al _⟩
  · have h' : goodB s x = false := by simpa using h
    have HW := Lib.hid (show wordI s x = 0 by unfold wordI; rw [if_neg h])
    have HG := Lib.hid h'
    have hc : s < 1 ∨ 72057594037927935 < s ∨ (1 ≤ s ∧ s ≤ 72057594037927935 ∧ placeB x = false) := by
      by_cases a1 : s < 1
      · exact .inl a1
      · by_cases a2 : 72057594037927935 < s
        · exact .inr (.inl a2)
        · refine .inr (.inr ⟨by omega, by omega, ?_⟩)
          unfold goodB at h'
          simp at h'
          have := h' (by omega) (by omega)
          simpa using this
    clear h h'
    rcases hc with h | h | ⟨h1, h2, h⟩
    · go_enter Try.func114, Try.ntmps114
      go_wp2
      go_ret2
      rw [HW.out, HG.out]
      exact ⟨rfl, (Gr.refl _).al _⟩
    · have h1 : ¬ s < 1 := by omega
      go_enter Try.func114, Try.ntmps114
      go_wp2
      go_ret2
      rw [HW.out, HG.out]
      exact ⟨rfl, (Gr.refl _).al _⟩
    · have HP := Lib.hid h
      clear h
      go_enter Try.func114, Try.ntmps114
      go_wp2_with (go_at_call 113; refine (place_any _ _).mono ?_; rintro e w' ⟨rfl, rfl⟩; rw [HP.out])
      go_ret2
      rw [HW.out, HG.out]
      exact ⟨rfl, (Gr.refl _).al _⟩

theorem rword_any (s x : Int) (w : World) (h : goodB s x = true) : Calls Try.prog 117 #[.int .u64 s, .int .i64 x] w fun e w' => e = .returned (.int .u64 (wordI s x)) ∧ w = w' := by
  obtain ⟨h1, h2, h3, h4⟩ := (good_iff s x).1 h
  have HW := Lib.hid (show wordI s x = s * 256 + x by unfold wordI; rw [if_pos h])
  clear h
  go_enter Try.func117, Try.ntmps117
  go_wp2
  go_ret
  exact ⟨ret_int (by rw [HW.out]), rfl⟩

theorem and255N (u : Nat) (h : u < 18446744073709551616) : bits .and .u64 (u : Int) 255 = ((u % 256 : Nat) : Int) := by
  have := bits_and_u64_nat u 255 h (by omega)
  rw [show u &&& 255 = u % 256 from Nat.and_two_pow_sub_one_eq_mod u 8] at this
  exact this
theorem and255 (u : Int) (h0 : 0 ≤ u) (h1 : u ≤ 18446744073709551615) : bits .and .u64 u 255 = u % 256 := by
  obtain ⟨n, rfl⟩ := Int.eq_ofNat_of_zero_le h0
  rw [and255N n (by omega)]
  rfl

theorem of_yes (u : Int) (w : World) (h0 : 0 ≤ u) (h1 : u ≤ 18446744073709551615) (h : goodB (u / 256) (u % 256) = true) :
    Calls Try.prog 115 #[.int .u64 u] w fun e w' => e = .returned (.tuple #[.agg #[.int .u64 (u / 256), .int .i64 (u % 256)], .bool true]) ∧ Gr w w' := by
  have hw := fun w => word_any (u / 256) (u % 256) w (by omega) (by omega)
  rw [h, show wordI (u / 256) (u % 256) = u by unfold wordI; rw [if_pos h]; omega] at hw
  have HW := Lib.hid hw
  clear hw h
  have ha := and255 u h0 h1
  have hm : 0 ≤ u % 256 ∧ u % 256 ≤ 255 := by omega
  go_enter Try.func115, Try.ntmps115
  go_wp2_with fail
  refine (HW.out _).mono ?_
  rintro e w1 ⟨rfl, g1⟩
  obtain ⟨b0, b1, g2⟩ := g1.new2
  obtain ⟨c0, c1, f0⟩ := b0.c2
  obtain ⟨d0, d1, f1⟩ := b1.c2
  have hlt := b1.lt
  clear g1
  go_wp2
  exact bodyPost_ret (v := .tuple #[.agg #[.int .u64 (u / 256), .int .i64 (u % 256)], .bool true]) (by simp [results, Try.results115, go_sem, c0, c1]) rfl ⟨rfl, (g2.st (Nat.le_refl _) _).st (Nat.le_refl _) _⟩
theorem of_no (u : Int) (w : World) (h0 : 0 ≤ u) (h1 : u ≤ 18446744073709551615) (h : goodB (u / 256) (u % 256) = false) :
    Calls Try.prog 115 #[.int .u64 u] w fun e w' => e = .returned (.tuple #[.agg #[.int .u64 0, .int .i64 0], .bool false]) ∧ Gr w w' := by
  have hw := fun w => word_any (u / 256) (u % 256) w (by omega) (by omega)
  rw [h] at hw
  have HW := Lib.hid hw
  clear hw h
  have ha := and255 u h0 h1
  have hm : 0 ≤ u % 256 ∧ u % 256 ≤ 255 := by omega
  go_enter Try.func115, Try.ntmps115
  go_wp2_with fail
  refine (HW.out _).mono ?_
  rintro e w1 ⟨rfl, g1⟩
  obtain ⟨b0, b1, g2⟩ := g1.new2
  obtain ⟨c0, c1, f0⟩ := b0.c2
  obtain ⟨d0, d1, f1⟩ := b1.c2
  have hlt := b1.lt
  clear g1
  generalize wordI (u / 256) (u % 256) = q
  go_wp2
  exact bodyPost_ret (v := .tuple #[.agg #[.int .u64 0, .int .i64 0], .bool false]) (by simp [results, Try.results115, go_sem, c0, c1]) rfl ⟨rfl, (g2.st (Nat.le_refl _) _).st (Nat.le_refl _) _⟩

/-- A book's cells: the last stamp, and each place's number. -/
def bookCells (last : Int) (f : Nat → Int) : Array Value := (Value.int .u64 last :: tab 64 fun i => Value.int .u64 (f i)).toArray
theorem bookCells_size (l : Int) (f : Nat → Int) : (bookCells l f).size = 65 := by simp [bookCells, tab_length]
theorem bookCells_0 (l : Int) (f : Nat → Int) : (bookCells l f)[0]? = some (.int .u64 l) := by simp [bookCells]
theorem bookCells_at (l : Int) (f : Nat → Int) (i : Nat) (h : i < 64) : (bookCells l f)[1 + i]? = some (.int .u64 (f i)) := by
  simp [bookCells, Nat.add_comm 1 i, tab_get _ _ _ h]
theorem bookCells_last (l l' : Int) (f : Nat → Int) : (bookCells l f).setIfInBounds 0 (.int .u64 l') = bookCells l' f := by
  simp [bookCells]
theorem bookCells_set (l : Int) (f : Nat → Int) (i : Nat) (x : Int) : (bookCells l f).setIfInBounds (1 + i) (.int .u64 x) = bookCells l (setF f i x) := by
  unfold setF
  simp only [bookCells, Nat.add_comm 1 i, List.setIfInBounds_toArray, List.set_cons_succ, tab_set]
  congr 2
  exact tab_congr _ _ _ fun j _ => by split <;> rfl
theorem bookCells_one (l : Int) (f : Nat → Int) : (bookCells l f).all (·.oneCell') = true := by
  rw [Array.all_eq_true_iff_forall_mem]
  intro x hx
  simp only [bookCells, tab, List.mem_toArray, List.mem_cons, List.mem_map] at hx
  rcases hx with rfl | ⟨i, _, rfl⟩ <;> rfl

theorem zero136 (x : Int) : Try.zeroCells136.setIfInBounds 0 (.int .u64 x) = bookCells x fun _ => 0 := by kernel_rfl
theorem new_any (last : Int) (w : World) :
    Calls Try.prog 97 #[.int .u64 last] w fun e w' => e = .returned (.pointer (some ⟨w.heap.size, 0, none⟩)) ∧ w.alloc (.cells (bookCells (min last 72057594037927935) fun _ => 0) 136) = w' := by
  go_enter Try.func97, Try.ntmps97
  go_wp2
  all_goals
    go_ret
    rw [zero136]
    refine ⟨rfl, ?_⟩
    congr 3
    omega

theorem now_any (g : Nat) (last : Int) (f : Nat → Int) (slot : Int) (w : World) (hb : Blk w g 136 (bookCells last f)) :
    Calls Try.prog 105 #[.pointer (some ⟨g, 0, none⟩), .int .i64 slot] w fun e w' => e = .returned (.int .u64 (nowI f slot)) ∧ w = w' := by
  by_cases h : placeB slot = true
  · obtain ⟨h3, h4⟩ := (place_iff slot).1 h
    obtain ⟨i, rfl⟩ := Int.eq_ofNat_of_zero_le h3
    have HP := Lib.hid h
    clear h
    have hc := hb.cell (1 + i)
    rw [bookCells_at _ _ i (by omega)] at hc
    go_enter Try.func105, Try.ntmps105
    go_wp2_with (go_at_call 113; refine (place_any _ _).mono ?_; rintro e w' ⟨rfl, rfl⟩; rw [HP.out])
    go_ret
    exact ⟨ret_int (by unfold nowI; rw [if_pos HP.out]; rfl), rfl⟩
  · have HP := Lib.hid (show placeB slot = false by simpa using h)
    clear h
    go_enter Try.func105, Try.ntmps105
    go_wp2_with (go_at_call 113; refine (place_any _ _).mono ?_; rintro e w' ⟨rfl, rfl⟩; rw [HP.out])
    go_ret
    exact ⟨ret_int (by unfold nowI; rw [HP.out]; rfl), rfl⟩
theorem now_nil (slot : Int) (w : World) : Calls Try.prog 105 #[.pointer none, .int .i64 slot] w fun e w' => e = .returned (.int .u64 0) ∧ w = w' := by
  go_enter Try.func105, Try.ntmps105
  go_wp2
  go_ret
  exact ⟨rfl, rfl⟩

theorem drop_any (g : Nat) (last : Int) (f : Nat → Int) (slot : Int) (w : World) (hb : Blk w g 136 (bookCells last f)) :
    Calls Try.prog 99 #[.pointer (some ⟨g, 0, none⟩), .int .i64 slot] w fun e w' => e = .returned (.tuple #[]) ∧ Blk w' g 136 (bookCells last (dropF f slot)) ∧ Ch [g] w w' := by
  by_cases h : placeB slot = true
  · obtain ⟨h3, h4⟩ := (place_iff slot).1 h
    obtain ⟨i, rfl⟩ := Int.eq_ofNat_of_zero_le h3
    have HP := Lib.hid h
    clear h
    have hc := hb.cell (1 + i)
    rw [bookCells_at _ _ i (by omega)] at hc
    have hf := hb.frozen (1 + i)
    go_enter Try.func99, Try.ntmps99
    go_wp2_with (go_at_call 113; refine (place_any _ _).mono ?_; rintro e w' ⟨rfl, rfl⟩; rw [HP.out])
    go_end0
    refine ⟨rfl, ?_, (Ch.refl _ _).st (by simp) _⟩
    have := hb.st (1 + i) (.int .u64 0)
    rw [bookCells_set] at this
    unfold dropF
    rw [if_pos HP.out]
    exact this
  · have HP := Lib.hid (show placeB slot = false by simpa using h)
    clear h
    go_enter Try.func99, Try.ntmps99
    go_wp2_with (go_at_call 113; refine (place_any _ _).mono ?_; rintro e w' ⟨rfl, rfl⟩; rw [HP.out])
    go_end0
    exact ⟨rfl, by unfold dropF; rw [HP.out]; exact hb, Ch.refl _ _⟩
theorem drop_nil (slot : Int) (w : World) : Calls Try.prog 99 #[.pointer none, .int .i64 slot] w fun e w' => e = .returned (.tuple #[]) ∧ w = w' := by
  go_enter Try.func99, Try.ntmps99
  go_wp2
  go_end0
  exact ⟨rfl, rfl⟩

/-- Next: the place's next word, and the book behind it. -/
def nextOk (last slot : Int) : Bool := goodB (last + 1) slot
theorem next_yes (g : Nat) (last : Int) (f : Nat → Int) (slot : Int) (w : World) (hb : Blk w g 136 (bookCells last f)) (h0 : 0 ≤ last) (h1 : last ≤ 72057594037927935) (h : goodB (last + 1) slot = true) :
    Calls Try.prog 103 #[.pointer (some ⟨g, 0, none⟩), .int .i64 slot] w fun e w' => e = .returned (.tuple #[.int .u64 (wordI (last + 1) slot), .bool true]) ∧
      Blk w' g 136 (bookCells (last + 1) (setF f slot.toNat (wordI (last + 1) slot))) ∧ Ch [g] w w' := by
  obtain ⟨h1, h2, h3, h4⟩ := (good_iff _ _).1 h
  have CW := fun w => word_any (last + 1) slot w (by omega) (by omega)
  rw [h] at CW
  have CW' := Lib.hid CW
  clear CW h
  obtain ⟨i, rfl⟩ := Int.eq_ofNat_of_zero_le h3
  have hc := hb.cell 0
  rw [bookCells_0] at hc
  generalize wordI (last + 1) (i : Int) = q at *
  go_enter Try.func103, Try.ntmps103
  go_wp2_with fail
  refine (CW'.out _).mono ?_
  rintro e w1 ⟨rfl, g1⟩
  have hb1 := hb.gr g1
  have hc1 := hb1.cell 0
  rw [bookCells_0] at hc1
  have hf0 := hb1.frozen 0
  have hb2 := hb1.st 0 (.int .u64 (last + 1))
  rw [bookCells_last] at hb2
  have hc2 := hb2.cell (1 + i)
  rw [bookCells_at _ _ i (by omega)] at hc2
  have hf2 := hb2.frozen (1 + i)
  have hb3 := hb2.st (1 + i) (.int .u64 q)
  rw [bookCells_set] at hb3
  have HB3 := Lib.hid hb3
  clear hb3 hc
  go_wp2
  go_ret2
  exact ⟨rfl, HB3.out, ((g1.ch _).st (by simp) _).st (by simp) _⟩
theorem next_no (g : Nat) (last : Int) (f : Nat → Int) (slot : Int) (w : World) (hb : Blk w g 136 (bookCells last f)) (h0 : 0 ≤ last) (h1 : last ≤ 72057594037927935) (h : goodB (last + 1) slot = false) :
    Calls Try.prog 103 #[.pointer (some ⟨g, 0, none⟩), .int .i64 slot] w fun e w' => e = .returned (.tuple #[.int .u64 0, .bool false]) ∧ Gr w w' := by
  have CW := fun w => word_any (last + 1) slot w (by omega) (by omega)
  rw [h] at CW
  have CW' := Lib.hid CW
  clear CW h
  have hc := hb.cell 0
  rw [bookCells_0] at hc
  generalize wordI (last + 1) slot = q at *
  go_enter Try.func103, Try.ntmps103
  go_wp2_with fail
  refine (CW'.out _).mono ?_
  rintro e w1 ⟨rfl, g1⟩
  go_wp2
  go_ret2
  exact ⟨rfl, g1⟩
theorem next_nil (slot : Int) (w : World) : Calls Try.prog 103 #[.pointer none, .int .i64 slot] w fun e w' => e = .returned (.tuple #[.int .u64 0, .bool false]) ∧ w = w' := by
  go_enter Try.func103, Try.ntmps103
  go_wp2
  go_ret2
  exact ⟨rfl, rfl⟩

theorem live_bad (p : Option Addr) (u : Int) (w : World) (h0 : 0 ≤ u) (h1 : u ≤ 18446744073709551615) (h : goodB (u / 256) (u % 256) = false) :
    Calls Try.prog 104 #[.pointer p, .int .u64 u] w fun e w' => e = .returned (.tuple #[.int .i64 0, .bool false]) ∧ Gr w w' := by
  have C := Lib.hid (fun w => of_no u w h0 h1 h)
  clear h
  go_enter Try.func104, Try.ntmps104
  go_wp2_with fail
  refine (C.out _).mono ?_
  rintro e w1 ⟨rfl, g1⟩
  go_wp2
  go_ret2
  exact ⟨rfl, g1.al _⟩

theorem live_nil (u : Int) (w : World) (h0 : 0 ≤ u) (h1 : u ≤ 18446744073709551615) :
    Calls Try.prog 104 #[.pointer none, .int .u64 u] w fun e w' => e = .returned (.tuple #[.int .i64 0, .bool false]) ∧ Gr w w' := by
  by_cases h : goodB (u / 256) (u % 256) = true
  · have C := Lib.hid (fun w => of_yes u w h0 h1 h)
    have hu : ¬ u = 0 := by have := (good_iff _ _).1 h; omega
    have hu' : ((0 : Int) == u) = false := by simp; omega
    have hu2 : ((0 : Int) != u) = true := by simp; omega
    clear h hu
    go_enter Try.func104, Try.ntmps104
    go_wp2_with fail
    refine (C.out _).mono ?_
    rintro e w1 ⟨rfl, g1⟩
    go_wp2_with (go_at_call 105; refine (now_nil _ _).mono ?_; rintro e w' ⟨rfl, rfl⟩)
    go_ret2
    exact ⟨rfl, g1.al _⟩
  · exact live_bad none u w h0 h1 (by simpa using h)

theorem live_no (g : Nat) (last : Int) (f : Nat → Int) (u : Int) (w : World) (hb : Blk w g 136 (bookCells last f)) (h0 : 0 ≤ u) (h1 : u ≤ 18446744073709551615)
    (h : goodB (u / 256) (u % 256) = true) (hne : f (u % 256).toNat ≠ u) :
    Calls Try.prog 104 #[.pointer (some ⟨g, 0, none⟩), .int .u64 u] w fun e w' => e = .returned (.tuple #[.int .i64 0, .bool false]) ∧ Gr w w' := by
  have C := Lib.hid (fun w => of_yes u w h0 h1 h)
  have HN := Lib.hid (show nowI f (u % 256) = f (u % 256).toNat by unfold nowI; rw [if_pos ((place_iff _).2 (by have := (good_iff _ _).1 h; omega))])
  have hne' : (f (u % 256).toNat == u) = false := by simpa using hne
  have hne2 : (f (u % 256).toNat != u) = true := by simpa using hne
  clear h hne
  go_enter Try.func104, Try.ntmps104
  go_wp2_with fail
  refine (C.out _).mono ?_
  rintro e w1 ⟨rfl, g1⟩
  have hb1 := hb.gr g1
  go_wp2_with (go_at_call 105; refine (now_any g last f _ _ (hb1.al _)).mono ?_; rintro e w' ⟨rfl, rfl⟩; rw [HN.out])
  go_ret2
  exact ⟨rfl, g1.al _⟩

theorem live_yes (g : Nat) (last : Int) (f : Nat → Int) (u : Int) (w : World) (hb : Blk w g 136 (bookCells last f)) (h0 : 0 ≤ u) (h1 : u ≤ 18446744073709551615)
    (h : goodB (u / 256) (u % 256) = true) (heq : f (u % 256).toNat = u) :
    Calls Try.prog 104 #[.pointer (some ⟨g, 0, none⟩), .int .u64 u] w fun e w' => e = .returned (.tuple #[.int .i64 (u % 256), .bool true]) ∧ Gr w w' := by
  have C := Lib.hid (fun w => of_yes u w h0 h1 h)
  have HN := Lib.hid (show nowI f (u % 256) = u by unfold nowI; rw [if_pos ((place_iff _).2 (by have := (good_iff _ _).1 h; omega)), heq])
  clear h heq
  go_enter Try.func104, Try.ntmps104
  go_wp2_with fail
  refine (C.out _).mono ?_
  rintro e w1 ⟨rfl, g1⟩
  have hb1 := hb.gr g1
  go_wp2_with fail
  refine (now_any g last f _ _ (hb1.al _)).mono ?_
  rintro e w' ⟨rfl, rfl⟩
  rw [HN.out]
  go_wp2_with fail
  refine (now_any g last f _ _ (hb1.al _)).mono ?_
  rintro e w' ⟨rfl, rfl⟩
  rw [HN.out]
  go_wp2_with fail
  refine (C.out _).mono ?_
  rintro e w2 ⟨rfl, g2⟩
  obtain ⟨b0, g3⟩ := g2.new1
  obtain ⟨c0, c1, f0⟩ := b0.c2
  have hlt := b0.lt
  clear g2
  go_wp2
  go_quiet (fail)
  go_wp2
  go_ret2
  exact ⟨by simp, (((g1.tr g3).al _).drewN _)⟩


theorem info123 (l : Int) (f : Nat → Int) : (Try.prog.info? 123).map (·.size) = some (bookCells l f).size := by rw [bookCells_size]; kernel_rfl
theorem zero123 (x : Int) : Try.zeroCells123.setIfInBounds 0 (.int .u64 x) = bookCells x fun _ => 0 := by kernel_rfl
theorem wp_ld123 {d : Option Tmp} {x : Tmp} {ty' : TypeId} {p : String} {af : Array Edge} {gd : Option (Nat × Bool)} {a : Act} {w : World} {K : Act → World → Prop} {Q : Exit → Act → World → Prop}
    (h0 : isPtr0 (a.eval (.tmp x)) = true) (h : HasRow w (ptrBlk (a.eval (.tmp x))) 65) : Oper.wp Try.prog ⟨d, .load 123 (.tmp x), ty', p, af, gd⟩ a w K Q = K (a.put d (.agg (rowOf w (ptrBlk (a.eval (.tmp x)))))) w :=
  wp_ldRow Try.underlying123 rfl (by kernel_rfl) h0 h
attribute [local go_sem ↓] wp_ld123
theorem zsize123 : Try.zeroCells123.size = 65 := by kernel_rfl
section
variable {ops : Array Oper} {rest : List Oper} {o : Oper} {a : Act} {w : World} {Q : Exit → Act → World → Prop}
theorem ld123 (x : Operand) (g : Nat) (l : Int) (f : Nat → Int) (hw : Region.wanted o (yielded ops a.tmps) = true) (ho : o.op = .load 123 x) (hx : a.eval x = .pointer (some ⟨g, 0, none⟩)) (hb : Blk w g 123 (bookCells l f))
    (h : wpList Try.prog ops Q rest (a.put o.dst (.agg (bookCells l f))) w) : wpList Try.prog ops Q (o :: rest) a w :=
  wpList_ldW 123 x g 123 _ _ hw ho hx hb Try.underlying123 rfl (info123 l f) h
theorem st123 (x y : Operand) (g : Nat) (old cs : Array Value) (l : Int) (f : Nat → Int) (hcs : cs = bookCells l f) (hos : old.size = 65) (hw : Region.wanted o (yielded ops a.tmps) = true) (ho : o.op = .store 123 x y)
    (hx : a.eval x = .pointer (some ⟨g, 0, none⟩)) (hy : a.eval y = .agg cs) (hb : Blk w g 123 old)
    (h : ∀ w', Blk w' g 123 (bookCells l f) → Ch [g] w w' → wpList Try.prog ops Q rest (a.put o.dst undef) w') : wpList Try.prog ops Q (o :: rest) a w := by
  subst hcs
  exact wpList_stW 123 x y g 123 old _ hw ho hx hy hb (info123 l f) (by rw [hos, bookCells_size]) (bookCells_one l f) h
end

theorem results_agg123 {fn : Func} {p : Tmp} (h : fn.results = #[.cell p 123]) (tmps : Array Value) (w : World) (g : Nat) (l : Int) (f : Nat → Int) (hp : tmps.getD p undef = .pointer (some ⟨g, 0, none⟩)) (hb : Blk w g 123 (bookCells l f)) :
    (results fn tmps).run Try.prog w = .ok (.agg (bookCells l f)) w := results_cell_row h tmps w g 123 _ (0, 0) _ hp hb Try.underlying123 rfl (info123 l f)
theorem results_agg123_2 {fn : Func} {p t : Tmp} (h : fn.results = #[.cell p 123, .tmp t]) (tmps : Array Value) (w : World) (g : Nat) (l : Int) (f : Nat → Int) (hp : tmps.getD p undef = .pointer (some ⟨g, 0, none⟩)) (hb : Blk w g 123 (bookCells l f)) :
    (results fn tmps).run Try.prog w = .ok (.tuple #[.agg (bookCells l f), tmps.getD t undef]) w := by
  have hp' : tmps[p]?.getD undef = .pointer (some ⟨g, 0, none⟩) := by simpa using hp
  simp [results, h, hp', asAddr, run_loadVar_row w g 123 123 (bookCells l f) (0, 0) _ hb Try.underlying123 rfl (info123 l f)]

/-- The reference's Next. -/
theorem rnext_no (last : Int) (of : Nat → Int) (slot : Int) (w : World) (h : ¬ (0 ≤ slot ∧ slot < 64 ∧ last < 72057594037927935)) (h1 : last ≤ 72057594037927935) :
    Calls Try.prog 116 #[.agg (bookCells last of), .int .i64 slot] w fun e w' => e = .returned (.tuple #[.agg (bookCells last of), .int .u64 0]) ∧ Gr w w' := by
  have HB := Lib.hid ((Blk.new w 123 (bookCells last of)).al (.cells Try.zeroCells123 123))
  have HZ := Lib.hid (Blk.new (w.alloc (.cells (bookCells last of) 123)) 123 Try.zeroCells123)
  have hc := HB.out.cell 0
  rw [bookCells_0] at hc
  have hcase : slot < 0 ∨ (0 ≤ slot ∧ 63 < slot) ∨ (0 ≤ slot ∧ slot ≤ 63 ∧ last = 72057594037927935) := by omega
  clear h
  rcases hcase with h | ⟨h, h'⟩ | ⟨h, h', h3⟩
  · go_enter Try.func116, Try.ntmps116
    go_wp2_with (first | (refine ld123 (.tmp 2) w.heap.size last of rfl rfl rfl HB.out ?_) | (refine st123 (.tmp 4) (.tmp 17) (w.heap.size + 1) _ _ last of rfl zsize123 rfl rfl rfl rfl (by simpa using HZ.out) ?_))
    intro w1 hb1 hc1
    go_wp2
    refine bodyPost_ret (results_agg123_2 rfl _ _ _ _ _ rfl hb1) rfl ⟨rfl, (((Gr.refl w).al _).al _).chs hc1 (by simp)⟩
  · have h2 : decide (slot < 0) = false := by simp; omega
    go_enter Try.func116, Try.ntmps116
    go_wp2_with (first | (refine ld123 (.tmp 2) w.heap.size last of rfl rfl rfl HB.out ?_) | (refine st123 (.tmp 4) (.tmp 17) (w.heap.size + 1) _ _ last of rfl zsize123 rfl rfl rfl rfl (by simpa using HZ.out) ?_))
    intro w1 hb1 hc1
    go_wp2
    refine bodyPost_ret (results_agg123_2 rfl _ _ _ _ _ rfl hb1) rfl ⟨rfl, (((Gr.refl w).al _).al _).chs hc1 (by simp)⟩
  · have h2 : decide (slot < 0) = false := by simp; omega
    have h4 : decide (63 < slot) = false := by simp; omega
    have h5 : (last == 72057594037927935) = true := by simpa using h3
    have H3 := Lib.hid h3
    clear h3
    go_enter Try.func116, Try.ntmps116
    go_wp2_with (first | (refine ld123 (.tmp 2) w.heap.size last of rfl rfl rfl HB.out ?_) | (refine st123 (.tmp 4) (.tmp 17) (w.heap.size + 1) _ _ last of rfl zsize123 rfl rfl rfl rfl (by simpa using HZ.out) ?_))
    intro w1 hb1 hc1
    go_wp2
    refine bodyPost_ret (results_agg123_2 rfl _ _ _ _ _ rfl hb1) rfl ⟨rfl, (((Gr.refl w).al _).al _).chs hc1 (by simp)⟩

theorem rnext_yes (last : Int) (of : Nat → Int) (slot : Int) (w : World) (h : 0 ≤ slot ∧ slot < 64 ∧ last < 72057594037927935) (h1 : 0 ≤ last) :
    Calls Try.prog 116 #[.agg (bookCells last of), .int .i64 slot] w fun e w' => e = .returned (.tuple #[.agg (bookCells (last + 1) (setF of slot.toNat (last + 1))), .int .u64 (wordI (last + 1) slot)]) ∧ Gr w w' := by
  obtain ⟨h0, h64, hlast⟩ := h
  have HW := Lib.hid (fun w => rword_any (last + 1) slot w ((good_iff _ _).2 ⟨by omega, by omega, h0, h64⟩))
  obtain ⟨i, rfl⟩ := Int.eq_ofNat_of_zero_le h0
  have hb := (Blk.new w 123 (bookCells last of)).al (.cells Try.zeroCells123 123)
  have hz := Blk.new (w.alloc (.cells (bookCells last of) 123)) 123 Try.zeroCells123
  rw [World.size_alloc] at hz
  have hgr : Gr w ((w.alloc (.cells (bookCells last of) 123)).alloc (.cells Try.zeroCells123 123)) := ((Gr.refl w).al _).al _
  go_enter Try.func116, Try.ntmps116
  go_upto_region 1 with fail
  generalize (w.alloc (.cells (bookCells last of) 123)).alloc (.cells Try.zeroCells123 123) = W at *
  have hc := hb.cell 0
  rw [bookCells_0] at hc
  have hf0 := hb.frozen 0
  have hb2 := hb.st 0 (.int .u64 (last + 1))
  rw [bookCells_last] at hb2
  have hc2 := hb2.cell (1 + i)
  rw [bookCells_at _ _ i (by omega)] at hc2
  have hc3 := hb2.cell 0
  rw [bookCells_0] at hc3
  have hf2 := hb2.frozen (1 + i)
  have hb3 := hb2.st (1 + i) (.int .u64 (last + 1))
  rw [bookCells_set] at hb3
  have h2 : decide ((i : Int) < 0) = false := by simp
  have h4 : decide (63 < (i : Int)) = false := by simp; omega
  have h5 : (last == 72057594037927935) = false := by simp; omega
  go_upto_region 5 with fail
  have hz3 := (hz.far (p := ⟨w.heap.size, 0, none⟩) (by simp) (.int .u64 (last + 1))).far (p := ⟨w.heap.size, 1 + i, none⟩) (by simp) (.int .u64 (last + 1))
  have hgr3 : Gr w ((W.setCell ⟨w.heap.size, 0, none⟩ (.int .u64 (last + 1))).setCell ⟨w.heap.size, 1 + i, none⟩ (.int .u64 (last + 1))) := (hgr.st (by simp) _).st (by simp) _
  clear hc hf0 hb2 hc2 hc3 hf2 hb hz hgr
  generalize (W.setCell ⟨w.heap.size, 0, none⟩ (.int .u64 (last + 1))).setCell ⟨w.heap.size, 1 + i, none⟩ (.int .u64 (last + 1)) = W3 at *
  have hc := hb3.drew.cell 0
  rw [bookCells_0] at hc
  have hr1 := hb3.drew.rowOf
  have hr2 := hb3.drew.hasRow (bookCells_size _ _)
  have hr3 := hz3.drew.hasRow zsize123
  have hr4 : AllOne (bookCells (last + 1) (setF of i (last + 1))) := bookCells_one _ _
  have hr5 := bookCells_size (last + 1) (setF of i (last + 1))
  go_region_law (go_simp; go_at_call 117; refine (HW.out _).mono ?_; rintro e w' ⟨rfl, rfl⟩)
  all_goals
    go_wp2
    refine bodyPost_ret (results_agg123_2 rfl _ _ _ _ _ rfl (hz3.drew.row _)) rfl ⟨rfl, ?_⟩
    exact hgr3.drew.chs ((Ch.refl [w.heap.size + 1] _).row (by simp) _) (by simp)

end Go.Proofs.Ytkkobbomipcpoaa
