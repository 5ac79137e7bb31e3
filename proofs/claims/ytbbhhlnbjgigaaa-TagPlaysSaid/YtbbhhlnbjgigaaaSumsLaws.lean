/- The walks of the four laws of chapter 2 (sums): each returns true for every input, and changes nothing that was there. -/
import Derived.Test.YtbbhhlnbjgigaaaSums
namespace Go.Proofs.Ytbbhhlnbjgigaaa
open Go.RowKit SumsP
set_option linter.unusedVariables false

def clampI (x lo hi : Int) : Int := if x < lo then lo else min x hi
theorem clamp64_any (x lo hi : Int) (w : World) : Calls Try.prog 30 #[.int .i64 x, .int .i64 lo, .int .i64 hi] w fun e w' => e = .returned (.int .i64 (clampI x lo hi)) ∧ w = w' := by
  go_enter Try.func30, Try.ntmps30
  go_wp2
  all_goals go_ret
  all_goals (refine ⟨ret_int ?_, rfl⟩; unfold clampI; omega)
theorem clampInt_any (x lo hi : Int) (w : World) : Calls Try.prog 32 #[.int .i64 x, .int .i64 lo, .int .i64 hi] w fun e w' => e = .returned (.int .i64 (clampI x lo hi)) ∧ w = w' := by
  go_enter Try.func32, Try.ntmps32
  go_wp2
  all_goals go_ret
  all_goals (refine ⟨ret_int ?_, rfl⟩; unfold clampI; omega)
theorem clampU_any (x lo hi : Int) (w : World) : Calls Try.prog 33 #[.int .u64 x, .int .u64 lo, .int .u64 hi] w fun e w' => e = .returned (.int .u64 (clampI x lo hi)) ∧ w = w' := by
  go_enter Try.func33, Try.ntmps33
  go_wp2
  all_goals go_ret
  all_goals (refine ⟨ret_int ?_, rfl⟩; unfold clampI; omega)
theorem clamped_any (x lo hi : Int) (w : World) : Calls Try.prog 31 #[.int .i64 x, .int .i64 lo, .int .i64 hi] w fun e w' => e = .returned (.int .i64 (clampI x lo hi)) ∧ w = w' := by
  go_enter Try.func31, Try.ntmps31
  go_wp2
  all_goals go_ret
  all_goals (refine ⟨ret_int ?_, rfl⟩; unfold clampI; omega)

theorem sumsClamp_walk (x lo hi u v q : Int) (w : World) (hx : -9223372036854775808 ≤ x ∧ x ≤ 9223372036854775807) (hlo : -9223372036854775808 ≤ lo ∧ lo ≤ 9223372036854775807) (hhi : -9223372036854775808 ≤ hi ∧ hi ≤ 9223372036854775807)
    (hu : 0 ≤ u ∧ u ≤ 18446744073709551615) (hv : 0 ≤ v ∧ v ≤ 18446744073709551615) (hq : 0 ≤ q ∧ q ≤ 18446744073709551615) :
    Calls Try.prog 7 #[.int .i64 x, .int .i64 lo, .int .i64 hi, .int .u64 u, .int .u64 v, .int .u64 q] w fun e w' => e = .returned (.bool true) ∧ Gr w w' := by
  have hc : -9223372036854775808 ≤ clampI x lo hi ∧ clampI x lo hi ≤ 9223372036854775807 := by unfold clampI; omega
  have cases3 : (u < v ∧ clampI u v q = v) ∨ (v ≤ u ∧ q < u ∧ clampI u v q = q) ∨ (v ≤ u ∧ u ≤ q ∧ clampI u v q = u) := by unfold clampI; omega
  obtain ⟨hx0, hx1⟩ := hx
  obtain ⟨hlo0, hlo1⟩ := hlo
  obtain ⟨hhi0, hhi1⟩ := hhi
  obtain ⟨hc0, hc1⟩ := hc
  rcases cases3 with ⟨h1, h2⟩ | ⟨h1, h1', h2⟩ | ⟨h1, h1', h2⟩
  all_goals
    have H2 := Lib.hid h2
    clear h2
    go_enter Try.func7, Try.ntmps7
    go_wp2_with (first
      | (go_at_call 30; refine (clamp64_any _ _ _ _).mono ?_; rintro e w' ⟨rfl, rfl⟩)
      | (go_at_call 31; refine (clamped_any _ _ _ _).mono ?_; rintro e w' ⟨rfl, rfl⟩)
      | (go_at_call 32; refine (clampInt_any _ _ _ _).mono ?_; rintro e w' ⟨rfl, rfl⟩)
      | (go_at_call 33; refine (clampU_any _ _ _ _).mono ?_; rintro e w' ⟨rfl, rfl⟩; rw [H2.out])
      | (go_at_call 34; refine (awake2_any _).mono ?_; rintro e w' ⟨rfl, rfl⟩))
    all_goals
      go_ret
      exact ⟨rfl, Gr.refl _⟩

theorem sumsHeld_walk (a b : Int) (w : World) (ha : 0 ≤ a ∧ a ≤ 18446744073709551615) (hb : 0 ≤ b ∧ b ≤ 18446744073709551615) :
    Calls Try.prog 13 #[.int .u64 a, .int .u64 b] w fun e w' => e = .returned (.bool true) ∧ Gr w w' := by
  go_enter Try.func13, Try.ntmps13
  go_wp2_with (first
    | (go_at_call 39; refine (add_any _ _ _ ha hb).mono ?_; rintro e w' ⟨rfl, rfl⟩)
    | (go_at_call 54; refine (radd_any _ _ _ ha hb).mono ?_; rintro e w' ⟨rfl, rfl⟩)
    | (go_at_call 55; refine (sub_any _ _ _ ha hb).mono ?_; rintro e w' ⟨rfl, rfl⟩)
    | (go_at_call 56; refine (rsub_any _ _ _ ha hb).mono ?_; rintro e w' ⟨rfl, rfl⟩)
    | (go_at_call 57; refine (mul_any _ _ _ ha hb).mono ?_; rintro e w' ⟨rfl, rfl⟩)
    | (go_at_call 58; refine (rmul_any _ _ _ ha hb).mono ?_; rintro e w' ⟨rfl, rfl⟩)
    | (go_at_call 59; refine (up_any _ _ _ ha hb).mono ?_; rintro e w' ⟨rfl, rfl⟩)
    | (go_at_call 60; refine (rup_any _ _ _ ha hb).mono ?_; rintro e w' ⟨rfl, rfl⟩)
    | (go_at_call 61; refine (multiple_any _ _ _ ha hb).mono ?_; rintro e w' ⟨rfl, rfl⟩)
    | (go_at_call 62; refine (rmultiple_any _ _ _ ha hb).mono ?_; rintro e w' ⟨rfl, rfl⟩)
    | (go_at_call 34; refine (awake2_any _).mono ?_; rintro e w' ⟨rfl, rfl⟩))
  go_ret
  exact ⟨rfl, Gr.refl _⟩

theorem el42 : Elem Try.prog 42 27 (.int .u64 0) 1 8 := ⟨Try.underlying42, by kernel_rfl, rfl, by decide⟩

theorem few_any (a : Option Addr) (cap : Nat) (zs : List Int) (w : World) (hm : zs.length ≤ 9223372036854775807) (hr : RowAt .u64 w a zs) :
    Calls Try.prog 35 #[.slice a zs.length cap] w (OwnRes 27 1 (zs.take 50).length (intCells .u64 (zs.take 50)) w) := by
  have HR := Lib.hid hr
  clear hr
  go_enter Try.func35, Try.ntmps35
  go_wp2
  go_loopw [3, 4] (fun v i wr => ∃ k : Nat, k ≤ zs.length ∧ k ≤ 50 ∧ i = .int .i64 k ∧ wr.ownsRow w.heap.size 27 1 v k (intCells .u64 (zs.take k)) ∧ Gr w wr) (fun _ i _ => zs.length - (intOf i).toNat)
  case atStart => exact ⟨0, by omega, by omega, rfl, World.ownsRow_nil _ _ _ _, Gr.refl _⟩
  case round =>
    obtain ⟨k, hk, hk50, rfl, hown, hg⟩ := hrel
    by_cases hlt : k < zs.length
    · have hd : decide ((k : Int) < (zs.length : Int)) = true := by simpa using hlt
      by_cases h50 : k < 50
      · have hd2 : decide ((k : Int) < 50) = true := by simp; omega
        rcases HR.out with h0 | ⟨b, off, rfl, hc⟩
        · rw [h0] at hlt; simp at hlt
        have hc1 := hg.cell_some (hc k hlt)
        clear hc
        have HT := Lib.hid (show intCells .u64 (zs.take (k + 1)) = intCells .u64 (zs.take k) ++ [.int .u64 (zs.getD k 0)] by rw [take_snoc zs k hlt, intCells_snoc])
        generalize zs.getD k 0 = z at *
        go_wp2_with (at_builtin; refine wpList_app1 el42 (.tmp 15) (.tmp 20) w.heap.size _ _ _ _ _ _ rfl rfl rfl rfl hown rfl rfl ?_ ?_ hg.size_le ?_)
        · omega
        · omega
        intro v' w' hown' hgr
        go_wp2
        go_roundw
        case rel => exact ⟨k + 1, by omega, by omega, by go_num, by rw [HT.out]; exact hown', hg.app hown hgr⟩
        case measure => simp [intOf]; omega
      · have hd2 : decide ((k : Int) < 50) = false := by simp; omega
        go_wp2
        go_ret
        refine ⟨_, rfl, ?_, hg⟩
        obtain rfl : k = 50 := by omega
        rw [List.length_take, Nat.min_eq_left hk]
        exact hown
    · go_wp2
      go_ret
      refine ⟨_, rfl, ?_, hg⟩
      obtain rfl : k = zs.length := by omega
      rw [List.take_of_length_le hk50]
      rw [List.take_of_length_le (Nat.le_refl _)] at hown
      exact hown

theorem back_any (a : Option Addr) (cap : Nat) (zs : List Int) (w : World) (hm : zs.length ≤ 50) (hr : RowAt .u64 w a zs) :
    Calls Try.prog 38 #[.slice a zs.length cap] w (OwnRes 27 1 zs.reverse.length (intCells .u64 zs.reverse) w) := by
  have HR := Lib.hid hr
  clear hr
  go_enter Try.func38, Try.ntmps38
  go_wp2
  go_loopw [3, 4] (fun v i wr => ∃ k : Nat, k ≤ zs.length ∧ i = .int .i64 ((zs.length : Int) - 1 - k) ∧ wr.ownsRow w.heap.size 27 1 v k (intCells .u64 (zs.reverse.take k)) ∧ Gr w wr) (fun _ i _ => (1 + intOf i).toNat)
  case atStart => exact ⟨0, by omega, by simp, World.ownsRow_nil _ _ _ _, Gr.refl _⟩
  case round =>
    obtain ⟨k, hk, rfl, hown, hg⟩ := hrel
    by_cases hlt : k < zs.length
    · obtain ⟨j, hj⟩ : ∃ j : Nat, (zs.length : Int) - 1 - k = (j : Int) := ⟨zs.length - 1 - k, by omega⟩
      rw [hj]
      have HJ := Lib.hid hj
      clear hj
      have hjl : j < zs.length := by have := HJ.out; omega
      rcases HR.out with h0 | ⟨b, off, rfl, hc⟩
      · rw [h0] at hlt; simp at hlt
      have hc1 := hg.cell_some (hc j hjl)
      clear hc
      have HT := Lib.hid (show intCells .u64 (zs.reverse.take (k + 1)) = intCells .u64 (zs.reverse.take k) ++ [.int .u64 (zs.getD j 0)] by
        rw [take_snoc zs.reverse k (by simpa using hlt), intCells_snoc]
        have e : zs.reverse.getD k 0 = zs.getD j 0 := by
          have hj := HJ.out
          rw [List.getD_eq_getElem?_getD, List.getD_eq_getElem?_getD, List.getElem?_reverse (by omega)]
          rw [show zs.length - 1 - k = j by omega]
        rw [e])
      generalize zs.getD j 0 = z at *
      go_wp2_with (at_builtin; refine wpList_app1 el42 (.tmp 12) (.tmp 17) w.heap.size _ _ _ _ _ _ rfl rfl rfl rfl hown rfl rfl ?_ ?_ hg.size_le ?_)
      · omega
      · omega
      intro v' w' hown' hgr
      go_wp2
      go_roundw
      case rel => exact ⟨k + 1, by omega, by have := HJ.out; congr 1; omega, by rw [HT.out]; exact hown', hg.app hown hgr⟩
      case measure => simp [intOf]; omega
    · obtain rfl : k = zs.length := by omega
      have e : ((zs.length : Int) - 1 - (zs.length : Int)) = -1 := by omega
      rw [e]
      go_wp2
      go_ret
      refine ⟨_, rfl, ?_, hg⟩
      rw [List.take_of_length_le (by simp)] at hown
      rw [List.length_reverse]
      exact hown

/-- A sum of all, held. -/
def sumI (zs : List Int) : Int := zs.foldl addI 0
theorem foldl_add (zs : List Int) (hz : ∀ z ∈ zs, 0 ≤ z) : ∀ s, 0 ≤ s → zs.foldl addI (min s 18446744073709551615) = min (s + zs.foldr (· + ·) 0) 18446744073709551615 := by
  induction zs with
  | nil => intro s hs; simp
  | cons z r ih =>
    intro s hs
    have h0 := hz z (by simp)
    simp only [List.foldl_cons, List.foldr_cons]
    rw [show addI (min s 18446744073709551615) z = min (s + z) 18446744073709551615 by unfold addI; omega]
    rw [ih (fun x hx => hz x (by simp [hx])) (s + z) (by omega)]
    congr 1
    omega
theorem sumI_eq (zs : List Int) (hz : ∀ z ∈ zs, 0 ≤ z) : sumI zs = min (zs.foldr (· + ·) 0) 18446744073709551615 := by
  have := foldl_add zs hz 0 (by omega)
  rw [Int.zero_add] at this
  exact this
theorem sum_nonneg (zs : List Int) (hz : ∀ z ∈ zs, 0 ≤ z) : 0 ≤ zs.foldr (· + ·) 0 := by
  induction zs with
  | nil => simp
  | cons z r ih => simp only [List.foldr_cons]; have := hz z (by simp); have := ih (fun x hx => hz x (by simp [hx])); omega
theorem sum_snoc (zs : List Int) (z : Int) : (zs ++ [z]).foldr (· + ·) 0 = zs.foldr (· + ·) 0 + z := by
  induction zs with
  | nil => simp
  | cons y r ih => simp only [List.cons_append, List.foldr_cons, ih]; omega
theorem sum_rev (zs : List Int) : zs.reverse.foldr (· + ·) 0 = zs.foldr (· + ·) 0 := by
  induction zs with
  | nil => rfl
  | cons y r ih => rw [List.reverse_cons, sum_snoc, ih, List.foldr_cons]; omega
theorem sumI_bd (zs : List Int) (hz : ∀ z ∈ zs, 0 ≤ z) : 0 ≤ sumI zs ∧ sumI zs ≤ 18446744073709551615 := by
  rw [sumI_eq zs hz]; have := sum_nonneg zs hz; omega
theorem sumI_rev (zs : List Int) (hz : ∀ z ∈ zs, 0 ≤ z) : sumI zs.reverse = sumI zs := by
  rw [sumI_eq zs hz, sumI_eq zs.reverse (fun x hx => hz x (by simpa using hx)), sum_rev]
theorem sumI_snoc (zs : List Int) (z : Int) : sumI (zs ++ [z]) = addI (sumI zs) z := by simp [sumI]
theorem sumI_round (zs : List Int) (k : Nat) (h : k < zs.length) : sumI (zs.take (k + 1)) = addI (sumI (zs.take k)) (zs.getD k 0) := by rw [take_snoc zs k h, sumI_snoc]

theorem sum_any (a : Option Addr) (cap : Nat) (zs : List Int) (w : World) (hm : zs.length ≤ 9223372036854775807) (hz : ∀ z ∈ zs, 0 ≤ z ∧ z ≤ 18446744073709551615) (hr : RowAt .u64 w a zs) :
    Calls Try.prog 36 #[.slice a zs.length cap] w fun e w' => e = .returned (.int .u64 (sumI zs)) ∧ w = w' := by
  have HR := Lib.hid hr
  have HZ := Lib.hid hz
  clear hr hz
  go_enter Try.func36, Try.ntmps36
  go_wp2
  go_loop [3, 5, 8] (fun s _ i => ∃ k : Nat, k ≤ zs.length ∧ i = .int .i64 k ∧ s = .int .u64 (sumI (zs.take k))) (fun _ _ i => zs.length - (intOf i).toNat)
  case atStart => exact ⟨0, by omega, rfl, rfl⟩
  case round =>
    obtain ⟨k, hk, rfl, rfl⟩ := hrel
    by_cases hlt : k < zs.length
    · rcases HR.out with h0 | ⟨b, off, rfl, hc⟩
      · rw [h0] at hlt; simp at hlt
      have hc1 := hc k hlt
      clear hc
      have hzb := HZ.out (zs.getD k 0) (by simp [List.getD_eq_getElem?_getD, hlt])
      have hsb := sumI_bd (zs.take k) (fun z hz => (HZ.out z (List.mem_of_mem_take hz)).1)
      have HT := Lib.hid (sumI_round zs k hlt)
      generalize zs.getD k 0 = z at *
      generalize sumI (zs.take k) = s at *
      go_wp2_with (go_at_call 39; refine (add_any _ _ _ hsb hzb).mono ?_; rintro e w' ⟨rfl, rfl⟩)
      go_round
      case rel => exact ⟨k + 1, by omega, by go_num, by rw [HT.out]⟩
      case measure => simp [intOf]; omega
    · go_wp2
      go_ret
      exact ⟨ret_int (by rw [List.take_of_length_le (by omega)]), rfl⟩
theorem rsum_any (a : Option Addr) (cap : Nat) (zs : List Int) (w : World) (hm : zs.length ≤ 9223372036854775807) (hz : ∀ z ∈ zs, 0 ≤ z ∧ z ≤ 18446744073709551615) (hr : RowAt .u64 w a zs) :
    Calls Try.prog 37 #[.slice a zs.length cap] w fun e w' => e = .returned (.int .u64 (sumI zs)) ∧ w = w' := by
  have HR := Lib.hid hr
  have HZ := Lib.hid hz
  clear hr hz
  go_enter Try.func37, Try.ntmps37
  go_wp2
  go_loop [3, 4] (fun s i => ∃ k : Nat, k ≤ zs.length ∧ i = .int .i64 k ∧ s = .int .u64 (sumI (zs.take k))) (fun _ i => zs.length - (intOf i).toNat)
  case atStart => exact ⟨0, by omega, rfl, rfl⟩
  case round =>
    obtain ⟨k, hk, rfl, rfl⟩ := hrel
    by_cases hlt : k < zs.length
    · rcases HR.out with h0 | ⟨b, off, rfl, hc⟩
      · rw [h0] at hlt; simp at hlt
      have hc1 := hc k hlt
      clear hc
      have hzb := HZ.out (zs.getD k 0) (by simp [List.getD_eq_getElem?_getD, hlt])
      have hsb := sumI_bd (zs.take k) (fun z hz => (HZ.out z (List.mem_of_mem_take hz)).1)
      have HT := Lib.hid (sumI_round zs k hlt)
      generalize zs.getD k 0 = z at *
      generalize sumI (zs.take k) = s at *
      go_wp2_with (go_at_call 54; refine (radd_any _ _ _ hsb hzb).mono ?_; rintro e w' ⟨rfl, rfl⟩)
      go_round
      case rel => exact ⟨k + 1, by omega, by go_num, by rw [HT.out]⟩
      case measure => simp [intOf]; omega
    · go_wp2
      go_ret
      exact ⟨ret_int (by rw [List.take_of_length_le (by omega)]), rfl⟩

theorem sumsAll_walk (a : Option Addr) (cap : Nat) (zs : List Int) (more : Int) (w : World) (h : SliceIn .u64 w a cap zs) (hmore : 0 ≤ more ∧ more ≤ 18446744073709551615) :
    Calls Try.prog 8 #[.slice a zs.length cap, .int .u64 more] w fun e w' => e = .returned (.bool true) ∧ Gr w w' := by
  obtain ⟨hl, hm, hr, hw, hn⟩ := h
  have hz : ∀ z ∈ zs, 0 ≤ z ∧ z ≤ 18446744073709551615 := fun z hz => bd_u64 (hw z hz)
  have C := Lib.hid (few_any a cap zs w (by omega) hr)
  clear hr hw hn
  have hz2 : ∀ z ∈ zs.take 50, 0 ≤ z ∧ z ≤ 18446744073709551615 := fun z h => hz z (List.mem_of_mem_take h)
  have hl2 : (zs.take 50).length ≤ 50 := by rw [List.length_take]; omega
  clear hz hl
  have hzr : ∀ z ∈ (zs.take 50).reverse, 0 ≤ z ∧ z ≤ 18446744073709551615 := fun z h => hz2 z (by simpa using h)
  have hzm : ∀ z ∈ zs.take 50 ++ [more], 0 ≤ z ∧ z ≤ 18446744073709551615 := fun z h => by
    rcases List.mem_append.1 h with h | h
    · exact hz2 z h
    · obtain rfl : z = more := by simpa using h
      exact hmore
  have hbd := sumI_bd (zs.take 50) (fun z h => (hz2 z h).1)
  have HRev := Lib.hid (sumI_rev (zs.take 50) (fun z h => (hz2 z h).1))
  have HSn := Lib.hid (sumI_snoc (zs.take 50) more)
  have HZ := Lib.hid (And.intro hz2 (And.intro hzr hzm))
  clear hz2 hzr hzm
  go_enter Try.func8, Try.ntmps8
  go_wp2_with fail
  refine (C.out).mono ?_
  rintro e w1 ⟨v, rfl, hown, g1⟩
  generalize zs.take 50 = ys at *
  obtain ⟨a1, cap1, rfl, hl1, hc1, hr1⟩ := own_row hown
  have HR1 := Lib.hid hr1
  clear hr1
  go_wp2_with fail
  refine (sum_any a1 cap1 ys w1 (by omega) HZ.out.1 HR1.out).mono ?_
  rintro e w' ⟨rfl, rfl⟩
  go_wp2_with fail
  refine (rsum_any a1 cap1 ys w1 (by omega) HZ.out.1 HR1.out).mono ?_
  rintro e w' ⟨rfl, rfl⟩
  go_wp2_with fail
  refine (back_any a1 cap1 ys w1 hl2 HR1.out).mono ?_
  rintro e w2 ⟨v2, rfl, hown2, g2⟩
  obtain ⟨a2, cap2, rfl, hl3, hc2, hr2⟩ := own_row hown2
  have c2 := sum_any a2 cap2 ys.reverse w2 (by rw [List.length_reverse]; omega) HZ.out.2.1 hr2
  rw [List.length_reverse] at c2
  have C2 := Lib.hid c2
  clear c2
  go_wp2_with fail
  refine (C2.out).mono ?_
  rintro e w' ⟨rfl, rfl⟩
  rw [HRev.out]
  have hown3 := g2.own hown
  have g12 := g1.tr g2
  clear hown hown2 hr2 hl3 hc2
  go_wp2_with (first | (go_at_call 34; refine (awake2_any _).mono ?_; rintro e w' ⟨rfl, rfl⟩) | (at_builtin; refine wpList_app1 el42 (.tmp 26) (.tmp 28) w.heap.size _ _ _ _ _ _ rfl rfl rfl rfl hown3 rfl rfl ?_ ?_ g12.size_le ?_))
  · omega
  · omega
  intro v3 w3 hown4 hg3
  have g13 := g12.app hown3 hg3
  rw [show intCells .u64 ys ++ #[Value.int IntKind.u64 more].toList = intCells .u64 (ys ++ [more]) by rw [intCells_snoc]] at hown4
  rw [show ys.length + 1 = (ys ++ [more]).length by simp] at hown4
  obtain ⟨a3, cap3, rfl, hl4, hc3, hr3⟩ := own_row hown4
  have c3 := sum_any a3 cap3 (ys ++ [more]) w3 (by simp; omega) HZ.out.2.2 hr3
  rw [show (ys ++ [more]).length = ys.length + 1 by simp] at c3 ⊢
  have C3 := Lib.hid c3
  clear c3
  go_wp2_with fail
  refine (C3.out).mono ?_
  rintro e w' ⟨rfl, rfl⟩
  rw [HSn.out]
  have hge : sumI ys ≤ addI (sumI ys) more := by unfold addI; omega
  generalize sumI ys = S at *
  clear hown4 hr3 hown3 HSn HRev
  go_wp2_with fail
  refine (add_any S more _ hbd hmore).mono ?_
  rintro e w' ⟨rfl, rfl⟩
  go_wp2_with fail
  refine (sum_any none 0 [] _ (by simp) (by simp) (.inl rfl)).mono ?_
  rintro e w' ⟨rfl, rfl⟩
  rw [show sumI [] = 0 from rfl]
  go_wp2
  go_ret
  exact ⟨rfl, g13⟩

theorem up_exact (a b : Int) (hb : 0 < b) : upI (a * b) b = a ∧ mulB (a * b) b = true := by
  have h1 : a * b % b = 0 := Int.mul_emod_left a b
  have h2 : a * b / b = a := Int.mul_ediv_cancel a (by omega)
  unfold upI mulB
  rw [if_neg (by omega), if_pos h1]
  exact ⟨h2, by simp; omega⟩
theorem mul_mono (a b c : Int) (ha : 0 ≤ a) (h : b ≤ c) : a * b ≤ a * c := Int.mul_le_mul_of_nonneg_left h ha

set_option maxHeartbeats 4000000 in
theorem sumsExact_walk (a b c : Int) (w : World) (ha : 0 ≤ a ∧ a ≤ 18446744073709551615) (hb : 0 ≤ b ∧ b ≤ 18446744073709551615) (hc : 0 ≤ c ∧ c ≤ 18446744073709551615) :
    Calls Try.prog 14 #[.int .u64 a, .int .u64 b, .int .u64 c] w fun e w' => e = .returned (.bool true) ∧ Gr w w' := by
  have hab : 0 ≤ a * b := Int.mul_nonneg ha.1 hb.1
  have hac : 0 ≤ a * c := Int.mul_nonneg ha.1 hc.1
  have hS : 0 ≤ addI a b ∧ addI a b ≤ 18446744073709551615 := by unfold addI; omega
  have hP : 0 ≤ mulI a b ∧ mulI a b ≤ 18446744073709551615 := by unfold mulI; omega
  have hP2 : 0 ≤ mulI a c ∧ mulI a c ≤ 18446744073709551615 := by unfold mulI; omega
  have h1 : (addI a b < 18446744073709551615 ∧ subI (addI a b) b = a) ∨ 18446744073709551615 ≤ addI a b := by unfold addI subI; omega
  have h2 : b = 0 ∨ (0 < b ∧ mulI a b < 18446744073709551615 ∧ upI (mulI a b) b = a ∧ mulB (mulI a b) b = true) ∨ (0 < b ∧ 18446744073709551615 ≤ mulI a b) := by
    by_cases h0 : b = 0
    · exact .inl h0
    · right
      by_cases hlt : mulI a b < 18446744073709551615
      · left
        have e : mulI a b = a * b := by unfold mulI at hlt ⊢; omega
        have := up_exact a b (by omega)
        rw [e]
        rw [e] at hlt
        exact ⟨by omega, hlt, this.1, this.2⟩
      · right; omega
  have h3 : (b ≤ c ∧ addI a b ≤ addI a c ∧ mulI a b ≤ mulI a c ∧ subI a c ≤ subI a b) ∨ c < b := by
    by_cases h : b ≤ c
    · left
      have := mul_mono a b c ha.1 h
      refine ⟨h, ?_, ?_, ?_⟩
      · unfold addI; omega
      · unfold mulI; omega
      · unfold subI; omega
    · right; omega
  have hb0 : ∀ z : Int, b = z → Hid (b = z) := fun z h => Lib.hid h
  have H1 : Hid ((addI a b < 18446744073709551615 → subI (addI a b) b = a) ∧ (0 < b → mulI a b < 18446744073709551615 → upI (mulI a b) b = a ∧ mulB (mulI a b) b = true)) :=
    Lib.hid ⟨fun h => by rcases h1 with h1 | h1 <;> omega, fun h h' => by rcases h2 with h2 | h2 | h2 <;> first | exact ⟨h2.2.2.1, h2.2.2.2⟩ | omega⟩
  have t1 : addI a b < 18446744073709551615 ∨ 18446744073709551615 ≤ addI a b := by omega
  have t2 : b ≤ 0 ∨ (0 < b ∧ mulI a b < 18446744073709551615) ∨ (0 < b ∧ 18446744073709551615 ≤ mulI a b) := by omega
  clear hab hac h1 h2 hb0
  rcases t1 with h1 | h1 <;> rcases t2 with h2 | ⟨h2, h2a⟩ | ⟨h2, h2a⟩ <;> rcases h3 with ⟨h3, h3a, h3b, h3c⟩ | h3
  all_goals
    go_enter Try.func14, Try.ntmps14
    go_wp2_with (first
      | (go_at_call 39; refine (add_any _ _ _ (by assumption) (by assumption)).mono ?_; rintro e w' ⟨rfl, rfl⟩)
      | (go_at_call 57; refine (mul_any _ _ _ (by assumption) (by assumption)).mono ?_; rintro e w' ⟨rfl, rfl⟩)
      | (go_at_call 55; refine (sub_any _ _ _ (by assumption) (by assumption)).mono ?_; rintro e w' ⟨rfl, rfl⟩; try rw [H1.out.1 h1])
      | (go_at_call 59; refine (up_any _ _ _ (by assumption) (by assumption)).mono ?_; rintro e w' ⟨rfl, rfl⟩; rw [(H1.out.2 h2 h2a).1])
      | (go_at_call 61; refine (multiple_any _ _ _ (by assumption) (by assumption)).mono ?_; rintro e w' ⟨rfl, rfl⟩; rw [(H1.out.2 h2 h2a).2])
      | (go_at_call 34; refine (awake2_any _).mono ?_; rintro e w' ⟨rfl, rfl⟩))
    all_goals
      go_ret
      exact ⟨rfl, Gr.refl _⟩
end Go.Proofs.Ytbbhhlnbjgigaaa
