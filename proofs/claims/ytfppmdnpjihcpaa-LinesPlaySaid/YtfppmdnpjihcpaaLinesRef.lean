/- Contracts of the document's lines (chapter 14's reference), for every input. -/
import Derived.Test.YtfppmdnpjihcpaaLines
namespace Go.Proofs.Ytfppmdnpjihcpaa
open Go.RowKit LinesP
set_option linter.unusedVariables false

/-- The document's line of a processor, cell by cell. -/
def refG (t c : Nat → Bool) (d : Nat → Int) (i k : Nat) : Value := match k with | 0 => .bool (t i) | 1 => .bool (c i) | _ => .int .i64 (d i)
def RefAt (w : World) (r m : Nat) (t c : Nat → Bool) (d : Nat → Int) : Prop := m ≤ 64 ∧ Blk w r 65 (recs m 3 (refG t c d))
theorem RefAt.ch {w w' : World} {r m : Nat} {t c : Nat → Bool} {d : Nat → Int} {S : List Nat} (l : RefAt w r m t c d) (k : Ch S w w') (h1 : r ∉ S) : RefAt w' r m t c d := ⟨l.1, l.2.ch k h1⟩
theorem RefAt.gr {w w' : World} {r m : Nat} {t c : Nat → Bool} {d : Nat → Int} (l : RefAt w r m t c d) (k : Gr w w') : RefAt w' r m t c d := ⟨l.1, l.2.gr k⟩
theorem el55 : Elem Try.prog 55 65 (.agg #[.bool false, .bool false, .int .i64 0]) 3 16 := ⟨Try.underlying55, by kernel_rfl, rfl, by decide⟩

set_option maxRecDepth 100000 in
set_option maxHeartbeats 1000000 in
theorem rnew_any (n : Int) (w : World) :
    Calls Try.prog 31 #[.int .i64 n] w fun e w' => e = .returned (.slice (some ⟨w.heap.size, 0, none⟩) (clampI n 0 64).toNat (clampI n 0 64).toNat) ∧
      RefAt w' w.heap.size (clampI n 0 64).toNat (fun _ => false) (fun _ => false) (fun _ => 0) ∧ Gr w w' := by
  obtain ⟨m, hm⟩ := Int.eq_ofNat_of_zero_le (show 0 ≤ clampI n 0 64 by unfold clampI; omega)
  have hle : m ≤ 64 := by unfold clampI at hm; omega
  have hmm : min (max n 0) 64 = (m : Int) := by unfold clampI at hm; omega
  have HM := Lib.hid hm
  clear hm
  have hmk := run_make_recs el55 m (by omega) (by omega)
  rw [show (recs m 3 fun _ k => (Value.agg #[.bool false, .bool false, .int .i64 0]).cells[k]!) = recs m 3 (refG (fun _ => false) (fun _ => false) fun _ => 0) from
    recs_congr _ _ _ _ fun i k _ hk => by
      have : k = 0 ∨ k = 1 ∨ k = 2 := by omega
      rcases this with rfl | rfl | rfl <;> rfl] at hmk
  have HMM := Lib.hid hmm
  have HK := Lib.hid hmk
  clear hmm hmk
  go_enter Try.func31, Try.ntmps31
  go_wp2_with fail
  · have e := HK.out w
    rw [show (m : Int) = 0 by have := HMM.out; omega] at e
    rw [e]
    go_wp2
    go_ret
    rw [HM.out]
    exact ⟨rfl, ⟨hle, Blk.new w 65 _⟩, (Gr.refl w).al _⟩
  · have e := HK.out w
    rw [show (m : Int) = 64 by have := HMM.out; omega] at e
    rw [e]
    go_wp2
    go_ret
    rw [HM.out]
    exact ⟨rfl, ⟨hle, Blk.new w 65 _⟩, (Gr.refl w).al _⟩
  · have e := HK.out w
    rw [show (m : Int) = n by have := HMM.out; omega] at e
    rw [e]
    go_wp2
    go_ret
    rw [HM.out]
    exact ⟨rfl, ⟨hle, Blk.new w 65 _⟩, (Gr.refl w).al _⟩

theorem rhas_no (a : Option Addr) (m : Nat) (x : Int) (w : World) (h : ¬ (0 ≤ x ∧ x < m)) : Calls Try.prog 35 #[.slice a m m, .int .i64 x] w fun e w' => e = .returned (.bool false) ∧ w = w' := by
  by_cases h0 : 0 ≤ x
  · have h1 : decide (x < (m : Int)) = false := by simp; omega
    go_enter Try.func35, Try.ntmps35
    go_wp2
    go_ret
    exact ⟨rfl, rfl⟩
  · have h1 : decide (0 ≤ x) = false := by simpa using h0
    go_enter Try.func35, Try.ntmps35
    go_wp2
    go_ret
    exact ⟨rfl, rfl⟩
theorem rhas_yes (a : Option Addr) (m i : Nat) (w : World) (h : i < m) : Calls Try.prog 35 #[.slice a m m, .int .i64 i] w fun e w' => e = .returned (.bool true) ∧ w = w' := by
  go_enter Try.func35, Try.ntmps35
  go_wp2
  go_ret
  exact ⟨rfl, rfl⟩
theorem rnext_no (a : Option Addr) (m : Nat) (x : Int) (w : World) (h : ¬ (0 ≤ x ∧ x < m)) : Calls Try.prog 36 #[.slice a m m, .int .i64 x] w fun e w' => e = .returned (.int .i64 0) ∧ w = w' := by
  have C := Lib.hid (rhas_no a m x w h)
  clear h
  go_enter Try.func36, Try.ntmps36
  go_wp2_with (go_at_call 35; refine (C.out).mono ?_; rintro e w' ⟨rfl, rfl⟩)
  go_ret
  exact ⟨rfl, rfl⟩
theorem renter_no (a : Option Addr) (m : Nat) (x : Int) (w : World) (h : ¬ (0 ≤ x ∧ x < m)) : Calls Try.prog 69 #[.slice a m m, .int .i64 x] w fun e w' => e = .returned (.bool false) ∧ w = w' := by
  have C := Lib.hid (rhas_no a m x w h)
  clear h
  go_enter Try.func69, Try.ntmps69
  go_wp2_with (go_at_call 35; refine (C.out).mono ?_; rintro e w' ⟨rfl, rfl⟩)
  go_ret
  exact ⟨rfl, rfl⟩
theorem rleave_no (a : Option Addr) (m : Nat) (x : Int) (w : World) (h : ¬ (0 ≤ x ∧ x < m)) : Calls Try.prog 70 #[.slice a m m, .int .i64 x] w fun e w' => e = .returned (.bool false) ∧ w = w' := by
  have C := Lib.hid (rhas_no a m x w h)
  clear h
  go_enter Try.func70, Try.ntmps70
  go_wp2_with (go_at_call 35; refine (C.out).mono ?_; rintro e w' ⟨rfl, rfl⟩)
  go_ret
  exact ⟨rfl, rfl⟩
theorem rtake_no (a : Option Addr) (m : Nat) (x : Int) (w : World) (h : ¬ (0 ≤ x ∧ x < m)) : Calls Try.prog 71 #[.slice a m m, .int .i64 x] w fun e w' => e = .returned (.int .i64 0) ∧ w = w' := by
  have C := Lib.hid (rnext_no a m x w h)
  clear h
  go_enter Try.func71, Try.ntmps71
  go_wp2_with (go_at_call 36; refine (C.out).mono ?_; rintro e w' ⟨rfl, rfl⟩)
  go_ret
  exact ⟨rfl, rfl⟩

theorem refG_t (t c : Nat → Bool) (d : Nat → Int) (m i : Nat) (b : Bool) : recs m 3 (setG (refG t c d) i 0 (.bool b)) = recs m 3 (refG (upd t i b) c d) :=
  recs_congr _ _ _ _ fun j k _ hk => by
    have : k = 0 ∨ k = 1 ∨ k = 2 := by omega
    rcases this with rfl | rfl | rfl <;> simp [setG, refG, upd]
    all_goals (split <;> rfl)
theorem refG_c (t c : Nat → Bool) (d : Nat → Int) (m i : Nat) (b : Bool) : recs m 3 (setG (refG t c d) i 1 (.bool b)) = recs m 3 (refG t (upd c i b) d) :=
  recs_congr _ _ _ _ fun j k _ hk => by
    have : k = 0 ∨ k = 1 ∨ k = 2 := by omega
    rcases this with rfl | rfl | rfl <;> simp [setG, refG, upd]
    all_goals (split <;> rfl)
theorem refG_d (t c : Nat → Bool) (d : Nat → Int) (m i : Nat) (x : Int) : recs m 3 (setG (refG t c d) i 2 (.int .i64 x)) = recs m 3 (refG t c (upd d i x)) :=
  recs_congr _ _ _ _ fun j k _ hk => by
    have : k = 0 ∨ k = 1 ∨ k = 2 := by omega
    rcases this with rfl | rfl | rfl <;> simp [setG, refG, upd]
    all_goals (split <;> rfl)
section
variable {w : World} {r m : Nat} {t c : Nat → Bool} {d : Nat → Int} (l : RefAt w r m t c d)
include l
theorem RefAt.cells {i : Nat} (hi : i < m) :
    w.cell? ⟨r, i * 3, none⟩ = some (.bool (t i)) ∧ w.cell? ⟨r, i * 3 + 1, none⟩ = some (.bool (c i)) ∧ w.cell? ⟨r, i * 3 + 2, none⟩ = some (.int .i64 (d i)) ∧ ∀ j, w.frozen? ⟨r, j, none⟩ = false :=
  ⟨(l.2.cell _).trans (recs_get m 3 _ i 0 hi (by omega)), (l.2.cell _).trans (recs_get m 3 _ i 1 hi (by omega)), (l.2.cell _).trans (recs_get m 3 _ i 2 hi (by omega)), l.2.frozen⟩
theorem RefAt.st_t (i : Nat) (b : Bool) : RefAt (w.setCell ⟨r, i * 3, none⟩ (.bool b)) r m (upd t i b) c d :=
  ⟨l.1, by have := l.2.st (i * 3 + 0) (.bool b); rwa [recs_set _ _ _ _ _ _ (by omega), refG_t] at this⟩
theorem RefAt.st_c (i : Nat) (b : Bool) : RefAt (w.setCell ⟨r, i * 3 + 1, none⟩ (.bool b)) r m t (upd c i b) d :=
  ⟨l.1, by have := l.2.st (i * 3 + 1) (.bool b); rwa [recs_set _ _ _ _ _ _ (by omega), refG_c] at this⟩
theorem RefAt.st_d (i : Nat) (x : Int) : RefAt (w.setCell ⟨r, i * 3 + 2, none⟩ (.int .i64 x)) r m t c (upd d i x) :=
  ⟨l.1, by have := l.2.st (i * 3 + 2) (.int .i64 x); rwa [recs_set _ _ _ _ _ _ (by omega), refG_d] at this⟩
end
section
variable (r m : Nat) (t c : Nat → Bool) (d : Nat → Int) (i : Nat) (w : World) (l : RefAt w r m t c d) (hi : i < m)
include l hi
theorem rnext_some : Calls Try.prog 36 #[.slice (some ⟨r, 0, none⟩) m m, .int .i64 i] w fun e w' => e = .returned (.int .i64 (nextI t c d i)) ∧ w = w' := by
  have C := Lib.hid (rhas_yes (some ⟨r, 0, none⟩) m i w hi)
  obtain ⟨c1, c2, c3, cf⟩ := l.cells hi
  by_cases hd : 0 < d i
  · have HN := Lib.hid (show nextI t c d i = 0 by unfold nextI; rw [if_pos hd])
    generalize d i = q at c3 hd
    go_enter Try.func36, Try.ntmps36
    go_wp2_with (go_at_call 35; refine (C.out).mono ?_; rintro e w' ⟨rfl, rfl⟩)
    go_ret
    exact ⟨ret_int (by rw [HN.out]), rfl⟩
  · have hd' : decide (0 < d i) = false := by simpa using hd
    have HN := Lib.hid (show nextI t c d i = if t i then 1 else if c i then 2 else 0 by unfold nextI; rw [if_neg hd])
    generalize d i = q at c3 hd hd'
    generalize t i = ti at *
    generalize c i = ci at *
    cases ti <;> cases ci
    all_goals
      go_enter Try.func36, Try.ntmps36
      go_wp2_with (go_at_call 35; refine (C.out).mono ?_; rintro e w' ⟨rfl, rfl⟩)
      go_ret
      exact ⟨ret_int (by rw [HN.out]; rfl), rfl⟩
theorem renter_some (hd : 0 ≤ d i ∧ d i < 255) : Calls Try.prog 69 #[.slice (some ⟨r, 0, none⟩) m m, .int .i64 i] w fun e w' => e = .returned (.bool true) ∧ RefAt w' r m t c (upd d i (d i + 1)) ∧ Ch [r] w w' := by
  have C := Lib.hid (rhas_yes (some ⟨r, 0, none⟩) m i w hi)
  obtain ⟨c1, c2, c3, cf⟩ := l.cells hi
  have hst := Lib.hid (l.st_d i (d i + 1))
  have h255 : (d i == 255) = false := by simp; omega
  generalize d i = q at *
  go_enter Try.func69, Try.ntmps69
  go_wp2_with (go_at_call 35; refine (C.out).mono ?_; rintro e w' ⟨rfl, rfl⟩)
  go_ret
  exact ⟨rfl, hst.out, (Ch.refl _ _).st (by simp) _⟩
theorem renter_full (hd : d i = 255) : Calls Try.prog 69 #[.slice (some ⟨r, 0, none⟩) m m, .int .i64 i] w fun e w' => e = .returned (.bool false) ∧ w = w' := by
  have C := Lib.hid (rhas_yes (some ⟨r, 0, none⟩) m i w hi)
  obtain ⟨c1, c2, c3, cf⟩ := l.cells hi
  rw [hd] at c3
  go_enter Try.func69, Try.ntmps69
  go_wp2_with (go_at_call 35; refine (C.out).mono ?_; rintro e w' ⟨rfl, rfl⟩)
  go_ret
  exact ⟨rfl, rfl⟩
theorem rleave_some (hd : 0 < d i ∧ d i ≤ 255) : Calls Try.prog 70 #[.slice (some ⟨r, 0, none⟩) m m, .int .i64 i] w fun e w' => e = .returned (.bool true) ∧ RefAt w' r m t c (upd d i (d i - 1)) ∧ Ch [r] w w' := by
  have C := Lib.hid (rhas_yes (some ⟨r, 0, none⟩) m i w hi)
  obtain ⟨c1, c2, c3, cf⟩ := l.cells hi
  have hst := Lib.hid (l.st_d i (d i - 1))
  have h255 : (d i == 0) = false := by simp; omega
  generalize d i = q at *
  go_enter Try.func70, Try.ntmps70
  go_wp2_with (go_at_call 35; refine (C.out).mono ?_; rintro e w' ⟨rfl, rfl⟩)
  go_ret
  exact ⟨rfl, hst.out, (Ch.refl _ _).st (by simp) _⟩
theorem rleave_zero (hd : d i = 0) : Calls Try.prog 70 #[.slice (some ⟨r, 0, none⟩) m m, .int .i64 i] w fun e w' => e = .returned (.bool false) ∧ w = w' := by
  have C := Lib.hid (rhas_yes (some ⟨r, 0, none⟩) m i w hi)
  obtain ⟨c1, c2, c3, cf⟩ := l.cells hi
  rw [hd] at c3
  go_enter Try.func70, Try.ntmps70
  go_wp2_with (go_at_call 35; refine (C.out).mono ?_; rintro e w' ⟨rfl, rfl⟩)
  go_ret
  exact ⟨rfl, rfl⟩
theorem rtake_some : Calls Try.prog 71 #[.slice (some ⟨r, 0, none⟩) m m, .int .i64 i] w fun e w' => e = .returned (.int .i64 (nextI t c d i)) ∧ RefAt w' r m (takeT t c d i) (takeC t c d i) d ∧ Ch [r] w w' := by
  have C := Lib.hid (rnext_some r m t c d i w l hi)
  have H1 := Lib.hid (l.st_t i false)
  have H2 := Lib.hid (l.st_c i false)
  obtain ⟨c1, c2, c3, cf⟩ := l.cells hi
  have hc : nextI t c d i = 0 ∨ nextI t c d i = 1 ∨ nextI t c d i = 2 := by unfold nextI; split; exact .inl rfl; split; exact .inr (.inl rfl); split; exact .inr (.inr rfl); exact .inl rfl
  rcases hc with hc | hc | hc
  · have HT := Lib.hid (show takeT t c d i = t ∧ takeC t c d i = c by unfold takeT takeC; rw [hc]; exact ⟨rfl, rfl⟩)
    rw [HT.out.1, HT.out.2]
    rw [hc] at C ⊢
    clear hc
    go_enter Try.func71, Try.ntmps71
    go_wp2_with (go_at_call 36; refine (C.out).mono ?_; rintro e w' ⟨rfl, rfl⟩)
    go_ret
    exact ⟨rfl, l, Ch.refl _ _⟩
  · have HT := Lib.hid (show takeT t c d i = upd t i false ∧ takeC t c d i = c by unfold takeT takeC; rw [hc]; exact ⟨rfl, rfl⟩)
    rw [HT.out.1, HT.out.2]
    rw [hc] at C ⊢
    clear hc
    go_enter Try.func71, Try.ntmps71
    go_wp2_with (go_at_call 36; refine (C.out).mono ?_; rintro e w' ⟨rfl, rfl⟩)
    go_ret
    exact ⟨rfl, H1.out, (Ch.refl _ _).st (by simp) _⟩
  · have HT := Lib.hid (show takeT t c d i = t ∧ takeC t c d i = upd c i false by unfold takeT takeC; rw [hc]; exact ⟨rfl, rfl⟩)
    rw [HT.out.1, HT.out.2]
    rw [hc] at C ⊢
    clear hc
    go_enter Try.func71, Try.ntmps71
    go_wp2_with (go_at_call 36; refine (C.out).mono ?_; rintro e w' ⟨rfl, rfl⟩)
    go_ret
    exact ⟨rfl, H2.out, (Ch.refl _ _).st (by simp) _⟩
end
end Go.Proofs.Ytfppmdnpjihcpaa
