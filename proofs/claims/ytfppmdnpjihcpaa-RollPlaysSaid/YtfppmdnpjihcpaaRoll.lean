/- Contracts of the functions of chapter 20 (roll), for every input: what each returns, and what it does to its roll. -/
import Derived.Test.YtfppmdnpjihcpaaLines
namespace Go.Proofs.Ytfppmdnpjihcpaa
open Go.RowKit LinesP
set_option linter.unusedVariables false

/-- An id. -/
def idV (x q : Int) : Value := .agg #[.int .i64 x, .int .u32 q]
/-- A place, cell by cell. -/
def placeG (tk : Nat → Bool) (gn : Nat → Int) (i k : Nat) : Value := match k with | 0 => .bool (tk i) | _ => .int .u32 (gn i)
/-- Can a place be taken? -/
def opn (tk : Nat → Bool) (gn : Nat → Int) (i : Nat) : Bool := !tk i && decide (gn i < 4294967295)
theorem el98 : Elem Try.prog 98 103 (.agg #[.bool false, .int .u32 0]) 2 8 := ⟨Try.underlying98, by kernel_rfl, rfl, by decide⟩

/-- A roll of m places: the struct in block g, the row in block h. -/
structure RollAt (w : World) (g h m : Nat) (tk : Nat → Bool) (gn : Nat → Int) : Prop where
  hdr : Blk w g 101 #[.slice (some ⟨h, 0, none⟩) m m]
  row : Blk w h 103 (recs m 2 (placeG tk gn))
  ne : g ≠ h
  le : m ≤ 64
  bd : ∀ i, 0 ≤ gn i ∧ gn i ≤ 4294967295
section
variable {w w' : World} {g h m : Nat} {tk : Nat → Bool} {gn : Nat → Int} {S : List Nat} (l : RollAt w g h m tk gn)
include l
theorem RollAt.gr (k : Gr w w') : RollAt w' g h m tk gn := ⟨l.hdr.gr k, l.row.gr k, l.ne, l.le, l.bd⟩
theorem RollAt.ch (k : Ch S w w') (h1 : g ∉ S) (h2 : h ∉ S) : RollAt w' g h m tk gn := ⟨l.hdr.ch k h1, l.row.ch k h2, l.ne, l.le, l.bd⟩
theorem RollAt.cells {i : Nat} (hi : i < m) : w.cell? ⟨h, i * 2, none⟩ = some (.bool (tk i)) ∧ w.cell? ⟨h, i * 2 + 1, none⟩ = some (.int .u32 (gn i)) ∧ ∀ j, w.frozen? ⟨h, j, none⟩ = false :=
  ⟨(l.row.cell _).trans (recs_get m 2 _ i 0 hi (by omega)), (l.row.cell _).trans (recs_get m 2 _ i 1 hi (by omega)), l.row.frozen⟩
end
theorem placeG_t (tk : Nat → Bool) (gn : Nat → Int) (m i : Nat) (b : Bool) : recs m 2 (setG (placeG tk gn) i 0 (.bool b)) = recs m 2 (placeG (upd tk i b) gn) :=
  recs_congr _ _ _ _ fun j k _ hk => by
    have : k = 0 ∨ k = 1 := by omega
    rcases this with rfl | rfl <;> simp [setG, placeG, upd]
    all_goals (split <;> rfl)
theorem placeG_g (tk : Nat → Bool) (gn : Nat → Int) (m i : Nat) (x : Int) : recs m 2 (setG (placeG tk gn) i 1 (.int .u32 x)) = recs m 2 (placeG tk (upd gn i x)) :=
  recs_congr _ _ _ _ fun j k _ hk => by
    have : k = 0 ∨ k = 1 := by omega
    rcases this with rfl | rfl <;> simp [setG, placeG, upd]
    all_goals (split <;> rfl)
theorem RollAt.st_t {w : World} {g h m : Nat} {tk : Nat → Bool} {gn : Nat → Int} (l : RollAt w g h m tk gn) (i : Nat) (b : Bool) : RollAt (w.setCell ⟨h, i * 2, none⟩ (.bool b)) g h m (upd tk i b) gn :=
  ⟨l.hdr.far (p := ⟨h, i * 2, none⟩) l.ne _, by have := l.row.st (i * 2 + 0) (.bool b); rwa [recs_set _ _ _ _ _ _ (by omega), placeG_t] at this, l.ne, l.le, l.bd⟩
theorem RollAt.st_g {w : World} {g h m : Nat} {tk : Nat → Bool} {gn : Nat → Int} (l : RollAt w g h m tk gn) (i : Nat) (x : Int) (hx : 0 ≤ x ∧ x ≤ 4294967295) : RollAt (w.setCell ⟨h, i * 2 + 1, none⟩ (.int .u32 x)) g h m tk (upd gn i x) :=
  ⟨l.hdr.far (p := ⟨h, i * 2 + 1, none⟩) l.ne _, by have := l.row.st (i * 2 + 1) (.int .u32 x); rwa [recs_set _ _ _ _ _ _ (by omega), placeG_g] at this, l.ne, l.le, fun j => by
    unfold upd; split
    · exact hx
    · exact l.bd j⟩

theorem rollNew_any (n : Int) (w : World) :
    Calls Try.prog 13 #[.int .i64 n] w fun e w' => e = .returned (.pointer (some ⟨w.heap.size + 1, 0, none⟩)) ∧
      RollAt w' (w.heap.size + 1) w.heap.size (clampI n 0 64).toNat (fun _ => false) (fun _ => 0) ∧ Gr w w' := by
  obtain ⟨m, hm⟩ := Int.eq_ofNat_of_zero_le (show 0 ≤ clampI n 0 64 by unfold clampI; omega)
  have hle : m ≤ 64 := by unfold clampI at hm; omega
  have HM := Lib.hid hm
  clear hm
  have hmk := run_make_recs el98 m (by omega) (by omega)
  rw [show (recs m 2 fun _ k => (Value.agg #[.bool false, .int .u32 0]).cells[k]!) = recs m 2 (placeG (fun _ => false) fun _ => 0) from
    recs_congr _ _ _ _ fun i k _ hk => by
      have : k = 0 ∨ k = 1 := by omega
      rcases this with rfl | rfl <;> rfl] at hmk
  go_enter Try.func13, Try.ntmps13
  go_wp2_with (go_at_call 60; refine (clamp_any _ _ _ _).mono ?_; rintro e w' ⟨rfl, rfl⟩; rw [HM.out])
  go_ret
  refine ⟨rfl, ⟨?_, ?_, by omega, ?_, by simp⟩, ((Gr.refl w).al _).al _⟩
  · rw [HM.out]
    have := Blk.new (w.alloc (.cells (recs m 2 (placeG (fun _ => false) fun _ => 0)) 103)) 101 #[.slice (some ⟨w.heap.size, 0, none⟩) m m]
    rwa [World.size_alloc] at this
  · rw [HM.out]
    exact (Blk.new w 103 _).al _
  · rw [HM.out]; exact hle

theorem open_any (t : Bool) (x : Int) (w : World) : Calls Try.prog 62 #[.agg #[.bool t, .int .u32 x]] w fun e w' => e = .returned (.bool (!t && decide (x < 4294967295))) ∧ Gr w w' := by
  cases t
  · go_enter Try.func62, Try.ntmps62
    go_wp2
    go_ret
    exact ⟨by simp, (Gr.refl w).al _⟩
  · go_enter Try.func62, Try.ntmps62
    go_wp2
    go_ret
    exact ⟨by simp, (Gr.refl w).al _⟩

/-- A result that is an id and a bool. -/
theorem res30 {fn : Func} {p t : Tmp} (h : fn.results = #[.cell p 30, .tmp t]) (tmps : Array Value) (w : World) (g : Nat) (x q : Int) (hp : tmps.getD p undef = .pointer (some ⟨g, 0, none⟩)) (hb : Blk w g 30 #[.int .i64 x, .int .u32 q]) :
    (results fn tmps).run Try.prog w = .ok (.tuple #[idV x q, tmps.getD t undef]) w := by
  have hp' : tmps[p]?.getD undef = .pointer (some ⟨g, 0, none⟩) := by simpa using hp
  simp [results, h, hp', asAddr, idV, run_loadVar_row w g 30 30 #[.int .i64 x, .int .u32 q] (0, 0) _ hb Try.underlying30 rfl (by kernel_rfl)]
/-- There is no such place, or it is not taken, or there is no roll. -/
def NoPlace (w : World) (p : Option Addr) (x : Int) : Prop := p = none ∨ ∃ g h m tk gn, p = some ⟨g, 0, none⟩ ∧ RollAt w g h m tk gn ∧ (¬ (0 ≤ x ∧ x < m) ∨ ∃ i : Nat, x = i ∧ i < m ∧ tk i = false)

/-- Two cells stored into an id's block. -/
theorem st30 {W : World} {A : Nat} {a b : Value} (h : Blk W A 30 #[a, b]) (x q : Int) : Blk ((W.setCell ⟨A, 0, none⟩ (.int .i64 x)).setCell ⟨A, 1, none⟩ (.int .u32 q)) A 30 #[.int .i64 x, .int .u32 q] := by
  have := (h.st 0 (.int .i64 x)).st 1 (.int .u32 q)
  simpa using this
theorem grst {w W : World} {A : Nat} (g : Gr w W) (hA : w.heap.size ≤ A) (x q : Value) : Gr w ((W.setCell ⟨A, 0, none⟩ x).setCell ⟨A, 1, none⟩ q) := (g.st hA _).st hA _

theorem rat_no (p : Option Addr) (x : Int) (w : World) (hn : NoPlace w p x) : Calls Try.prog 46 #[.pointer p, .int .i64 x] w fun e w' => e = .returned (.tuple #[idV 0 0, .bool false]) ∧ Gr w w' := by
  rcases hn with rfl | ⟨g, h, m, tk, gn, rfl, l, hx⟩
  · go_enter Try.func46, Try.ntmps46
    go_wp2
    exact bodyPost_ret (res30 rfl _ _ _ _ _ rfl (Blk.new w 30 _)) rfl ⟨rfl, (Gr.refl w).al _⟩
  · have hg1 : Gr w (w.alloc (.cells #[.int .i64 0, .int .u32 0] 30)) := (Gr.refl w).al _
    have hA := Blk.new w 30 #[.int .i64 0, .int .u32 0]
    have hAle : w.heap.size ≤ w.heap.size := Nat.le_refl _
    replace l := l.gr hg1
    go_enter Try.func46, Try.ntmps46
    go_upto_region 1 with fail
    generalize w.alloc (.cells #[.int .i64 0, .int .u32 0] 30) = W at *
    generalize hAe : w.heap.size = A at hA hAle ⊢
    rw [← hAe] at hAle
    have HA := Lib.hid (And.intro hAle hAe)
    clear hAle hAe
    obtain ⟨c0, f0⟩ := l.hdr.c1
    obtain ⟨a0, a1, af⟩ := hA.c2
    by_cases h0 : x < 0
    · go_wp2
      (try simp only [Exit.inBlock, Exit.then])
      exact bodyPost_ret (res30 rfl _ _ _ _ _ rfl (st30 hA 0 0)) rfl ⟨rfl, grst hg1 (by have := HA.out.2; omega) _ _⟩
    · have hd : decide (x < 0) = false := by simpa using h0
      rcases hx with hx | ⟨i, rfl, hi, ht⟩
      · have hm : (m : Int) ≤ x := by omega
        go_wp2
        (try simp only [Exit.inBlock, Exit.then])
        exact bodyPost_ret (res30 rfl _ _ _ _ _ rfl (st30 hA 0 0)) rfl ⟨rfl, grst hg1 (by have := HA.out.2; omega) _ _⟩
      · have hm : decide ((m : Int) ≤ (i : Int)) = false := by simp; omega
        obtain ⟨c1, c2, cf⟩ := l.cells hi
        have hle := l.le
        rw [ht] at c1
        go_wp2
        (try simp only [Exit.inBlock, Exit.then])
        exact bodyPost_ret (res30 rfl _ _ _ _ _ rfl (st30 hA 0 0)) rfl ⟨rfl, grst hg1 (by have := HA.out.2; omega) _ _⟩
section
variable (g h m : Nat) (tk : Nat → Bool) (gn : Nat → Int) (i : Nat) (w : World) (l : RollAt w g h m tk gn) (hi : i < m)
include l hi
theorem rat_yes (ht : tk i = true) : Calls Try.prog 46 #[.pointer (some ⟨g, 0, none⟩), .int .i64 i] w fun e w' => e = .returned (.tuple #[idV i (gn i), .bool true]) ∧ Gr w w' := by
  have hg1 : Gr w (w.alloc (.cells #[.int .i64 0, .int .u32 0] 30)) := (Gr.refl w).al _
  have hA := Blk.new w 30 #[.int .i64 0, .int .u32 0]
  replace l := l.gr hg1
  obtain ⟨c1, c2, cf⟩ := l.cells hi
  rw [ht] at c1
  generalize gn i = q at c2 ⊢
  go_enter Try.func46, Try.ntmps46
  go_upto_region 1 with fail
  generalize w.alloc (.cells #[.int .i64 0, .int .u32 0] 30) = W at *
  generalize hAe : w.heap.size = A at hA ⊢
  have HA := Lib.hid hAe
  clear hAe
  obtain ⟨c0, f0⟩ := l.hdr.c1
  obtain ⟨a0, a1, af⟩ := hA.c2
  have hm : decide ((m : Int) ≤ (i : Int)) = false := by simp; omega
  have hle := l.le
  go_wp2
  (try simp only [Exit.inBlock, Exit.then])
  exact bodyPost_ret (res30 rfl _ _ _ _ _ rfl (st30 hA i q)) rfl ⟨rfl, grst hg1 (by have := HA.out; omega) _ _⟩
end

/-- Is an id there? -/
def hasB (m : Nat) (tk : Nat → Bool) (gn : Nat → Int) (x q : Int) : Bool := decide (0 ≤ x ∧ x < m) && tk x.toNat && decide (gn x.toNat = q)
theorem hasB_iff {m : Nat} {tk : Nat → Bool} {gn : Nat → Int} {x q : Int} : hasB m tk gn x q = true ↔ ∃ i : Nat, x = i ∧ i < m ∧ tk i = true ∧ gn i = q := by
  simp only [hasB, Bool.and_eq_true, decide_eq_true_eq]
  constructor
  · rintro ⟨⟨⟨h1, h2⟩, h3⟩, h4⟩
    obtain ⟨i, rfl⟩ := Int.eq_ofNat_of_zero_le h1
    exact ⟨i, rfl, by omega, by simpa using h3, by simpa using h4⟩
  · rintro ⟨i, rfl, h1, h2, h3⟩
    exact ⟨⟨by omega, by simpa using h2⟩, by simpa using h3⟩
theorem rhs_nil (x q : Int) (w : World) : Calls Try.prog 16 #[.pointer none, idV x q] w fun e w' => e = .returned (.bool false) ∧ Gr w w' := by
  unfold idV
  have C := Lib.hid (fun w' => rat_no none x w' (.inl rfl))
  unfold idV at C
  go_enter Try.func16, Try.ntmps16
  go_wp2_with fail
  with_reducible refine (C.out _).mono ?_
  rintro e w2 ⟨rfl, g2⟩
  go_wp2
  go_ret
  exact ⟨rfl, (((Gr.refl w).al _).tr g2).al _⟩
theorem rhs_any (g h m : Nat) (tk : Nat → Bool) (gn : Nat → Int) (x q : Int) (w : World) (l : RollAt w g h m tk gn) :
    Calls Try.prog 16 #[.pointer (some ⟨g, 0, none⟩), idV x q] w fun e w' => e = .returned (.bool (hasB m tk gn x q)) ∧ Gr w w' := by
  unfold idV
  have hg1 : Gr w (w.alloc (.cells #[.int .i64 x, .int .u32 q] 30)) := (Gr.refl w).al _
  have hA := Blk.new w 30 #[.int .i64 x, .int .u32 q]
  by_cases hy : ∃ i : Nat, x = i ∧ i < m ∧ tk i = true
  · obtain ⟨i, rfl, hi, ht⟩ := hy
    have C := Lib.hid (rat_yes g h m tk gn i _ (l.gr hg1) hi ht)
    unfold idV at C
    have HB := Lib.hid (show hasB m tk gn i q = (gn i == q) by 
      rw [Bool.eq_iff_iff, hasB_iff, beq_iff_eq]
      constructor
      · rintro ⟨j, h1, h2, h3, h4⟩
        obtain rfl : i = j := by omega
        exact h4
      · intro h
        exact ⟨i, rfl, hi, ht, h⟩)
    rw [HB.out]
    clear HB ht
    generalize gn i = z at *
    go_enter Try.func16, Try.ntmps16
    go_wp2_with fail
    generalize w.alloc (.cells #[.int .i64 i, .int .u32 q] 30) = W at *
    generalize w.heap.size = A at *
    with_reducible refine (C.out).mono ?_
    rintro e w2 ⟨rfl, g2⟩
    have hA2 := (hA.gr g2).al (.cells #[.int .i64 i, .int .u32 z] 30)
    have hA3 := Blk.new w2 30 #[.int .i64 i, .int .u32 z]
    obtain ⟨a0, a1, _⟩ := hA2.c2
    obtain ⟨b0, b1, _⟩ := hA3.c2
    by_cases hz : z = q
    · subst hz
      go_wp2
      go_ret
      exact ⟨ret_bool (by simp), (hg1.tr g2).al _⟩
    · have hz' : (z == q) = false := by simpa using hz
      go_wp2
      go_ret
      exact ⟨ret_bool (by simp [hz]), (hg1.tr g2).al _⟩
  · have hn : NoPlace (w.alloc (.cells #[.int .i64 x, .int .u32 q] 30)) (some ⟨g, 0, none⟩) x := .inr ⟨g, h, m, tk, gn, rfl, l.gr hg1, by
      by_cases h0 : 0 ≤ x ∧ x < m
      · obtain ⟨i, rfl⟩ := Int.eq_ofNat_of_zero_le h0.1
        exact .inr ⟨i, rfl, by omega, by
          cases ht : tk i
          · rfl
          · exact absurd ⟨i, rfl, by omega, ht⟩ hy⟩
      · exact .inl h0⟩
    have C := Lib.hid (rat_no _ x _ hn)
    unfold idV at C
    have HB := Lib.hid (show hasB m tk gn x q = false by
      cases hb : hasB m tk gn x q
      · rfl
      · obtain ⟨i, h1, h2, h3, h4⟩ := hasB_iff.1 hb; exact absurd ⟨i, h1, h2, h3⟩ hy)
    rw [HB.out]
    clear HB hy hn
    go_enter Try.func16, Try.ntmps16
    go_wp2_with fail
    generalize w.alloc (.cells #[.int .i64 x, .int .u32 q] 30) = W at *
    generalize w.heap.size = A at *
    with_reducible refine (C.out).mono ?_
    rintro e w2 ⟨rfl, g2⟩
    go_wp2
    go_ret
    exact ⟨rfl, (hg1.tr g2).al _⟩
theorem rfree_nil (x q : Int) (w : World) : Calls Try.prog 14 #[.pointer none, idV x q] w fun e w' => e = .returned (.bool false) ∧ Gr w w' := by
  unfold idV
  have C := Lib.hid (fun w' => rhs_nil x q w')
  unfold idV at C
  go_enter Try.func14, Try.ntmps14
  go_wp2_with (go_at_call 16; refine (C.out _).mono ?_; rintro e w2 ⟨rfl, g2⟩)
  go_ret
  exact ⟨rfl, ((Gr.refl w).al _).tr g2⟩
theorem rfree_no (g h m : Nat) (tk : Nat → Bool) (gn : Nat → Int) (x q : Int) (w : World) (l : RollAt w g h m tk gn) (hb : hasB m tk gn x q = false) :
    Calls Try.prog 14 #[.pointer (some ⟨g, 0, none⟩), idV x q] w fun e w' => e = .returned (.bool false) ∧ Gr w w' := by
  unfold idV
  have hg1 : Gr w (w.alloc (.cells #[.int .i64 x, .int .u32 q] 30)) := (Gr.refl w).al _
  have C := Lib.hid (rhs_any g h m tk gn x q _ (l.gr hg1))
  unfold idV at C
  rw [hb] at C
  go_enter Try.func14, Try.ntmps14
  go_wp2_with (go_at_call 16; refine (C.out).mono ?_; rintro e w2 ⟨rfl, g2⟩)
  go_ret
  exact ⟨rfl, ((Gr.refl w).al _).tr g2⟩
theorem rfree_yes (g h m : Nat) (tk : Nat → Bool) (gn : Nat → Int) (i : Nat) (q : Int) (w : World) (l : RollAt w g h m tk gn) (hb : hasB m tk gn i q = true) :
    Calls Try.prog 14 #[.pointer (some ⟨g, 0, none⟩), idV i q] w fun e w' => e = .returned (.bool true) ∧ RollAt w' g h m (upd tk i false) gn ∧ Ch [h] w w' := by
  unfold idV
  have hg1 : Gr w (w.alloc (.cells #[.int .i64 i, .int .u32 q] 30)) := (Gr.refl w).al _
  have hA := Blk.new w 30 #[.int .i64 i, .int .u32 q]
  have C := Lib.hid (rhs_any g h m tk gn i q _ (l.gr hg1))
  have hi : i < m := by obtain ⟨j, h1, h2, _⟩ := hasB_iff.1 hb; omega
  unfold idV at C
  rw [hb] at C
  clear hb
  go_enter Try.func14, Try.ntmps14
  go_wp2_with fail
  generalize w.alloc (.cells #[.int .i64 i, .int .u32 q] 30) = W at *
  generalize w.heap.size = A at *
  with_reducible refine (C.out).mono ?_
  rintro e w2 ⟨rfl, g2⟩
  have hA2 := hA.gr g2
  have l2 := (l.gr hg1).gr g2
  have hg2 := hg1.tr g2
  obtain ⟨a0, a1, _⟩ := hA2.c2
  obtain ⟨c0, f0⟩ := l2.hdr.c1
  obtain ⟨c1, c2, cf⟩ := l2.cells hi
  have hle := l2.le
  go_wp2_with fail
  go_region
  go_wp2
  go_ret
  exact ⟨rfl, (l2.st_t i false).gr ((Gr.refl _).drew), ((hg2.ch [h]).st (by simp) _).drew⟩

theorem rjump_nil (x q : Int) (w : World) : Calls Try.prog 44 #[.pointer none, .int .i64 x, .int .u32 q] w fun e w' => e = .returned (.bool false) ∧ w = w' := by
  go_enter Try.func44, Try.ntmps44
  go_wp2
  go_ret
  exact ⟨rfl, rfl⟩
theorem rall_nil (w : World) : Calls Try.prog 50 #[.pointer none] w fun e w' => e = .returned (.slice none 0 0) ∧ w = w' := by
  go_enter Try.func50, Try.ntmps50
  go_wp2
  go_ret
  exact ⟨rfl, rfl⟩
theorem rroom_nil (w : World) : Calls Try.prog 52 #[.pointer none] w fun e w' => e = .returned (.int .i64 0) ∧ w = w' := by
  go_enter Try.func52, Try.ntmps52
  go_wp2
  go_ret
  exact ⟨rfl, rfl⟩
theorem rtake_nil (w : World) : Calls Try.prog 15 #[.pointer none] w fun e w' => e = .returned (.tuple #[idV 0 0, .bool false]) ∧ Gr w w' := by
  go_enter Try.func15, Try.ntmps15
  go_wp2
  exact bodyPost_ret (res30 rfl _ _ _ _ _ rfl (Blk.new w 30 _)) rfl ⟨rfl, (Gr.refl w).al _⟩

section
variable (g h m : Nat) (tk : Nat → Bool) (gn : Nat → Int) (w : World) (l : RollAt w g h m tk gn)
include l
/-- The first place that can be taken: its number, or -1. -/
theorem ridx_some (i : Nat) (hi : i < m) (ho : opn tk gn i = true) (hb : ∀ j, j < i → opn tk gn j = false) :
    Calls Try.prog 61 #[.slice (some ⟨h, 0, none⟩) m m, .func (Fn.func 62) #[] #[]] w fun e w' => e = .returned (.int .i64 i) ∧ Gr w w' := by
  have hle := l.le
  have HL := Lib.hid l
  clear l
  go_enter Try.func61, Try.ntmps61
  go_wp2_with fail
  go_loopw [8] (fun v wr => ∃ k : Nat, k ≤ i ∧ v = .int .i64 k ∧ Gr w wr) (fun v _ => i - (intOf v).toNat)
  case atStart => exact ⟨0, by omega, rfl, Gr.refl w⟩
  case round =>
    obtain ⟨k, hk, rfl, gr⟩ := hrel
    have hkm : k < m := by omega
    obtain ⟨c1, c2, cf⟩ := (HL.out.gr gr).cells hkm
    by_cases hlt : k < i
    · have C := Lib.hid (open_any (tk k) (gn k) wr)
      rw [show (!tk k && decide (gn k < 4294967295)) = false from hb k hlt] at C
      generalize tk k = t at *
      generalize gn k = q at *
      go_wp2_with (go_at_call 62; refine (C.out).mono ?_; rintro e w2 ⟨rfl, g2⟩)
      go_roundw
      case rel => exact ⟨k + 1, by omega, by go_num, gr.tr g2⟩
      case measure => simp [intOf]; omega
    · obtain rfl : i = k := by omega
      have C := Lib.hid (open_any (tk i) (gn i) wr)
      rw [show (!tk i && decide (gn i < 4294967295)) = true from ho] at C
      generalize tk i = t at *
      generalize gn i = q at *
      go_wp2_with (go_at_call 62; refine (C.out).mono ?_; rintro e w2 ⟨rfl, g2⟩)
      go_ret
      exact ⟨rfl, gr.tr g2⟩
theorem ridx_none (hb : ∀ j, j < m → opn tk gn j = false) :
    Calls Try.prog 61 #[.slice (some ⟨h, 0, none⟩) m m, .func (Fn.func 62) #[] #[]] w fun e w' => e = .returned (.int .i64 (-1)) ∧ Gr w w' := by
  have hle := l.le
  have HL := Lib.hid l
  clear l
  go_enter Try.func61, Try.ntmps61
  go_wp2_with fail
  go_loopw [8] (fun v wr => ∃ k : Nat, k ≤ m ∧ v = .int .i64 k ∧ Gr w wr) (fun v _ => m - (intOf v).toNat)
  case atStart => exact ⟨0, by omega, rfl, Gr.refl w⟩
  case round =>
    obtain ⟨k, hk, rfl, gr⟩ := hrel
    by_cases hlt : k < m
    · obtain ⟨c1, c2, cf⟩ := (HL.out.gr gr).cells hlt
      have C := Lib.hid (open_any (tk k) (gn k) wr)
      rw [show (!tk k && decide (gn k < 4294967295)) = false from hb k hlt] at C
      generalize tk k = t at *
      generalize gn k = q at *
      go_wp2_with (go_at_call 62; refine (C.out).mono ?_; rintro e w2 ⟨rfl, g2⟩)
      go_roundw
      case rel => exact ⟨k + 1, by omega, by go_num, gr.tr g2⟩
      case measure => simp [intOf]; omega
    · obtain rfl : m = k := by omega
      go_wp2
      go_ret
      exact ⟨rfl, gr⟩
theorem rtk_none (hb : ∀ j, j < m → opn tk gn j = false) :
    Calls Try.prog 15 #[.pointer (some ⟨g, 0, none⟩)] w fun e w' => e = .returned (.tuple #[idV 0 0, .bool false]) ∧ Gr w w' := by
  have hg1 : Gr w (w.alloc (.cells #[.int .i64 0, .int .u32 0] 30)) := (Gr.refl w).al _
  have hA := Blk.new w 30 #[.int .i64 0, .int .u32 0]
  replace l := l.gr hg1
  go_enter Try.func15, Try.ntmps15
  go_upto_region 3 with fail
  generalize w.alloc (.cells #[.int .i64 0, .int .u32 0] 30) = W at *
  generalize hAe : w.heap.size = A at hA ⊢
  have HA := Lib.hid hAe
  clear hAe
  have C := Lib.hid (ridx_none g h m tk gn W l hb)
  obtain ⟨c0, f0⟩ := l.hdr.c1
  go_wp2_with fail
  with_reducible refine (C.out).mono ?_
  rintro e w2 ⟨rfl, g2⟩
  have hA2 := hA.gr g2
  obtain ⟨a0, a1, af⟩ := hA2.c2
  go_wp2
  (try simp only [Exit.inBlock, Exit.then])
  exact bodyPost_ret (res30 rfl _ _ _ _ _ rfl (st30 hA2 0 0)) rfl ⟨rfl, grst (hg1.tr g2) (by have := HA.out; omega) _ _⟩
theorem rtk_some (i : Nat) (hi : i < m) (ho : opn tk gn i = true) (hb : ∀ j, j < i → opn tk gn j = false) :
    Calls Try.prog 15 #[.pointer (some ⟨g, 0, none⟩)] w fun e w' => e = .returned (.tuple #[idV i (gn i + 1), .bool true]) ∧ RollAt w' g h m (upd tk i true) (upd gn i (gn i + 1)) ∧ Ch [h] w w' := by
  have hbd := l.bd i
  have hlt1 : gn i < 4294967295 := by simp [opn] at ho; exact ho.2
  have hg1 : Gr w (w.alloc (.cells #[.int .i64 0, .int .u32 0] 30)) := (Gr.refl w).al _
  have hA := Blk.new w 30 #[.int .i64 0, .int .u32 0]
  have hAh : h < w.heap.size := l.row.lt
  have hAg : g < w.heap.size := l.hdr.lt
  replace l := l.gr hg1
  go_enter Try.func15, Try.ntmps15
  go_upto_region 3 with fail
  generalize w.alloc (.cells #[.int .i64 0, .int .u32 0] 30) = W at *
  generalize hAe : w.heap.size = A at hA hAh hAg ⊢
  have HA := Lib.hid hAe
  clear hAe
  have C := Lib.hid (ridx_some g h m tk gn W l i hi ho hb)
  obtain ⟨c0, f0⟩ := l.hdr.c1
  clear ho hb
  go_wp2_with fail
  with_reducible refine (C.out).mono ?_
  rintro e w2 ⟨rfl, g2⟩
  clear c0 f0 C
  have l2 := l.gr g2
  have hA2 := hA.gr g2
  obtain ⟨c0, f0⟩ := l2.hdr.c1
  obtain ⟨c1, c2, cf⟩ := l2.cells hi
  have hle := l2.le
  go_upto_region 7 with fail
  have l3 := l2.st_t i true
  have k3 : Ch [h] w2 (w2.setCell ⟨h, i * 2, none⟩ (.bool true)) := (Ch.refl _ _).st (by simp) _
  generalize w2.setCell ⟨h, i * 2, none⟩ (.bool true) = w3 at *
  clear c0 f0 c1 c2 cf
  obtain ⟨c0, f0⟩ := l3.hdr.c1
  obtain ⟨c1, c2, cf⟩ := l3.cells hi
  have HS := Lib.hid (l3.st_g i (gn i + 1) (by omega))
  have k4 : Ch [h] w3 (w3.setCell ⟨h, i * 2 + 1, none⟩ (.int .u32 (gn i + 1))) := (Ch.refl _ _).st (by simp) _
  generalize hq : gn i = q at *
  go_upto_region 8 with fail
  have l4 := HS.out
  generalize w3.setCell ⟨h, i * 2 + 1, none⟩ (.int .u32 (q + 1)) = w4 at *
  have hA4 := (hA2.ch k3 (by simp; omega)).ch k4 (by simp; omega)
  have C := Lib.hid (rat_yes g h m _ _ i w4 l4 hi (by simp [upd]))
  rw [show upd gn i (q + 1) i = q + 1 by simp [upd]] at C
  unfold idV at C
  clear c0 f0 c1 c2 cf HS
  go_wp2_with (go_at_call 46; refine (C.out).mono ?_; rintro e w5 ⟨rfl, g5⟩; obtain ⟨a0, a1, af⟩ := (hA4.gr g5).c2)
  (try simp only [Exit.inBlock, Exit.then])
  have hA5 := hA4.gr g5
  have kk : Ch [h] w w4 := (((hg1.tr g2).ch [h]).tr k3 (by simp)).tr k4 (by simp)
  have hAw : w.heap.size ≤ A := by have := HA.out; omega
  refine bodyPost_ret (res30 rfl _ _ _ _ _ rfl (st30 hA5 i (q + 1))) rfl ?_
  rw [hq]
  have k6 : Ch [A] w5 ((w5.setCell ⟨A, 0, none⟩ (.int .i64 i)).setCell ⟨A, 1, none⟩ (.int .u32 (q + 1))) := ((Ch.refl _ _).st (by simp) _).st (by simp) _
  exact ⟨rfl, (l4.gr g5).ch k6 (by simp; omega) (by simp; omega), (kk.more g5).tr k6 (by simp; omega)⟩
end

theorem awake20_any (w : World) : Calls Try.prog 17 #[] w fun e w' => e = .returned (.bool true) ∧ Gr w w' := by
  go_enter Try.func17, Try.ntmps17
  go_wp2_with fail
  refine (rollNew_any 2 _).mono ?_
  rintro e w1 ⟨rfl, l1, g1⟩
  rw [show (clampI 2 0 64).toNat = 2 from rfl] at l1
  have hlt : w.heap.size + 1 < w1.heap.size := l1.hdr.lt
  have HH := Lib.hid (show ∃ H, w.heap.size = H from ⟨_, rfl⟩)
  obtain ⟨H, hH⟩ := HH.out
  rw [hH] at l1 hlt ⊢
  have HE := Lib.hid hH
  clear hH HH
  go_wp2_with fail
  refine (rtk_some _ _ 2 _ _ _ l1 0 (by omega) rfl (by omega)).mono ?_
  rintro e w2 ⟨rfl, l2, k2⟩
  unfold idV
  have s2 := k2.size
  go_upto_region 3 with fail
  have x2 := Blk.new w2 30 #[.int .i64 0, .int .u32 1]
  have l2' := l2.gr ((Gr.refl w2).al (.cells #[.int .i64 0, .int .u32 1] 30))
  have g2 : Gr w (w2.alloc (.cells #[.int .i64 0, .int .u32 1] 30)) := (g1.chs k2 (by have := HE.out; simp; omega)).al _
  generalize w2.alloc (.cells #[.int .i64 0, .int .u32 1] 30) = W2 at *
  generalize w2.heap.size = X2 at *
  clear k2 l2
  go_wp2_with fail
  have C3 := rtk_some _ _ 2 _ _ _ l2' 1 (by omega) rfl (by intro j hj; obtain rfl : j = 0 := (by omega); rfl)
  rw [show upd (fun _ => (0 : Int)) 0 (0 + 1) 1 + 1 = 1 from rfl] at C3
  refine C3.mono ?_
  clear C3
  rintro e w3 ⟨rfl, l3, k3⟩
  unfold idV
  have s3 := k3.size
  have hx2 := x2.lt
  go_upto_region 4 with fail
  have x3 := Blk.new w3 30 #[.int .i64 1, .int .u32 1]
  have x23 := (x2.ch k3 (by simp; omega)).al (.cells #[.int .i64 1, .int .u32 1] 30)
  have l3' := l3.gr ((Gr.refl w3).al (.cells #[.int .i64 1, .int .u32 1] 30))
  have g3 : Gr w (w3.alloc (.cells #[.int .i64 1, .int .u32 1] 30)) := (g2.chs k3 (by have := HE.out; simp; omega)).al _
  generalize w3.alloc (.cells #[.int .i64 1, .int .u32 1] 30) = W3 at *
  generalize w3.heap.size = X3 at *
  clear k3 l3 x2
  go_wp2_with fail
  refine (rtk_none _ _ 2 _ _ _ l3' (by
    intro j hj
    have : j = 0 ∨ j = 1 := by omega
    rcases this with rfl | rfl <;> rfl)).mono ?_
  rintro e w4 ⟨rfl, g4⟩
  unfold idV
  go_upto_region 5 with fail
  have g4' : Gr W3 (w4.alloc (.cells #[.int .i64 0, .int .u32 0] 30)) := g4.al _
  generalize w4.alloc (.cells #[.int .i64 0, .int .u32 0] 30) = W4 at *
  have l4 := l3'.gr g4'
  have x24 := x23.gr g4'
  have x34 := x3.gr g4'
  have hx3 := x34.lt
  have g4w := g3.tr g4'
  clear l3' x23 x3 g4 g4'
  obtain ⟨a0, a1, _⟩ := x24.c2
  have C := Lib.hid (rfree_yes _ _ 2 _ _ 0 1 _ l4 rfl)
  unfold idV at C
  go_wp2_with fail
  refine (C.out).mono ?_
  rintro e w5 ⟨rfl, l5, k5⟩
  clear a0 a1 C
  have x25 := x24.ch k5 (by simp; omega)
  have x35 := x34.ch k5 (by simp; omega)
  have g5 : Gr w w5 := g4w.chs k5 (by have := HE.out; simp; omega)
  clear x24 x34 k5 g4w
  go_wp2_with fail
  have C6 := rtk_some _ _ 2 _ _ _ l5 0 (by omega) rfl (by omega)
  rw [show upd (upd (fun _ => (0 : Int)) 0 (0 + 1)) 1 1 0 + 1 = 2 from rfl] at C6
  refine C6.mono ?_
  clear C6
  rintro e w6 ⟨rfl, l6, k6⟩
  unfold idV
  go_upto_region 7 with fail
  have x66 := Blk.new w6 30 #[.int .i64 0, .int .u32 2]
  have x26 := (x25.ch k6 (by simp; omega)).al (.cells #[.int .i64 0, .int .u32 2] 30)
  have x36 := (x35.ch k6 (by simp; omega)).al (.cells #[.int .i64 0, .int .u32 2] 30)
  have g6 : Gr w (w6.alloc (.cells #[.int .i64 0, .int .u32 2] 30)) := (g5.chs k6 (by have := HE.out; simp; omega)).al _
  clear k6 l6
  generalize w6.alloc (.cells #[.int .i64 0, .int .u32 2] 30) = W6 at *
  generalize w6.heap.size = X6 at *
  obtain ⟨a0, a1, _⟩ := x26.c2
  obtain ⟨b0, b1, _⟩ := x36.c2
  obtain ⟨c0, c1, _⟩ := x66.c2
  go_wp2
  go_ret
  exact ⟨rfl, g6⟩

theorem rollNil_walk (x q : Int) (w : World) (hx : -9223372036854775808 ≤ x ∧ x ≤ 9223372036854775807) (hq : 0 ≤ q ∧ q ≤ 4294967295) :
    Calls Try.prog 10 #[.agg #[.int .i64 x, .int .u32 q]] w fun e w' => e = .returned (.bool true) ∧ Gr w w' := by
  have hA := Blk.new w 30 #[.int .i64 x, .int .u32 q]
  have hg1 : Gr w (w.alloc (.cells #[.int .i64 x, .int .u32 q] 30)) := (Gr.refl w).al _
  go_enter Try.func10, Try.ntmps10
  go_upto_region 2 with fail
  generalize w.alloc (.cells #[.int .i64 x, .int .u32 q] 30) = W at *
  generalize w.heap.size = A at *
  go_wp2_with fail
  refine (rtake_nil _).mono ?_
  rintro e w1 ⟨rfl, g1⟩
  unfold idV
  go_upto_region 3 with fail
  have b1 := Blk.new w1 30 #[.int .i64 0, .int .u32 0]
  have hA1 := (hA.gr g1).al (.cells #[.int .i64 0, .int .u32 0] 30)
  have g1' : Gr w (w1.alloc (.cells #[.int .i64 0, .int .u32 0] 30)) := (hg1.tr g1).al _
  clear hA hg1 g1
  generalize w1.alloc (.cells #[.int .i64 0, .int .u32 0] 30) = W1 at *
  generalize w1.heap.size = B at *
  obtain ⟨a0, a1, _⟩ := hA1.c2
  go_wp2_with fail
  refine (rat_no none x _ (.inl rfl)).mono ?_
  rintro e w2 ⟨rfl, g2⟩
  unfold idV
  go_upto_region 4 with fail
  clear a0 a1
  have b2 := Blk.new w2 30 #[.int .i64 0, .int .u32 0]
  have b1' := (b1.gr g2).al (.cells #[.int .i64 0, .int .u32 0] 30)
  have hA2 := (hA1.gr g2).al (.cells #[.int .i64 0, .int .u32 0] 30)
  have g2' : Gr w (w2.alloc (.cells #[.int .i64 0, .int .u32 0] 30)) := (g1'.tr g2).al _
  clear hA1 b1 g2 g1'
  generalize w2.alloc (.cells #[.int .i64 0, .int .u32 0] 30) = W2 at *
  generalize w2.heap.size = D at *
  obtain ⟨a0, a1, _⟩ := hA2.c2
  obtain ⟨d0, d1, _⟩ := b1'.c2
  obtain ⟨e0, e1, _⟩ := b2.c2
  have C14 := Lib.hid (fun w' => rfree_nil x q w')
  have C16 := Lib.hid (fun w' => rhs_nil x q w')
  unfold idV at C14 C16
  go_wp2_with (first
    | (go_at_call 14; refine (C14.out _).mono ?_; rintro e w3 ⟨rfl, g3⟩; obtain ⟨a0, a1, _⟩ := (hA2.gr g3).c2)
    | (go_at_call 16; refine (C16.out _).mono ?_; rintro e w4 ⟨rfl, g4⟩; obtain ⟨a0, a1, _⟩ := (hA2.gr (g3.tr g4)).c2)
    | (go_at_call 50; refine (rall_nil _).mono ?_; rintro e w5 ⟨rfl, rfl⟩)
    | (go_at_call 52; refine (rroom_nil _).mono ?_; rintro e w5 ⟨rfl, rfl⟩)
    | (go_at_call 44; refine (rjump_nil _ _ _).mono ?_; rintro e w5 ⟨rfl, rfl⟩)
    | (go_at_call 17; refine (awake20_any _).mono ?_; rintro e w6 ⟨rfl, g6⟩))
  go_ret
  exact ⟨rfl, ((g2'.tr g3).tr g4).tr g6⟩
end Go.Proofs.Ytfppmdnpjihcpaa
