/- Chapter 25 (gift): graphs in memory, and what the program's small functions return, for every graph. -/
import Derived.Test.YtkkobbomipcpoaaWebT
namespace Go.Proofs.Ytkkobbomipcpoaa
open Go.RowKit
set_option linter.unusedVariables false
set_option maxHeartbeats 1000000
/-- A slice of numbers that can be read. -/
def Rd (w : World) (v : Value) (zs : List Int) : Prop := ∃ a cp, v = .slice a zs.length cp ∧ zs.length ≤ cp ∧ cp ≤ 9223372036854775807 ∧ RowAt .i64 w a zs
theorem Sl.rd {w : World} {v : Value} {zs : List Int} (h : Sl 3 .i64 w v zs) : Rd w v zs := h.row
theorem Rd.gr {w w' : World} {v : Value} {zs : List Int} (h : Rd w v zs) (g : Gr w w') : Rd w' v zs := by
  obtain ⟨a, cp, h1, h2, h3, h4⟩ := h
  exact ⟨a, cp, h1, h2, h3, h4.gr g⟩
def holdI (x : Int) : Int := if x < 0 then 0 else if 7 < x then 7 else x
def atI (l : List Int) (i : Nat) (most : Nat) : Int := if l.length ≤ i ∨ l.getD i 0 < 0 ∨ (most : Int) ≤ l.getD i 0 then -1 else l.getD i 0
/-- A graph: n threads with their levels and what they wait for, m locks with their owners. -/
structure GS where
  n : Nat
  m : Nat
  lev : Nat → Int
  wt : Nat → Int
  ow : Nat → Int
namespace GS
variable (s : GS)
def next (t : Int) : Int := if 0 ≤ t ∧ t < s.n then (if s.wt t.toNat < 0 then -1 else s.ow (s.wt t.toNat).toNat) else -1
structure Ok : Prop where
  n64 : s.n ≤ 64
  m64 : s.m ≤ 64
  lev : ∀ i, 0 ≤ s.lev i ∧ s.lev i ≤ 7
  wt : ∀ i, -1 ≤ s.wt i ∧ s.wt i < s.m
  ow : ∀ i, -1 ≤ s.ow i ∧ s.ow i < s.n
theorem next_bd {s : GS} (h : s.Ok) (t : Int) : -1 ≤ s.next t ∧ s.next t < (s.n : Int) := by
  unfold next
  split
  · split
    · omega
    · exact h.ow _
  · omega
theorem next_neg : s.next (-1) = -1 := by simp [next]
end GS
def clean (L W O : List Int) : GS := ⟨min L.length 64, min O.length 64, fun i => holdI (L.getD i 0), fun i => atI W i (min O.length 64), fun i => atI O i (min L.length 64)⟩
theorem atI_bd (l : List Int) (i most : Nat) : -1 ≤ atI l i most ∧ atI l i most < (most : Int) := by
  unfold atI
  split <;> omega
theorem clean_ok (L W O : List Int) : (clean L W O).Ok := by
  refine ⟨?_, ?_, fun i => ?_, fun i => atI_bd _ _ _, fun i => atI_bd _ _ _⟩
  · show min L.length 64 ≤ 64; omega
  · show min O.length 64 ≤ 64; omega
  · show 0 ≤ holdI _ ∧ holdI _ ≤ 7; unfold holdI; split <;> (try split) <;> omega
/-- The program's graph: three slices that can be read. -/
def GV (w : World) (gv : Value) (L W O : List Int) : Prop := ∃ vl vw vo, gv = .agg #[vl, vw, vo] ∧ Rd w vl L ∧ Rd w vw W ∧ Rd w vo O
theorem GV.gr {w w' : World} {gv : Value} {L W O : List Int} (h : GV w gv L W O) (g : Gr w w') : GV w' gv L W O := by
  obtain ⟨vl, vw, vo, h1, h2, h3, h4⟩ := h
  exact ⟨vl, vw, vo, h1, h2.gr g, h3.gr g, h4.gr g⟩
theorem ghold (x : Int) (w : World) : Calls Try.prog 102 #[.int .i64 x] w fun e w' => e = .returned (.int .i64 (holdI x)) ∧ w = w' := by
  go_enter Try.func102, Try.ntmps102
  go_wp2
  all_goals go_ret
  all_goals (refine ⟨ret_int ?_, rfl⟩; unfold holdI; omega)
theorem rhold (x : Int) (w : World) : Calls Try.prog 38 #[.int .i64 x] w fun e w' => e = .returned (.int .i64 (holdI x)) ∧ w = w' := by
  go_enter Try.func38, Try.ntmps38
  go_wp2
  all_goals go_ret
  all_goals (refine ⟨ret_int ?_, rfl⟩; unfold holdI; omega)
theorem gthreads (gv : Value) (L W O : List Int) (w : World) (h : GV w gv L W O) : Calls Try.prog 68 #[gv] w fun e w' => e = .returned (.int .i64 ((clean L W O).n : Nat)) ∧ Gr w w' := by
  obtain ⟨vl, vw, vo, rfl, ⟨al, cl, rfl, hl1, hl2, hl⟩, ⟨aw, cw, rfl, hw1, hw2, hw⟩, ⟨ao, co, rfl, ho1, ho2, ho⟩⟩ := h
  clear hl hw ho
  by_cases h64 : L.length ≤ 64
  · have hn : (clean L W O).n = L.length := by show min L.length 64 = _; omega
    rw [hn]
    clear hn
    go_enter Try.func68, Try.ntmps68
    go_wp2
    go_ret
    exact ⟨ret_int (by omega), (Gr.refl w).al _⟩
  · have hn : (clean L W O).n = 64 := by show min L.length 64 = _; omega
    rw [hn]
    clear hn
    go_enter Try.func68, Try.ntmps68
    go_wp2
    go_ret
    exact ⟨ret_int (by omega), (Gr.refl w).al _⟩
def GS.th (s : GS) (t : Int) : Bool := decide (0 ≤ t ∧ t < s.n)
theorem RowAt.cell {k : IntKind} {w : World} {a : Option Addr} {zs : List Int} (h : RowAt k w a zs) {i : Nat} (hi : i < zs.length) : ∃ b off, a = some ⟨b, off, none⟩ ∧ w.cell? ⟨b, off + i, none⟩ = some (.int k (zs.getD i 0)) := by
  rcases h with h | ⟨b, off, h1, h2⟩
  · simp [h] at hi
  · exact ⟨b, off, h1, h2 i hi⟩
theorem gthread (gv : Value) (L W O : List Int) (t : Int) (w : World) (h : GV w gv L W O) : Calls Try.prog 86 #[gv, .int .i64 t] w fun e w' => e = .returned (.bool ((clean L W O).th t)) ∧ Gr w w' := by
  have HG := Lib.hid h
  obtain ⟨vl, vw, vo, rfl, ⟨al, cl, rfl, hl1, hl2, hl⟩, ⟨aw, cw, rfl, hw1, hw2, hw⟩, ⟨ao, co, rfl, ho1, ho2, ho⟩⟩ := h
  clear hl hw ho
  have g1 := (Gr.refl w).al (.cells #[.slice al L.length cl, .slice aw W.length cw, .slice ao O.length co] 25)
  have C := Lib.hid (gthreads _ L W O _ (HG.out.gr g1))
  have hn64 := (clean_ok L W O).n64
  unfold GS.th
  generalize (clean L W O).n = n at *
  by_cases h0 : 0 ≤ t
  · obtain ⟨i, rfl⟩ := Int.eq_ofNat_of_zero_le h0
    go_enter Try.func86, Try.ntmps86
    go_wp2_with (go_at_call 68; refine (C.out).mono ?_; rintro e w1 ⟨rfl, g2⟩)
    go_ret
    exact ⟨ret_bool (by simp), g1.tr g2⟩
  · have hd : decide (0 ≤ t) = false := by simpa using h0
    rw [show decide (0 ≤ t ∧ t < (n : Int)) = false by simp; omega]
    go_enter Try.func86, Try.ntmps86
    go_wp2_with fail
    go_ret
    exact ⟨rfl, g1⟩
theorem glevel (gv : Value) (L W O : List Int) (i : Nat) (w : World) (h : GV w gv L W O) (hi : i < (clean L W O).n) : Calls Try.prog 69 #[gv, .int .i64 i] w fun e w' => e = .returned (.int .i64 ((clean L W O).lev i)) ∧ Gr w w' := by
  obtain ⟨vl, vw, vo, rfl, ⟨al, cl, rfl, hl1, hl2, hl⟩, ⟨aw, cw, rfl, hw1, hw2, hw⟩, ⟨ao, co, rfl, ho1, ho2, ho⟩⟩ := h
  have hiL : i < L.length := by have : i < min L.length 64 := hi; omega
  obtain ⟨b, off, rfl, c1⟩ := hl.cell hiL
  clear hw ho hl
  rw [show (clean L W O).lev i = holdI (L.getD i 0) from rfl]
  have hlt : b < w.heap.size := World.block_lt_of_cell? _ _ c1
  have g1 := (Gr.refl w).al (.cells #[.slice (some ⟨b, off, none⟩) L.length cl, .slice aw W.length cw, .slice ao O.length co] 25)
  replace c1 := g1.cell_some c1
  generalize L.getD i 0 = z at *
  have i1 : (0 : Int) ≤ (i : Int) := by omega
  have i2 : (i : Int) < (L.length : Int) := by omega
  go_enter Try.func69, Try.ntmps69
  go_wp2_with (go_at_call 102; refine (ghold _ _).mono ?_; rintro e w1 ⟨rfl, rfl⟩)
  go_ret
  exact ⟨rfl, g1⟩
set_option maxRecDepth 100000 in
theorem gnext (gv : Value) (L W O : List Int) (i : Nat) (w : World) (h : GV w gv L W O) (hi : i < (clean L W O).n) : Calls Try.prog 111 #[gv, .int .i64 i] w fun e w' => e = .returned (.int .i64 ((clean L W O).next i)) ∧ Gr w w' := by
  have HG := Lib.hid h
  obtain ⟨vl, vw, vo, rfl, ⟨al, cl, rfl, hl1, hl2, hl⟩, ⟨aw, cw, rfl, hw1, hw2, hw⟩, ⟨ao, co, rfl, ho1, ho2, ho⟩⟩ := h
  have hi64 : i < 64 := by have := (clean_ok L W O).n64; omega
  have hB := Blk.new w 25 #[.slice al L.length cl, .slice aw W.length cw, .slice ao O.length co]
  have g1 := (Gr.refl w).al (.cells #[.slice al L.length cl, .slice aw W.length cw, .slice ao O.length co] 25)
  have e0 : (clean L W O).next i = if atI W i (min O.length 64) < 0 then -1 else atI O (atI W i (min O.length 64)).toNat (min L.length 64) := by
    unfold GS.next
    rw [if_pos (by omega)]
    rfl
  rw [e0]
  clear e0 hl
  have i1 : (0 : Int) ≤ (i : Int) := by omega
  by_cases hiW : i < W.length
  · obtain ⟨b, off, rfl, c1⟩ := hw.cell hiW
    replace c1 := g1.cell_some c1
    clear hw
    have eW : atI W i (min O.length 64) = if W.getD i 0 < 0 ∨ ((min O.length 64 : Nat) : Int) ≤ W.getD i 0 then -1 else W.getD i 0 := by
      unfold atI
      have : ¬ W.length ≤ i := by omega
      simp only [this, false_or]
    generalize W.getD i 0 = x at *
    have i2 : (i : Int) < (W.length : Int) := by omega
    by_cases hx0 : x < 0
    · rw [show (if atI W i (min O.length 64) < 0 then -1 else atI O (atI W i (min O.length 64)).toNat (min L.length 64)) = -1 by rw [show atI W i (min O.length 64) = -1 by rw [eW, if_pos (Or.inl hx0)]]; rfl]
      have tx : decide (x < 0) = true := by simpa using hx0
      clear eW ho hx0
      go_enter Try.func111, Try.ntmps111
      go_upto_region 4 with fail
      generalize w.alloc (.cells #[.slice al L.length cl, .slice (some ⟨b, off, none⟩) W.length cw, .slice ao O.length co] 25) = V at *
      generalize w.heap.size = X at *
      obtain ⟨d0, d1, d2, df⟩ := hB.c3
      go_quiet (fail)
      go_wp2_with fail
      go_ret
      exact ⟨rfl, g1.drewN _⟩
    · obtain ⟨q, rfl⟩ := Int.eq_ofNat_of_zero_le (show 0 ≤ x by omega)
      clear hx0
      by_cases hq : q < min O.length 64
      · rw [show (if atI W i (min O.length 64) < 0 then -1 else atI O (atI W i (min O.length 64)).toNat (min L.length 64)) = atI O q (min L.length 64) by
          rw [show atI W i (min O.length 64) = (q : Int) by rw [eW, if_neg (by omega)]]
          rw [if_neg (by omega)]
          rfl]
        have hqO : q < O.length := by omega
        obtain ⟨b2, off2, rfl, c2⟩ := ho.cell hqO
        replace c2 := g1.cell_some c2
        have eO : atI O q (min L.length 64) = if O.getD q 0 < 0 ∨ ((min L.length 64 : Nat) : Int) ≤ O.getD q 0 then -1 else O.getD q 0 := by
          unfold atI
          have : ¬ O.length ≤ q := by omega
          simp only [this, false_or]
        have eT : (clean L W O).th (O.getD q 0) = decide (0 ≤ O.getD q 0 ∧ O.getD q 0 < ((min L.length 64 : Nat) : Int)) := rfl
        generalize O.getD q 0 = y at *
        have C := Lib.hid (fun w' (g' : Gr w w') => gthread _ L W O y w' (HG.out.gr g'))
        have q1 : (0 : Int) ≤ (q : Int) := by omega
        have q2 : (q : Int) < (O.length : Int) := by omega
        have HM := Lib.hid hq
        have h64 : q < 64 := by omega
        have hds : ((¬ (64 : Int) < (O.length : Int) ∧ decide (O.length ≤ q) = false) ∨ ((64 : Int) < (O.length : Int) ∧ decide ((64 : Int) ≤ (q : Int)) = false)) := by
          simp only [decide_eq_false_iff_not]
          omega
        have tq0 : decide ((q : Int) < 0) = false := by simp
        clear eW ho hq
        by_cases hy : 0 ≤ y ∧ y < ((min L.length 64 : Nat) : Int)
        · rw [show atI O q (min L.length 64) = y by rw [eO, if_neg (by omega)]]
          rw [show (clean L W O).th y = true by rw [eT]; simpa using hy] at C
          clear eO eT hy
          rcases hds with ⟨hds, tq⟩ | ⟨hds, tq⟩
          all_goals
            go_enter Try.func111, Try.ntmps111
            go_upto_region 4 with fail
            have hcc : b < w.heap.size ∨ True := .inr trivial
            have G1 := Lib.hid g1
            generalize w.alloc (.cells #[.slice al L.length cl, .slice (some ⟨b, off, none⟩) W.length cw, .slice (some ⟨b2, off2, none⟩) O.length co] 25) = V at *
            generalize w.heap.size = X at *
            obtain ⟨d0, d1, d2, df⟩ := hB.c3
            have HC := Lib.hid (And.intro hB c2)
            go_region_held3 (fun w' => w'.cell? ⟨X, 0, none⟩ = some (.slice al L.length cl) ∧ w'.cell? ⟨X, 1, none⟩ = some (.slice (some ⟨b, off, none⟩) W.length cw) ∧ w'.cell? ⟨X, 2, none⟩ = some (.slice (some ⟨b2, off2, none⟩) O.length co) ∧ w'.cell? ⟨b2, off2 + q, none⟩ = some (.int .i64 y))
              (first | exact ⟨((HC.out.1.drew).gr g3).c3.1, ((HC.out.1.drew).gr g3).c3.2.1, ((HC.out.1.drew).gr g3).c3.2.2.1, g3.cell_some HC.out.2⟩ | exact ⟨d0, d1, d2, c2⟩)
              (first | (go_at_call 86; refine (C.out _ G1.out.drew).mono ?_; rintro e w3 ⟨rfl, g3⟩))
            all_goals
              have G3 := G1.out.drew.tr g3
              obtain ⟨f0, f1, f2, ff⟩ := ((HC.out.1.drew).gr g3).c3
              have c3 := g3.cell_some HC.out.2
              go_wp2_with fail
              go_ret
              exact ⟨rfl, G3⟩
        · rw [show atI O q (min L.length 64) = -1 by rw [eO, if_pos (by omega)]]
          rw [show (clean L W O).th y = false by rw [eT]; simpa using hy] at C
          clear eO eT hy
          rcases hds with ⟨hds, tq⟩ | ⟨hds, tq⟩
          all_goals
            go_enter Try.func111, Try.ntmps111
            go_upto_region 4 with fail
            have hcc : b < w.heap.size ∨ True := .inr trivial
            have G1 := Lib.hid g1
            generalize w.alloc (.cells #[.slice al L.length cl, .slice (some ⟨b, off, none⟩) W.length cw, .slice (some ⟨b2, off2, none⟩) O.length co] 25) = V at *
            generalize w.heap.size = X at *
            obtain ⟨d0, d1, d2, df⟩ := hB.c3
            have HC := Lib.hid (And.intro hB c2)
            go_region_held3 (fun w' => w'.cell? ⟨X, 0, none⟩ = some (.slice al L.length cl) ∧ w'.cell? ⟨X, 1, none⟩ = some (.slice (some ⟨b, off, none⟩) W.length cw) ∧ w'.cell? ⟨X, 2, none⟩ = some (.slice (some ⟨b2, off2, none⟩) O.length co) ∧ w'.cell? ⟨b2, off2 + q, none⟩ = some (.int .i64 y))
              (first | exact ⟨((HC.out.1.drew).gr g3).c3.1, ((HC.out.1.drew).gr g3).c3.2.1, ((HC.out.1.drew).gr g3).c3.2.2.1, g3.cell_some HC.out.2⟩ | exact ⟨d0, d1, d2, c2⟩)
              (first | (go_at_call 86; refine (C.out _ G1.out.drew).mono ?_; rintro e w3 ⟨rfl, g3⟩))
            all_goals
              have G3 := G1.out.drew.tr g3
              obtain ⟨f0, f1, f2, ff⟩ := ((HC.out.1.drew).gr g3).c3
              have c3 := g3.cell_some HC.out.2
              go_wp2_with fail
              go_ret
              exact ⟨rfl, G3⟩
      · rw [show (if atI W i (min O.length 64) < 0 then -1 else atI O (atI W i (min O.length 64)).toNat (min L.length 64)) = -1 by
          rw [show atI W i (min O.length 64) = -1 by rw [eW, if_pos (by omega)]]
          rfl]
        have hds : ((¬ (64 : Int) < (O.length : Int) ∧ decide (O.length ≤ q) = true) ∨ ((64 : Int) < (O.length : Int) ∧ decide ((64 : Int) ≤ (q : Int)) = true)) := by
          simp only [decide_eq_true_eq]
          omega
        have tq0 : decide ((q : Int) < 0) = false := by simp
        clear eW ho hq
        rcases hds with ⟨hds, tq⟩ | ⟨hds, tq⟩
        all_goals
          go_enter Try.func111, Try.ntmps111
          go_upto_region 4 with fail
          generalize w.alloc (.cells #[.slice al L.length cl, .slice (some ⟨b, off, none⟩) W.length cw, .slice ao O.length co] 25) = V at *
          generalize w.heap.size = X at *
          obtain ⟨d0, d1, d2, df⟩ := hB.c3
          go_quiet (fail)
          go_wp2_with fail
          go_ret
          exact ⟨rfl, g1.drewN _⟩
  · rw [show atI W i (min O.length 64) = -1 by unfold atI; rw [if_pos (.inl (by omega))], if_pos (by omega)]
    clear hw ho
    go_enter Try.func111, Try.ntmps111
    go_wp2_with fail
    go_ret
    exact ⟨rfl, g1⟩
end Go.Proofs.Ytkkobbomipcpoaa
