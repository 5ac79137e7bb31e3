/- The contract of the document's Cancel (chapter 27), for every input. -/
import Derived.Test.YtbeoomjcipbjjaaNp11
namespace Go.Proofs.Ytbeoomjcipbjjaa
open Go.RowKit
set_option linter.unusedVariables false

def canD (K : Nat → Int) (D : List NE) (p : Int) : List NE := if kdS K p = 0 then D else D.filter fun x => !decide (x.pl = p.toNat)
theorem NR.can {s : TS} {K : Nat → Int} {D : List NE} (h : NR s K D) (p : Int) : NR (canNS s K p) (canNK K p) (canD K D p) := by
  unfold canNS canNK canD
  split
  · exact h
  · exact h.cancel p.toNat
def DCan (r : Nat) (n : Int) (D' : List NE) (v : Value) (b : Bool) (w : World) (e : Ending) (w' : World) : Prop := e = .returned (.bool b) ∧ ∃ v', ND w' r n D' v' ∧ Ch [r] w w' ∧ Foot w (sb v) (sb v')
theorem DCan.mk {r : Nat} {n : Int} {D D' : List NE} {v v' : Value} {w w' : World} (m : ND w r n D v) (g : Gr w w') (s : SC 4 77 w' v' D'.length (encD D')) (f : Foot w [] (sb v')) : DCan r n D' v true w (.returned (.bool true)) (w'.setCell ⟨r, 1, none⟩ v') :=
  ⟨rfl, v', nd_store m g s f⟩
set_option maxRecDepth 100000 in
set_option maxHeartbeats 8000000 in
theorem dcan_at (r : Nat) (n : Int) (D : List NE) (v : Value) (i : Nat) (p : Int) (w : World) (m : ND w r n D v) (hi : i < D.length) (hl : D.length ≤ 64)
    (CI : Calls Try.prog 33 #[.pointer (some ⟨r, 0, none⟩), .int .i64 p] w fun e w' => e = .returned (.int .i64 i) ∧ w = w') :
    Calls Try.prog 55 #[.pointer (some ⟨r, 0, none⟩), .int .i64 p] w (DCan r n (D.take i ++ D.drop (i + 1)) v true w) := by
  have CI := Lib.hid CI
  obtain ⟨c0, c1, cf⟩ := m.hdr.c2
  obtain ⟨b, off, cl, rfl, hcl, hcm, _, _, _⟩ := m.row.cells (by omega)
  have hrw := m.hdr.lt
  have HM := Lib.hid m
  have T1 := Lib.hid (m.row.take i (by omega))
  have T2 := Lib.hid (m.row.drop (i + 1) (by omega))
  have T3 := Lib.hid (m.row.none_at)
  clear m
  obtain ⟨j, hj⟩ : ∃ j, i + 1 = j := ⟨_, rfl⟩
  have hwr : IntKind.i64.wrap ((i : Int) + 1) = (j : Int) := by rw [IntKind.wrap_i64]; omega
  have i3 : i ≤ cl := by omega
  have i4 : j ≤ D.length := by omega
  have i5 : j ≤ cl := by omega
  rw [hj] at T2 ⊢
  have g0 : Gr w w.drew := (Gr.refl w).drew
  have KP := Lib.hid (fun (w' : World) (g : Gr w w') => (show w'.cell? ⟨r, 1, none⟩ = some (.slice (some ⟨b, off, none⟩) D.length cl) from g.cell_some c1))
  have KZ := Lib.hid (fun (w' : World) (g : Gr w w') => (HM.out.hdr.gr g).frozen)
  by_cases hc : cl = j
  · obtain rfl : D.length = j := by omega
    obtain rfl : D.length = cl := by omega
    clear hj T2
    go_enter Try.func55, Try.ntmps55
    go_upto_region 4 with (go_at_call 33; refine (CI.out).mono ?_; rintro e w1 ⟨rfl, rfl⟩)
    go_region_law (first
      | (refine step_scA el70 (.tmp 12) (.tmp 18) (.slice (some ⟨w.heap.size, 0, none⟩) 0 0) (.slice (some ⟨b, off, none⟩) i D.length) 0 i [] ((encD D).take (i * 4)) (w.drew.alloc (.cells #[] 77)) rfl rfl rfl rfl (SC.empty (Blk.new w.drew 77 #[])) (T1.out.gr (g0.al _)) (by omega) (by omega) ?_; intro v5 w5 s5 k5 f5; rw [Nat.zero_add, List.nil_append] at s5; have G5 : Gr w w5 := (g0.al (.cells #[] 77)).chs k5 (by simp [sb]); have S5 := Lib.hid (And.intro s5 (show Foot w [] (sb v5) from fun x hx => by rcases f5 x hx with h | h; (simp [sb] at h; exact .inr (by omega)); (exact .inr (Nat.le_trans ((g0.al (.cells #[] 77)).size_le) h)))); obtain ⟨a5, c5, rfl, _, _⟩ := s5.len; clear s5 f5 k5; have x1 := KP.out _ G5; have fz := KZ.out _ G5)
      | (refine step_scA el70 (.tmp 19) (.tmp 26) (.slice a5 i c5) (.slice (some ⟨b, off, none⟩) 0 0) i 0 ((encD D).take (i * 4)) [] w5 rfl rfl rfl rfl S5.out.1 (T3.out.gr G5) (by omega) (by omega) ?_; intro v6 w6 s6 k6 f6; have G6 : Gr w w6 := G5.new k6 S5.out.2; have S6 := Lib.hid (And.intro s6 (S5.out.2.tr f6 G5.size_le)); obtain ⟨a6, c6, rfl, _, _⟩ := s6.len; clear s6 f6 k6; have z1 := KP.out _ G6; have fz := KZ.out _ G6))
    all_goals
      go_wp2_with fail
      go_ret
      exact DCan.mk HM.out G6 (by rw [List.drop_length, List.append_nil, encD_take, List.length_take, Nat.min_eq_left (by omega)]; have h := S6.out.1; rw [Nat.add_zero, List.append_nil] at h; exact h) S6.out.2
  · have i2 : j < cl := by omega
    clear hj
    go_enter Try.func55, Try.ntmps55
    go_upto_region 4 with (go_at_call 33; refine (CI.out).mono ?_; rintro e w1 ⟨rfl, rfl⟩)
    go_region_law (first
      | (refine step_scA el70 (.tmp 12) (.tmp 18) (.slice (some ⟨w.heap.size, 0, none⟩) 0 0) (.slice (some ⟨b, off, none⟩) i cl) 0 i [] ((encD D).take (i * 4)) (w.drew.alloc (.cells #[] 77)) rfl rfl rfl rfl (SC.empty (Blk.new w.drew 77 #[])) (T1.out.gr (g0.al _)) (by omega) (by omega) ?_; intro v5 w5 s5 k5 f5; rw [Nat.zero_add, List.nil_append] at s5; have G5 : Gr w w5 := (g0.al (.cells #[] 77)).chs k5 (by simp [sb]); have S5 := Lib.hid (And.intro s5 (show Foot w [] (sb v5) from fun x hx => by rcases f5 x hx with h | h; (simp [sb] at h; exact .inr (by omega)); (exact .inr (Nat.le_trans ((g0.al (.cells #[] 77)).size_le) h)))); obtain ⟨a5, c5, rfl, _, _⟩ := s5.len; clear s5 f5 k5; have x1 := KP.out _ G5; have fz := KZ.out _ G5)
      | (refine step_scA el70 (.tmp 19) (.tmp 26) (.slice a5 i c5) (.slice (some ⟨b, off + j * 4, none⟩) (D.length - j) (cl - j)) i (D.length - j) ((encD D).take (i * 4)) ((encD D).drop (j * 4)) w5 rfl rfl rfl rfl S5.out.1 (T2.out.gr G5) (by omega) (by omega) ?_; intro v6 w6 s6 k6 f6; have G6 : Gr w w6 := G5.new k6 S5.out.2; have S6 := Lib.hid (And.intro s6 (S5.out.2.tr f6 G5.size_le)); obtain ⟨a6, c6, rfl, _, _⟩ := s6.len; clear s6 f6 k6; have z1 := KP.out _ G6; have fz := KZ.out _ G6))
    all_goals
      go_wp2_with fail
      go_ret
      exact DCan.mk HM.out G6 (by rw [encD_app, encD_take, encD_drop, List.length_append, List.length_take, List.length_drop, Nat.min_eq_left (by omega)]; exact S6.out.1) S6.out.2
set_option maxRecDepth 100000 in
theorem dcancel (r : Nat) (s : TS) (K : Nat → Int) (D : List NE) (v : Value) (p : Int) (w : World) (m : ND w r s.now D v) (h : NR s K D) :
    Calls Try.prog 55 #[.pointer (some ⟨r, 0, none⟩), .int .i64 p] w (DCan r s.now (canD K D p) v (decide (kdS K p ≠ 0)) w) := by
  have CI := dat r s.now D v p w m h.le64
  by_cases h0 : kdS K p = 0
  · have CJ : Hid (Calls Try.prog 33 #[.pointer (some ⟨r, 0, none⟩), .int .i64 p] w fun e w' => e = .returned (.int .i64 (-1)) ∧ w = w') := Lib.hid (CI.mono fun e w' ⟨k, he, hat, hw⟩ => by
      rcases hat.neg h with ⟨_, rfl⟩ | ⟨h1, _⟩
      · exact ⟨he, hw⟩
      · exact absurd h0 h1)
    rw [show canD K D p = D by unfold canD; rw [if_pos h0], show decide (kdS K p ≠ 0) = false by simp [h0]]
    have HM := Lib.hid m
    clear m h CI h0
    go_enter Try.func55, Try.ntmps55
    go_wp2_with (go_at_call 33; refine (CJ.out).mono ?_; rintro e w1 ⟨rfl, rfl⟩)
    go_ret
    exact ⟨rfl, v, HM.out, Ch.refl _ _, Foot.refl _ _⟩
  · rw [show decide (kdS K p ≠ 0) = true by simpa using h0]
    -- where the nap stands
    have hp : 0 ≤ p ∧ p < 64 := Classical.byContradiction fun e => h0 (kdS_no K e)
    obtain ⟨j, rfl⟩ := Int.eq_ofNat_of_zero_le hp.1
    have hj : j < 64 := by omega
    obtain ⟨x, hx, hxp⟩ := h.all j (by rw [← kdS_at K hj]; exact h0)
    obtain ⟨i, hi, hxi⟩ := List.mem_iff_getElem.1 hx
    have hix : D[i]? = some x := by rw [List.getElem?_eq_getElem hi, hxi]
    have CJ : Calls Try.prog 33 #[.pointer (some ⟨r, 0, none⟩), .int .i64 j] w fun e w' => e = .returned (.int .i64 i) ∧ w = w' := CI.mono fun e w' ⟨k, he, hat, hw⟩ => by
      rcases hat.neg h with ⟨h1, _⟩ | ⟨_, i2, x2, rfl, hi2, hp2, _⟩
      · exact absurd h1 h0
      · refine ⟨?_, hw⟩
        obtain ⟨hi2', hx2⟩ := List.getElem?_eq_some_iff.1 hi2
        have : i2 = i := by
          rcases Nat.lt_trichotomy i2 i with e | e | e
          · have := (List.pairwise_iff_getElem.1 h.ord i2 i hi2' hi e).1
            rw [hx2, hxi] at this; omega
          · exact e
          · have := (List.pairwise_iff_getElem.1 h.ord i i2 hi hi2' e).1
            rw [hx2, hxi] at this; omega
        rw [this] at he
        exact he
    have := dcan_at r s.now D v i j w m hi h.le64 CJ
    rw [cut_filter h.ord hix, hxp] at this
    rw [show canD K D j = D.filter fun y => !decide (y.pl = j) by unfold canD; rw [if_neg h0, Int.toNat_natCast]]
    exact this
end Go.Proofs.Ytbeoomjcipbjjaa
