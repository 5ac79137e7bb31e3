/- The contracts of the document's Tick and of the comparison of what ends (chapter 27), for every input. -/
import Derived.Test.YtbeoomjcipbjjaaNp12
import Derived.Test.YtbeoomjcipbjjaaNp8
namespace Go.Proofs.Ytbeoomjcipbjjaa
open Go.RowKit
set_option linter.unusedVariables false

def dueD (n : Int) (x : NE) : Bool := decide (x.ti = n + 1) && !x.nv
theorem take_snocD (D : List NE) {i : Nat} {x : NE} (h : D[i]? = some x) : D.take (i + 1) = D.take i ++ [x] := by
  obtain ⟨hi, rfl⟩ := List.getElem?_eq_some_iff.1 h
  rw [List.take_succ_eq_append_getElem hi]
theorem due_yes (D : List NE) (f : NE → Bool) {i : Nat} {x : NE} (h : D[i]? = some x) (hf : f x = true) : (D.take (i + 1)).filter f = (D.take i).filter f ++ [x] := by
  rw [take_snocD D h, List.filter_append]; simp [hf]
theorem due_no (D : List NE) (f : NE → Bool) {i : Nat} {x : NE} (h : D[i]? = some x) (hf : f x = false) : (D.take (i + 1)).filter f = (D.take i).filter f := by
  rw [take_snocD D h, List.filter_append]; simp [hf]
theorem take_len (D : List NE) (f : NE → Bool) (i : Nat) (hD : D.length ≤ 64) : ((D.take i).filter f).length ≤ 64 := by
  have h1 := List.length_filter_le f (D.take i)
  rw [List.length_take] at h1
  omega
def DTick (r : Nat) (n : Int) (D : List NE) (w : World) (e : Ending) (w' : World) : Prop :=
  ∃ vd v', e = .returned vd ∧ SC 4 77 w' vd (D.filter (dueD n)).length (encD (D.filter (dueD n))) ∧ ND w' r (n + 1) (D.filter fun x => !dueD n x) v' ∧ Ch [r] w w' ∧ Foot w [] (sb v') ∧ Foot w [] (sb vd)
theorem dtick_top (r : Nat) (n : Int) (D : List NE) (v : Value) (w : World) (m : ND w r n D v) (hM : n = 18446744073709551615) : Calls Try.prog 57 #[.pointer (some ⟨r, 0, none⟩)] w fun e w' => e = .returned (.slice none 0 0) ∧ w = w' := by
  obtain ⟨c0, c1, cf⟩ := m.hdr.c2
  have q : (n == 18446744073709551615) = true := by simpa using hM
  clear m hM
  go_enter Try.func57, Try.ntmps57
  go_wp2_with fail
  go_ret
  exact ⟨rfl, rfl⟩
/-- Within the round: the row read so far, parted in two new slices. -/
structure TkInv (w1 wr : World) (r : Nat) (n : Int) (D : List NE) (v : Value) (i : Nat) (vd vl : Value) : Prop where
  m : ND wr r (n + 1) D v
  sd : SC 4 77 wr vd ((D.take i).filter (dueD n)).length (encD ((D.take i).filter (dueD n)))
  sl : SC 4 77 wr vl ((D.take i).filter fun x => !dueD n x).length (encD ((D.take i).filter fun x => !dueD n x))
  fd : Foot w1 [] (sb vd)
  fl : Foot w1 [] (sb vl)
  dj : Disj (sb vd) (sb vl)
  gr : Gr w1 wr
theorem Foot.new {w : World} {S : List Nat} (f : Foot w [] S) : ∀ x ∈ S, w.heap.size ≤ x := fun x hx => (f x hx).elim (fun h => by cases h) id
theorem TkInv.due {w1 wr w' : World} {r : Nat} {n : Int} {D : List NE} {v : Value} {i : Nat} {vd vl vd' : Value} {x : NE} (h : TkInv w1 wr r n D v i vd vl) (hv : In w1 (r :: sb v)) (hx : D[i]? = some x) (hd : dueD n x = true)
    (s : SC 4 77 w' vd' (((D.take i).filter (dueD n)).length + 1) (encD ((D.take i).filter (dueD n)) ++ x.enc)) (k : Ch (sb vd) wr w') (f : Foot wr (sb vd) (sb vd')) : TkInv w1 w' r n D v (i + 1) vd' vl := by
  have e1 := due_yes D (dueD n) hx hd
  have e2 := due_no D (fun y => !dueD n y) hx (by simp [hd])
  refine ⟨h.m.ch k (fun y hy hm => ?_), ?_, ?_, h.fd.tr f h.gr.size_le, h.fl, ?_, h.gr.chs k h.fd.new⟩
  · have := hv y hy; have := h.fd.new y hm; omega
  · rw [e1, encD_app, List.length_append]; simpa [encD] using s
  · rw [e2]; exact h.sl.ch k (fun y hy hm => h.dj y hm hy)
  · exact (Disj.foot h.dj h.sl.inn f)
theorem TkInv.left {w1 wr w' : World} {r : Nat} {n : Int} {D : List NE} {v : Value} {i : Nat} {vd vl vl' : Value} {x : NE} (h : TkInv w1 wr r n D v i vd vl) (hv : In w1 (r :: sb v)) (hx : D[i]? = some x) (hd : dueD n x = false)
    (s : SC 4 77 w' vl' (((D.take i).filter fun x => !dueD n x).length + 1) (encD ((D.take i).filter fun x => !dueD n x) ++ x.enc)) (k : Ch (sb vl) wr w') (f : Foot wr (sb vl) (sb vl')) : TkInv w1 w' r n D v (i + 1) vd vl' := by
  have e1 := due_no D (dueD n) hx hd
  have e2 := due_yes D (fun y => !dueD n y) hx (by simp [hd])
  refine ⟨h.m.ch k (fun y hy hm => ?_), ?_, ?_, h.fd, h.fl.tr f h.gr.size_le, ?_, h.gr.chs k h.fl.new⟩
  · have := hv y hy; have := h.fl.new y hm; omega
  · rw [e1]; exact h.sd.ch k (fun y hy hm => h.dj y hy hm)
  · rw [e2, encD_app, List.length_append]; simpa [encD] using s
  · exact (Disj.foot h.dj.symm h.sd.inn f).symm
theorem TkInv.more {w1 wr w' : World} {r : Nat} {n : Int} {D : List NE} {v : Value} {i : Nat} {vd vl : Value} (h : TkInv w1 wr r n D v i vd vl) (k : Gr wr w') : TkInv w1 w' r n D v i vd vl :=
  ⟨h.m.gr k, h.sd.gr k, h.sl.gr k, h.fd, h.fl, h.dj, h.gr.tr k⟩
set_option maxRecDepth 100000 in
set_option maxHeartbeats 2000000 in
theorem dtick (r : Nat) (n : Int) (D : List NE) (v : Value) (w : World) (m : ND w r n D v) (hn : 0 ≤ n ∧ n < 18446744073709551615) (hD : D.length ≤ 64) : Calls Try.prog 57 #[.pointer (some ⟨r, 0, none⟩)] w (DTick r n D w) := by
  obtain ⟨c0, c1, cf⟩ := m.hdr.c2
  obtain ⟨hn0, hn1⟩ := hn
  have q : (n == 18446744073709551615) = false := by simp; omega
  have hnr := m.nr
  have k0 : Ch [r] w (w.setCell ⟨r, 0, none⟩ (.int .u64 (n + 1))) := (Ch.refl [r] w).st (by simp) _
  have m1 : ND (w.setCell ⟨r, 0, none⟩ (.int .u64 (n + 1))) r (n + 1) D v := ⟨m.hdr.st 0 _, m.row.ch k0 (fun x hx hm => by simp at hm; subst hm; exact hnr hx)⟩
  have I0 : TkInv (w.setCell ⟨r, 0, none⟩ (.int .u64 (n + 1))) (w.setCell ⟨r, 0, none⟩ (.int .u64 (n + 1))) r n D v 0 (.slice none 0 0) (.slice none 0 0) :=
    ⟨m1, SC.nil _ _ _, SC.nil _ _ _, fun x hx => by simp [sb] at hx, fun x hx => by simp [sb] at hx, fun x hx => by simp [sb] at hx, Gr.refl _⟩
  have HI0 := Lib.hid (And.intro I0 (And.intro k0 m1.inn))
  obtain ⟨al, cl, rfl, _, _⟩ := m.row.len
  clear m m1 I0 hnr k0
  go_enter Try.func57, Try.ntmps57
  go_upto_region 5 with fail
  generalize (w.setCell ⟨r, 0, none⟩ (.int .u64 (n + 1))) = w1 at *
  clear c0 c1 cf
  go_wp2_with fail
  go_loopw [3, 4, 5] (fun vd vl i wr => ∃ k : Nat, k ≤ D.length ∧ i = .int .i64 k ∧ TkInv w1 wr r n D (.slice al D.length cl) k vd vl) (fun _ _ i _ => D.length - (intOf i).toNat)
  case atStart => exact ⟨0, by omega, rfl, HI0.out.1⟩
  case round =>
    obtain ⟨k, hk, rfl, hI⟩ := hrel
    have HI := Lib.hid hI
    clear hI
    obtain ⟨c0, c1, cf⟩ := HI.out.m.hdr.c2
    by_cases hlt : k < D.length
    · have i1 : (k : Int) < (D.length : Int) := by omega
      obtain ⟨x, hx⟩ : ∃ x, D[k]? = some x := ⟨D[k], by simp [hlt]⟩
      obtain ⟨b, o, c, he, _, _, hc, _, hb⟩ := HI.out.m.row.cells (by omega)
      cases he
      obtain ⟨e0, e1, e2, e3⟩ := encD_get D k x hx
      have x0 := hc _ _ e0
      have x1 := hc _ _ e1
      have x2 := hc _ _ e2
      have x3 := hc _ _ e3
      rw [← Nat.add_assoc] at x1 x2 x3
      have HX := Lib.hid hx
      have ld := take_len D (dueD n) k hD
      have ll := take_len D (fun x => !dueD n x) k hD
      have H2 := Lib.hid HI0.out.2.2
      obtain ⟨pl, kd, ti, nv⟩ := x
      dsimp only at x0 x1 x2 x3
      have hw1 : b < wr.heap.size := hb
      clear hc hx e0 e1 e2 e3 hb
      have hi64 : (k : Int) < 64 := by omega
      by_cases ht : ti = n + 1
      · have q1 : (ti == n + 1) = true := by simpa using ht
        cases nv with
        | false =>
          have HD := Lib.hid (show dueD n ⟨pl, kd, ti, false⟩ = true by unfold dueD; simp [ht])
          clear ht
          go_upto_region 9 with fail
          go_quiet (fail)
          have HI2 := Lib.hid (HI.out.more ((Gr.refl wr).drewN nq))
          obtain ⟨y0, y1, y2, y3⟩ : (wr.drewN nq).cell? ⟨b, o + k * 4, none⟩ = some (.int .i64 pl) ∧ (wr.drewN nq).cell? ⟨b, o + k * 4 + 1, none⟩ = some (.int .i64 kd) ∧ (wr.drewN nq).cell? ⟨b, o + k * 4 + 2, none⟩ = some (.int .u64 ti) ∧ (wr.drewN nq).cell? ⟨b, o + k * 4 + 3, none⟩ = some (.bool false) := ⟨x0, x1, x2, x3⟩
          obtain ⟨d0, d1, df⟩ := HI2.out.m.hdr.c2
          generalize wr.drewN nq = W at *
          clear x0 x1 x2 x3 c0 c1 cf
          go_wp2_with (at_builtin; refine wpList_sc1 el70 (.tmp 51) (.tmp 59) _ _ (encD ((D.take k).filter (dueD n))) #[.int .i64 pl, .int .i64 kd, .int .u64 ti, .bool false] _ rfl rfl rfl rfl HI2.out.sd rfl rfl (by omega) (by omega) ?_; intro v4 w4 s4 k4 f4)
          go_roundw
          case rel => exact ⟨k + 1, by omega, by go_num, HI2.out.due H2.out HX.out HD.out s4 k4 f4⟩
          case measure => simp [intOf]; omega
        | true =>
          have HD := Lib.hid (show dueD n ⟨pl, kd, ti, true⟩ = false by unfold dueD; simp)
          clear ht
          go_upto_region 9 with fail
          go_quiet (fail)
          have HI2 := Lib.hid (HI.out.more ((Gr.refl wr).drewN nq))
          obtain ⟨y0, y1, y2, y3⟩ : (wr.drewN nq).cell? ⟨b, o + k * 4, none⟩ = some (.int .i64 pl) ∧ (wr.drewN nq).cell? ⟨b, o + k * 4 + 1, none⟩ = some (.int .i64 kd) ∧ (wr.drewN nq).cell? ⟨b, o + k * 4 + 2, none⟩ = some (.int .u64 ti) ∧ (wr.drewN nq).cell? ⟨b, o + k * 4 + 3, none⟩ = some (.bool true) := ⟨x0, x1, x2, x3⟩
          obtain ⟨d0, d1, df⟩ := HI2.out.m.hdr.c2
          generalize wr.drewN nq = W at *
          clear x0 x1 x2 x3 c0 c1 cf
          go_wp2_with (at_builtin; refine wpList_sc1 el70 (.tmp 61) (.tmp 69) _ _ (encD ((D.take k).filter fun x => !dueD n x)) #[.int .i64 pl, .int .i64 kd, .int .u64 ti, .bool true] _ rfl rfl rfl rfl HI2.out.sl rfl rfl (by omega) (by omega) ?_; intro v4 w4 s4 k4 f4)
          go_roundw
          case rel => exact ⟨k + 1, by omega, by go_num, HI2.out.left H2.out HX.out HD.out s4 k4 f4⟩
          case measure => simp [intOf]; omega
      · have q1 : (ti == n + 1) = false := by simpa using ht
        have HD := Lib.hid (show dueD n ⟨pl, kd, ti, nv⟩ = false by unfold dueD; simp [ht])
        clear ht
        go_upto_region 9 with fail
        go_quiet (fail)
        have HI2 := Lib.hid (HI.out.more ((Gr.refl wr).drewN nq))
        obtain ⟨y0, y1, y2, y3⟩ : (wr.drewN nq).cell? ⟨b, o + k * 4, none⟩ = some (.int .i64 pl) ∧ (wr.drewN nq).cell? ⟨b, o + k * 4 + 1, none⟩ = some (.int .i64 kd) ∧ (wr.drewN nq).cell? ⟨b, o + k * 4 + 2, none⟩ = some (.int .u64 ti) ∧ (wr.drewN nq).cell? ⟨b, o + k * 4 + 3, none⟩ = some (.bool nv) := ⟨x0, x1, x2, x3⟩
        obtain ⟨d0, d1, df⟩ := HI2.out.m.hdr.c2
        generalize wr.drewN nq = W at *
        clear x0 x1 x2 x3 c0 c1 cf
        go_wp2_with (at_builtin; refine wpList_sc1 el70 (.tmp 61) (.tmp 69) _ _ (encD ((D.take k).filter fun x => !dueD n x)) #[.int .i64 pl, .int .i64 kd, .int .u64 ti, .bool nv] _ rfl rfl rfl rfl HI2.out.sl rfl rfl (by omega) (by omega) ?_; intro v4 w4 s4 k4 f4)
        go_roundw
        case rel => exact ⟨k + 1, by omega, by go_num, HI2.out.left H2.out HX.out HD.out s4 k4 f4⟩
        case measure => simp [intOf]; omega
    · obtain rfl : k = D.length := by omega
      obtain ⟨a4, c4, rfl, _, _⟩ := HI.out.sl.len
      go_wp2_with fail
      go_ret
      have hs1 := HI.out.sd
      have hs2 := HI.out.sl
      rw [List.take_length] at hs1 hs2 ⊢
      have hz := HI0.out.2.1.size
      have fl2 : Foot w [] (sb (.slice a4 (D.filter fun x => !dueD n x).length c4)) := fun x hx => .inr (Nat.le_trans hz (HI.out.fl.new x (by rw [List.take_length]; exact hx)))
      have fd2 : Foot w [] (sb u3) := fun x hx => .inr (Nat.le_trans hz (HI.out.fd.new x hx))
      have k5 : Ch [r] wr (wr.setCell ⟨r, 1, none⟩ (.slice a4 (D.filter fun x => !dueD n x).length c4)) := (Ch.refl [r] wr).st (by simp) _
      refine ⟨u3, _, rfl, hs1.ch k5 (fun x hx hm => ?_), ⟨HI.out.m.hdr.st 1 _, hs2.ch k5 (fun x hx hm => ?_)⟩, (HI0.out.2.1.more HI.out.gr).tr k5 (fun x hx => .inl hx), fl2, fd2⟩
      · simp at hm; subst hm; exact hs1.ne HI.out.m.hdr (by decide) hx
      · simp at hm; subst hm; exact hs2.ne HI.out.m.hdr (by decide) hx
/-- Ends of both sides: the same places and kinds. -/
theorem nsame (K : Nat → Int) (E : List NE) (va vb : Value) (w : World) (hE : ∀ x ∈ E, K x.pl = x.kd) (hl : E.length ≤ 64) (sa : SC 2 56 w va E.length (dueC K (E.map fun x => (x.pl : Int)))) (sb' : SC 4 77 w vb E.length (encD E)) :
    Calls Try.prog 56 #[va, vb] w fun e w' => e = .returned (.bool true) ∧ Gr w w' := by
  obtain ⟨aa, ca, rfl, _, _⟩ := sa.len
  obtain ⟨ab, cb, rfl, _, _⟩ := sb'.len
  have HS := Lib.hid (And.intro sa (And.intro sb' hE))
  clear sa sb' hE
  go_enter Try.func56, Try.ntmps56
  go_wp2_with fail
  go_loopw [5] (fun i wr => ∃ k : Nat, k ≤ E.length ∧ i = .int .i64 k ∧ Gr w wr) (fun i _ => E.length - (intOf i).toNat)
  case atStart => exact ⟨0, by omega, rfl, Gr.refl _⟩
  case round =>
    obtain ⟨k, hk, rfl, gr⟩ := hrel
    by_cases hlt : k < E.length
    · have i1 : (k : Int) < (E.length : Int) := by omega
      obtain ⟨x, hx⟩ : ∃ x, E[k]? = some x := ⟨E[k], by simp [hlt]⟩
      obtain ⟨b, o, c, he, _, _, hc, _, _⟩ := (HS.out.1.gr gr).cells (by omega)
      cases he
      obtain ⟨b2, o2, c2, he2, _, _, hc2, _, _⟩ := (HS.out.2.1.gr gr).cells (by omega)
      cases he2
      obtain ⟨d0, d1⟩ := dueC_get K (E.map fun x => (x.pl : Int)) k (by simpa using hlt)
      have hg : (E.map fun x => (x.pl : Int)).getD k 0 = (x.pl : Int) := by simp [List.getD, hx]
      rw [hg] at d0 d1
      rw [Int.toNat_natCast, HS.out.2.2 x (List.mem_of_getElem? hx)] at d1
      obtain ⟨e0, e1, _, _⟩ := encD_get E k x hx
      have x0 := hc _ _ d0
      have x1 := hc _ _ d1
      have y0 := hc2 _ _ e0
      have y1 := hc2 _ _ e1
      rw [← Nat.add_assoc] at x1 y1
      obtain ⟨pl, kd, ti, nv⟩ := x
      dsimp only at x0 x1 y0 y1
      have q1 : ((pl : Int) != (pl : Int)) = false := by simp
      have q2 : (kd != kd) = false := by simp
      have HG := Lib.hid gr
      clear hc hc2 d0 d1 e0 e1 hg hx gr
      go_upto_region 6 with fail
      go_quiet (fail)
      go_wp2_with fail
      go_roundw
      case rel => exact ⟨k + 1, by omega, by go_num, HG.out.drewN _⟩
      case measure => simp [intOf]; omega
    · obtain rfl : k = E.length := by omega
      go_wp2_with fail
      go_ret
      exact ⟨rfl, gr⟩
end Go.Proofs.Ytbeoomjcipbjjaa
