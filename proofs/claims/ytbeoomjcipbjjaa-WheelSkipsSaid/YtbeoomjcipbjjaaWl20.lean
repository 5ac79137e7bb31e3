/- The document's Turn, Next and Skip (chapter 19), for every input. -/
import Derived.Test.YtbeoomjcipbjjaaWl19
namespace Go.Proofs.Ytbeoomjcipbjjaa
open Go.RowKit
set_option linter.unusedVariables false

theorem dnext (r : Nat) (s : TS) (w : World) (m : DW w r s) : Calls Try.prog 49 #[.pointer (some ⟨r, 0, none⟩)] w (NextEnd s w) := by
  have HA := Lib.hid (dall r s w m.dx)
  have HW := Lib.hid m
  clear m
  go_enter Try.func49, Try.ntmps49
  go_upto_region 2 with (go_at_call 50; refine (HA.out).mono ?_; rintro e w1 ⟨v, l, rfl, hall, r1, g1⟩; have HL := Lib.hid (And.intro hall (And.intro r1 g1)); obtain ⟨na, ka, rfl, _, _⟩ := r1.len; have hl64 := hall.len; clear hall r1 g1)
  cases l with
  | nil =>
    go_wp2_with fail
    go_ret2
    exact ⟨[], HL.out.1, rfl, HL.out.2.2⟩
  | cons x t =>
    obtain ⟨p, rfl, hp, hn⟩ := (HL.out.1.2 x).1 (by simp)
    obtain ⟨b, o, c, he, _, _, hc, _, _⟩ := HL.out.2.1.cells (by simp)
    cases he
    have hc0 := hc 0 (by simp)
    rw [show (((p : Int) :: t).getD 0 0) = (p : Int) from rfl, Nat.add_zero] at hc0
    obtain ⟨c1, _⟩ := (HW.out.gr HL.out.2.2).tm hp
    have i1 : (p : Int) < 64 := by omega
    have HX := Lib.hid (show nextT s ((p : Int) :: t) = s.du p from rfl)
    generalize s.du p = z at *
    clear hc hn
    have hlen : ((p : Int) :: t).length = t.length + 1 := rfl
    rw [hlen]
    have hd2 : (((t.length + 1 : Nat) : Int) == 0) = false := by simp; omega
    have i2 : (0 : Int) < ((t.length + 1 : Nat) : Int) := by omega
    go_upto_region 4 with fail
    go_quiet (fail)
    go_wp2
    go_ret2
    exact ⟨(p : Int) :: t, HL.out.1, by rw [HX.out]; rfl, HL.out.2.2.drewN _⟩
/-- A slice is handed out, and the document's wheel is as behind a turn. -/
def DTurned (r : Nat) (s : TS) (w : World) (e : Ending) (w' : World) : Prop := ∃ v l, e = .returned v ∧ IsDue s l ∧ Sl 3 .i64 w' v l ∧ DW w' r (turnT s) ∧ Ch [r] w w'
/-- What rings of the first i of a row. -/
def dL (s : TS) (i : Nat) (l : List Int) : List Int := (l.take i).filter fun x => decide (s.du x.toNat = s.now + 1)
theorem dL_zero (s : TS) (l : List Int) : dL s 0 l = [] := rfl
theorem dL_yes {s : TS} {i p : Nat} {l : List Int} (hi : i < l.length) (hp : l.getD i 0 = p) (hd : s.du p = s.now + 1) : dL s (i + 1) l = dL s i l ++ [(p : Int)] := by
  unfold dL
  rw [take_snoc l i hi, List.filter_append, hp]
  congr 1
  simp [hd]
theorem dL_no {s : TS} {i p : Nat} {l : List Int} (hi : i < l.length) (hp : l.getD i 0 = p) (hd : s.du p ≠ s.now + 1) : dL s (i + 1) l = dL s i l := by
  unfold dL
  rw [take_snoc l i hi, List.filter_append, hp]
  simp [hd]
theorem dL_len (s : TS) (i : Nat) (l : List Int) : (dL s i l).length ≤ l.length := by
  unfold dL
  have h1 := List.length_filter_le (fun x : Int => decide (s.du x.toNat = s.now + 1)) (l.take i)
  have h2 := List.length_take_le i l
  have h3 : (l.take i).length ≤ l.length := by rw [List.length_take]; omega
  omega
theorem dL_new {s : TS} {l : List Int} (h : IsAll s l) {i : Nat} (hi : i < l.length) : l.getD i 0 ∉ dL s i l := fun hm => by
  have hm := (List.mem_filter.1 hm).1
  obtain ⟨j, hj, e⟩ := List.mem_iff_getElem.1 hm
  have hj' : j < i ∧ j < l.length := by rw [List.length_take] at hj; omega
  have hp := List.pairwise_iff_getElem.1 h.1 j i hj'.2 hi hj'.1
  rw [List.getElem_take] at e
  rw [e, show l.getD i 0 = l[i] by simp [List.getD, hi]] at hp
  unfold aheadT at hp
  omega
theorem dL_end {s : TS} {l : List Int} (h : IsAll s l) : IsDue s (dL s l.length l) := by
  unfold dL
  rw [List.take_length]
  refine ⟨?_, fun x => ?_⟩
  · have hp : (l.filter fun x => decide (s.du x.toNat = s.now + 1)).Pairwise (fun x y => aheadT s x.toNat y.toNat) := h.1.sublist List.filter_sublist
    refine List.Pairwise.imp_of_mem (fun {a b} ha hb hab => ?_) hp
    have h1 : s.du a.toNat = s.now + 1 := by have := (List.mem_filter.1 ha).2; simpa using this
    have h2 : s.du b.toNat = s.now + 1 := by have := (List.mem_filter.1 hb).2; simpa using this
    unfold aheadT at hab
    omega
  · rw [List.mem_filter]
    constructor
    · rintro ⟨h1, h2⟩
      obtain ⟨p, rfl, h3, h4⟩ := (h.2 x).1 h1
      exact ⟨p, rfl, h3, h4, by simpa using h2⟩
    · rintro ⟨p, rfl, h3, h4, h5⟩
      exact ⟨(h.2 p).2 ⟨p, rfl, h3, h4⟩, by simpa using h5⟩
theorem dturn_top (r : Nat) (s : TS) (w : World) (m : DW w r s) (hM : s.now = 18446744073709551615) : Calls Try.prog 44 #[.pointer (some ⟨r, 0, none⟩)] w fun e w' => e = .returned (.slice none 0 0) ∧ w = w' := by
  obtain ⟨c0, _, _⟩ := m.head
  rw [hM] at c0
  clear m hM
  go_enter Try.func44, Try.ntmps44
  go_wp2_with fail
  go_ret
  exact ⟨rfl, rfl⟩
theorem clrT_at {s : TS} {l : List Int} {p : Nat} (h : (p : Int) ∉ l) : (clrT s l).du p = s.du p := by show (if (p : Int) ∈ l then _ else _) = _; rw [if_neg h]
set_option maxRecDepth 100000 in
set_option maxHeartbeats 1000000 in
theorem dturn (r : Nat) (s : TS) (w : World) (m : DW w r s) (hM : s.now < 18446744073709551615) : Calls Try.prog 44 #[.pointer (some ⟨r, 0, none⟩)] w (DTurned r s w) := by
  obtain ⟨c0, _, cf⟩ := m.head
  have HA := Lib.hid (fun w' (k : Arr w' r 41 130 (dcF ⟨s.now + 1, s.last, s.du, s.no⟩)) => dall r ⟨s.now + 1, s.last, s.du, s.no⟩ w' ⟨k, m.tg.one⟩)
  have HW := Lib.hid (dcNow m.hdr (s.now + 1))
  have HT := Lib.hid m.tg
  have hn0 := m.tg.now0
  have hd : (s.now == 18446744073709551615) = false := by simp; omega
  have HC : Hid (Ch [r] w (w.setCell ⟨r, 0, none⟩ (.int .u64 (s.now + 1)))) := Lib.hid ((Ch.refl _ _).st (by simp) _)
  obtain ⟨n, hn⟩ : ∃ n, s.now = n := ⟨_, rfl⟩
  rw [hn] at hd c0 HW HC HA hM hn0
  have HN := Lib.hid hn
  clear m hn
  go_enter Try.func44, Try.ntmps44
  go_upto_region 6 with (go_at_call 50; refine (HA.out _ HW.out).mono ?_; rintro e w1 ⟨v, l, rfl, hall0, r1, g1⟩; have hall : IsAll s l := hall0; have HL := Lib.hid (And.intro hall (And.intro r1 (And.intro (HW.out.gr g1) (HC.out.more g1)))); obtain ⟨na, ka, rfl, _, _⟩ := r1.len; have hl64 := hall.len; clear hall hall0 r1 g1)
  have hrv : r ∉ sb (.slice na l.length ka) := HL.out.2.1.ne HL.out.2.2.1 (by decide)
  have HRV := Lib.hid hrv
  clear c0 cf HA HW hrv
  go_wp2_with fail
  go_loopw [3, 5] (fun v i wr => ∃ q : Nat, q ≤ l.length ∧ i = .int .i64 q ∧ Sl 3 .i64 wr v (dL s q l) ∧ Foot w1 [] (sb v) ∧ Arr wr r 41 130 (dcF (clrT ⟨n + 1, s.last, s.du, s.no⟩ (dL s q l))) ∧ Ch [r] w1 wr) (fun _ i _ => l.length - (intOf i).toNat)
  case atStart => exact ⟨0, by omega, rfl, Sl.nil _ _ _, fun b hb => by simp [sb] at hb, by rw [dL_zero, clrT_nil]; exact HL.out.2.2.1, Ch.refl _ _⟩
  case round =>
    obtain ⟨q, hq, rfl, hsl, fv, har, hch⟩ := hrel
    have hlen := dL_len s q l
    obtain ⟨nb, kb, rfl, _, _⟩ := hsl.len
    have HS := Lib.hid (And.intro hsl (And.intro fv (And.intro har hch)))
    clear hsl fv har hch
    by_cases hlt : q < l.length
    · have j1 : (q : Int) < (l.length : Int) := by omega
      have RS := HL.out.2.1.ch HS.out.2.2.2 (fun x hx hx2 => by simp at hx2; subst hx2; exact HRV.out hx)
      obtain ⟨bl, o, c, he, _, _, hc, _, _⟩ := RS.cells (by omega)
      cases he
      have c1 := hc q hlt
      obtain ⟨p, hp1, hp64, hp0⟩ := (HL.out.1.2 (l.getD q 0)).1 (by rw [show l.getD q 0 = l[q] by simp [List.getD, hlt]]; exact List.getElem_mem hlt)
      have hnew := dL_new HL.out.1 hlt
      rw [hp1] at c1 hnew
      obtain ⟨c2, c3⟩ := dcAt HS.out.2.2.1 hp64
      rw [clrT_at hnew] at c2
      have c0 : _ = some (Value.int .u64 (n + 1)) := HS.out.2.2.1.cell (i := 0) (by omega)
      have fz := HS.out.2.2.1.frozen
      have i1 : (p : Int) < 64 := by omega
      have HP := Lib.hid (And.intro hp1 hnew)
      clear hc hnew hp1 hp0
      by_cases hdu : s.du p = n + 1
      · have HD := Lib.hid (dL_yes hlt HP.out.1 (by rw [HN.out]; exact hdu) : dL s (q + 1) l = _)
        rw [hdu] at c2
        clear hdu c3
        go_upto_region 9 with fail
        go_quiet (fail)
        have HS1 := Lib.hid (HS.out.1.gr ((Gr.refl wr).drewN nq))
        have HA1 := Lib.hid (HS.out.2.2.1.drewN nq)
        have HC1 := Lib.hid (HS.out.2.2.2.more ((Gr.refl wr).drewN nq))
        have RS1 := Lib.hid (RS.gr ((Gr.refl wr).drewN nq))
        have HF := Lib.hid HS.out.2.1
        have c1' := ((Gr.refl wr).drewN nq).cell_some c1
        have hb1 := RS1.out.inn bl (by simp [sb])
        clear c0 c1 c2 fz RS HS
        generalize wr.drewN nq = W1 at *
        have hrv2 : r ∉ sb (.slice nb (dL s q l).length kb) := HS1.out.ne HA1.out (by decide)
        have HRV2 := Lib.hid hrv2
        have hbv : bl ∉ sb (.slice nb (dL s q l).length kb) := fun hm => by
          rcases HF.out bl hm with h | h
          · simp at h
          · have := HL.out.2.1.inn bl (by simp [sb]); omega
        have HBV := Lib.hid hbv
        clear hrv2 hbv
        go_upto_region 11 with (at_builtin; refine wpList_sl1 el30 .i64 (.tmp 41) (.tmp 46) (.slice nb (dL s q l).length kb) (dL s q l) (p : Int) _ _ rfl rfl rfl rfl HS1.out (by omega) (by omega) ?_; intro v2 w2 r2 k2 f2; have HR := Lib.hid (And.intro r2 (And.intro k2 f2)); clear r2 k2 f2)
        have HA2 := Lib.hid (HA1.out.ch HR.out.2.1 HRV2.out)
        have RS2 := RS1.out.ch HR.out.2.1 (fun x hx hx2 => by simp [sb] at hx; subst hx; exact HBV.out hx2)
        obtain ⟨bl2, o2, c2, he, _, _, hc2, _, _⟩ := RS2.cells (by omega)
        cases he
        have c4 := hc2 q hlt
        rw [HP.out.1] at c4
        have fz := HA2.out.frozen
        obtain ⟨c5, c6⟩ := dcAt HA2.out hp64
        clear c1' hc2 RS2
        go_region_law (fail)
        all_goals
          go_wp2_with fail
          go_roundw
          case rel =>
            have k3 : Ch [r] w2 (((w2.setCell ⟨r, 1 + p * 2, none⟩ (.int .u64 0)).setCell ⟨r, 1 + p * 2 + 1, none⟩ (.int .u64 0)).drew) := (((Ch.refl _ _).st (by simp) _).st (by simp) _).drew
            have h4 := (dcTm HA2.out hp64 0 0).drew
            rw [clrT_step] at h4
            refine ⟨q + 1, by omega, by go_num, ?_, HF.out.tr HR.out.2.2 HC1.out.size, ?_, ?_⟩
            · rw [HD.out]; exact HR.out.1.ch k3 (fun x hx hx2 => by simp at hx2; subst hx2; exact HR.out.1.ne HA2.out (by decide) hx)
            · rw [HD.out]; exact h4
            · exact (HC1.out.tr HR.out.2.1 (fun x hx => by
                rcases HF.out x hx with h | h
                · simp at h
                · exact .inr h)).tr k3 (fun x hx => .inl hx)
          case measure => simp [intOf]; omega
      · have HD := Lib.hid (dL_no hlt HP.out.1 (by rw [HN.out]; exact hdu) : dL s (q + 1) l = _)
        have e1 : (s.du p == n + 1) = false := by simpa using hdu
        clear hdu c3
        generalize s.du p = z at *
        go_upto_region 9 with fail
        go_quiet (fail)
        go_wp2_with fail
        go_roundw
        case rel => exact ⟨q + 1, by omega, by go_num, by rw [HD.out]; exact HS.out.1.gr ((Gr.refl wr).drewN _), HS.out.2.1, by rw [HD.out]; exact HS.out.2.2.1.drewN _, HS.out.2.2.2.more ((Gr.refl wr).drewN _)⟩
        case measure => simp [intOf]; omega
    · obtain rfl : q = l.length := by omega
      go_wp2_with fail
      go_ret
      refine ⟨_, _, rfl, dL_end HL.out.1, HS.out.1, ⟨?_, HT.out.turn (by rw [HN.out]; exact hM)⟩, HL.out.2.2.2.tr HS.out.2.2.2 (fun x hx => .inl hx)⟩
      rw [← clrT_turn HT.out (dL_end HL.out.1), HN.out]
      exact HS.out.2.2.1
end Go.Proofs.Ytbeoomjcipbjjaa
