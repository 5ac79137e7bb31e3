/- The document's wheel in memory (chapter 19), and the contracts of its Is, Set, Cancel and ahead, for every input. -/
import Derived.Test.YtbeoomjcipbjjaaWl15
namespace Go.Proofs.Ytbeoomjcipbjjaa
open Go.RowKit
set_option linter.unusedVariables false

def dcF (s : TS) : Nat → Value
  | 0 => .int .u64 s.now
  | j + 1 => if j < 128 then .int .u64 (if j % 2 = 0 then s.du (j / 2) else s.no (j / 2)) else .int .u64 s.last
structure DW (w : World) (r : Nat) (s : TS) : Prop where
  hdr : Arr w r 41 130 (dcF s)
  tg : TG s
section
variable {w w' : World} {r : Nat} {s : TS} {S : List Nat} (m : DW w r s)
include m
theorem DW.gr (k : Gr w w') : DW w' r s := ⟨m.hdr.gr k, m.tg⟩
theorem DW.ch (k : Ch S w w') (h : r ∉ S) : DW w' r s := ⟨m.hdr.ch k h, m.tg⟩
theorem DW.head : w.cell? ⟨r, 0, none⟩ = some (.int .u64 s.now) ∧ w.cell? ⟨r, 129, none⟩ = some (.int .u64 s.last) ∧ ∀ j, w.frozen? ⟨r, j, none⟩ = false := ⟨m.hdr.cell (by omega), m.hdr.cell (by omega), m.hdr.frozen⟩
theorem DW.tm {p : Nat} (hp : p < 64) : w.cell? ⟨r, 1 + p * 2, none⟩ = some (.int .u64 (s.du p)) ∧ w.cell? ⟨r, 1 + p * 2 + 1, none⟩ = some (.int .u64 (s.no p)) := by
  constructor
  · rw [m.hdr.cell (by omega), show 1 + p * 2 = p * 2 + 1 by omega]
    show some (if p * 2 < 128 then _ else _) = _
    rw [if_pos (by omega), if_pos (by omega), show p * 2 / 2 = p by omega]
  · rw [m.hdr.cell (by omega), show 1 + p * 2 + 1 = (p * 2 + 1) + 1 by omega]
    show some (if p * 2 + 1 < 128 then _ else _) = _
    rw [if_pos (by omega), if_neg (by omega), show (p * 2 + 1) / 2 = p by omega]
end
section
variable {w : World} {r : Nat} {s : TS} (m : Arr w r 41 130 (dcF s))
include m
theorem dcNow (x : Int) : Arr (w.setCell ⟨r, 0, none⟩ (.int .u64 x)) r 41 130 (dcF ⟨x, s.last, s.du, s.no⟩) :=
  (m.st 0 _).congr fun j _ => by
    unfold updF
    match j with
    | 0 => rfl
    | j + 1 => rw [if_neg (by omega)]; rfl
theorem dcLast (x : Int) : Arr (w.setCell ⟨r, 129, none⟩ (.int .u64 x)) r 41 130 (dcF ⟨s.now, x, s.du, s.no⟩) :=
  (m.st 129 _).congr fun j hj => by
    unfold updF
    match j with
    | 0 => rfl
    | j + 1 =>
      show _ = (if j < 128 then Value.int .u64 (if j % 2 = 0 then s.du (j / 2) else s.no (j / 2)) else Value.int .u64 x)
      by_cases h : j < 128
      · rw [if_neg (by omega), if_pos h]; show (if j < 128 then _ else _) = _; rw [if_pos h]
      · rw [if_pos (by omega), if_neg h]
theorem dcTm {p : Nat} (hp : p < 64) (a b : Int) : Arr ((w.setCell ⟨r, 1 + p * 2, none⟩ (.int .u64 a)).setCell ⟨r, 1 + p * 2 + 1, none⟩ (.int .u64 b)) r 41 130 (dcF ⟨s.now, s.last, updT s.du p a, updT s.no p b⟩) :=
  ((m.st (1 + p * 2) _).st (1 + p * 2 + 1) _).congr fun j _ => by
    unfold updF
    match j with
    | 0 => rw [if_neg (by omega), if_neg (by omega)]; rfl
    | j + 1 =>
      show _ = (if j < 128 then Value.int .u64 (if j % 2 = 0 then updT s.du p a (j / 2) else updT s.no p b (j / 2)) else Value.int .u64 s.last)
      by_cases h1 : j + 1 = 1 + p * 2 + 1
      · rw [if_pos h1, if_pos (by omega), if_neg (by omega), show j / 2 = p by omega, updT_same]
      · rw [if_neg h1]
        by_cases h2 : j + 1 = 1 + p * 2
        · rw [if_pos h2, if_pos (by omega), if_pos (by omega), show j / 2 = p by omega, updT_same]
        · rw [if_neg h2]
          show (if j < 128 then _ else _) = _
          by_cases h3 : j < 128
          · rw [if_pos h3, if_pos h3]
            by_cases h4 : j % 2 = 0
            · rw [if_pos h4, if_pos h4, updT_ne _ _ (by omega)]
            · rw [if_neg h4, if_neg h4, updT_ne _ _ (by omega)]
          · rw [if_neg h3, if_neg h3]
end
theorem inB (p : Int) (w : World) : Calls Try.prog 51 #[.int .i64 p] w fun e w' => e = .returned (.bool (decide (0 ≤ p ∧ p < 64))) ∧ w = w' := by
  by_cases h0 : 0 ≤ p
  · by_cases h1 : p < 64
    · have e : decide (0 ≤ p ∧ p < 64) = true := by simp; omega
      rw [e]
      have d1 : decide (0 ≤ p) = true := by simpa using h0
      have d2 : decide (p < 64) = true := by simpa using h1
      go_enter Try.func51, Try.ntmps51
      go_wp2_with fail
      go_ret
      exact ⟨rfl, rfl⟩
    · have e : decide (0 ≤ p ∧ p < 64) = false := by simp; omega
      rw [e]
      have d1 : decide (0 ≤ p) = true := by simpa using h0
      have d2 : decide (p < 64) = false := by simpa using h1
      clear h1 e
      go_enter Try.func51, Try.ntmps51
      go_wp2_with fail
      go_ret
      exact ⟨rfl, rfl⟩
  · have e : decide (0 ≤ p ∧ p < 64) = false := by simp; omega
    rw [e]
    have d1 : decide (0 ≤ p) = false := by simpa using h0
    clear h0 e
    go_enter Try.func51, Try.ntmps51
    go_wp2_with fail
    go_ret
    exact ⟨rfl, rfl⟩
theorem dcan (r : Nat) (s : TS) (p : Int) (w : World) (m : DW w r s) :
    Calls Try.prog 43 #[.pointer (some ⟨r, 0, none⟩), .int .i64 p] w fun e w' => e = .returned (.bool (hasB s p)) ∧ DW w' r (canS s p) ∧ Ch [r] w w' := by
  have CI := Lib.hid (inB p w)
  by_cases h0 : 0 ≤ p ∧ p < 64
  · obtain ⟨i, rfl⟩ := Int.eq_ofNat_of_zero_le h0.1
    have hi : i < 64 := by omega
    rw [show decide (0 ≤ (i : Int) ∧ (i : Int) < 64) = true by simpa using h0] at CI
    have i1 : (i : Int) < 64 := by omega
    have HD := Lib.hid m
    obtain ⟨c2, c3⟩ := m.tm hi
    by_cases hn : s.no i = 0
    · have hb : hasB s i = false := by rw [hasB_at _ _ hi]; simp [hn]
      have HS := Lib.hid (show canS s i = s by unfold canS; rw [hb]; rfl)
      rw [hb]
      rw [hn] at c3
      clear h0 m hn hb
      go_enter Try.func43, Try.ntmps43
      go_wp2_with (go_at_call 51; refine (CI.out).mono ?_; rintro e w' ⟨rfl, rfl⟩)
      go_ret
      exact ⟨rfl, by rw [HS.out]; exact HD.out, Ch.refl _ _⟩
    · have hb : hasB s i = true := by rw [hasB_at _ _ hi]; simp [hn]
      have HS := Lib.hid (show canS s i = canT s i by unfold canS; rw [if_pos hb]; rfl)
      have e1 : (s.no i == 0) = false := by simpa using hn
      rw [hb]
      have HT := Lib.hid (DW.mk (dcTm m.hdr hi 0 0) (m.tg.can i))
      have fz := m.head.2.2
      clear h0 m hn hb
      go_enter Try.func43, Try.ntmps43
      go_wp2_with (go_at_call 51; refine (CI.out).mono ?_; rintro e w' ⟨rfl, rfl⟩)
      go_ret
      exact ⟨rfl, by rw [HS.out]; exact HT.out, ((Ch.refl _ _).st (by simp) _).st (by simp) _⟩
  · rw [show decide (0 ≤ p ∧ p < 64) = false by simpa using h0] at CI
    have hb : hasB s p = false := by unfold hasB; simp [h0]
    have HS := Lib.hid (show canS s p = s by unfold canS; rw [hb]; rfl)
    have HD := Lib.hid m
    rw [hb]
    clear h0 m hb
    go_enter Try.func43, Try.ntmps43
    go_wp2_with (go_at_call 51; refine (CI.out).mono ?_; rintro e w' ⟨rfl, rfl⟩)
    go_ret
    exact ⟨rfl, by rw [HS.out]; exact HD.out, Ch.refl _ _⟩
theorem dset (r : Nat) (s : TS) (p a : Int) (w : World) (m : DW w r s) (ha : 0 ≤ a ∧ a ≤ 18446744073709551615) (hl : s.last < 18446744073709551615) :
    Calls Try.prog 46 #[.pointer (some ⟨r, 0, none⟩), .int .i64 p, .int .u64 a] w fun e w' => e = .returned (.int .i64 (setE s p a)) ∧ DW w' r (setS s p a) ∧ Ch [r] w w' := by
  have CI := Lib.hid (fun w => inB p w)
  have HD := Lib.hid m
  by_cases h0 : 0 ≤ p ∧ p < 64
  · obtain ⟨i, rfl⟩ := Int.eq_ofNat_of_zero_le h0.1
    have hi : i < 64 := by omega
    rw [show decide (0 ≤ (i : Int) ∧ (i : Int) < 64) = true by simpa using h0] at CI
    have i1 : (i : Int) < 64 := by omega
    obtain ⟨c0, c1, cf⟩ := m.head
    by_cases h1 : a ≤ s.now
    · have HE := Lib.hid (show setE s i a = 1 by unfold setE; rw [if_pos h0, if_pos h1])
      have HS := Lib.hid (show setS s i a = s by unfold setS; rw [HE.out, if_neg (by omega)])
      have d1 : decide (a ≤ s.now) = true := by simpa using h1
      generalize s.now = n at c0 d1
      clear h1 m h0
      go_enter Try.func46, Try.ntmps46
      go_wp2_with (go_at_call 51; refine (CI.out _).mono ?_; rintro e w' ⟨rfl, rfl⟩)
      go_ret
      rw [HS.out]
      exact ⟨ret_int (by rw [HE.out]), HD.out, Ch.refl _ _⟩
    · have d1 : decide (a ≤ s.now) = false := by simpa using h1
      obtain ⟨c2, c3⟩ := m.tm hi
      by_cases hn : s.no i = 0
      · have h2 : hasB s i = false := by rw [hasB_at _ _ hi]; simp [hn]
        have HE := Lib.hid (show setE s i a = 0 by unfold setE; rw [if_pos h0, if_neg h1, if_neg (by rw [h2]; simp)])
        have HS := Lib.hid (show setS s i a = setT s i a by unfold setS; rw [if_pos HE.out]; rfl)
        have htg := m.tg.set hi hn (show s.now < a ∧ a ≤ _ from ⟨by omega, ha.2⟩) hl
        have HT := Lib.hid (DW.mk (dcTm (dcLast m.hdr (s.last + 1)) hi a (s.last + 1)) htg)
        have hl0 := m.tg.last0
        have e0 : decide (0 < s.no i) = false := by simp [hn]
        have k2 : Ch [r] w (((w.setCell ⟨r, 129, none⟩ (.int .u64 (s.last + 1))).setCell ⟨r, 1 + i * 2, none⟩ (.int .u64 a)).setCell ⟨r, 1 + i * 2 + 1, none⟩ (.int .u64 (s.last + 1))) := (((Ch.refl _ _).st (by simp) _).st (by simp) _).st (by simp) _
        have HK := Lib.hid k2
        generalize s.du i = z1 at c2
        generalize s.no i = z2 at c3 e0
        clear h1 m h0 h2 htg k2 hn
        generalize s.now = n at c0 d1
        go_enter Try.func46, Try.ntmps46
        go_upto_region 8 with (go_at_call 51; refine (CI.out _).mono ?_; rintro e w' ⟨rfl, rfl⟩)
        go_region_law (fail)
        all_goals
          go_wp2_with fail
          go_ret
          rw [HS.out]
          exact ⟨ret_int (by rw [HE.out]), ⟨HT.out.hdr.drew, HT.out.tg⟩, HK.out.drew⟩
      · have h2 : hasB s i = true := by rw [hasB_at _ _ hi]; simp [hn]
        have HE := Lib.hid (show setE s i a = 6 by unfold setE; rw [if_pos h0, if_neg h1, if_pos h2])
        have HS := Lib.hid (show setS s i a = s by unfold setS; rw [HE.out, if_neg (by omega)])
        have e0 : decide (0 < s.no i) = true := by simp; have := (m.tg.no0 i).1; omega
        generalize s.no i = z2 at c3 e0
        clear h1 m h0 h2 hn
        generalize s.now = n at c0 d1
        go_enter Try.func46, Try.ntmps46
        go_wp2_with (go_at_call 51; refine (CI.out _).mono ?_; rintro e w' ⟨rfl, rfl⟩)
        go_ret
        rw [HS.out]
        exact ⟨ret_int (by rw [HE.out]), HD.out, Ch.refl _ _⟩
  · rw [show decide (0 ≤ p ∧ p < 64) = false by simpa using h0] at CI
    have HE := Lib.hid (show setE s p a = 5 by unfold setE; rw [if_neg h0])
    have HS := Lib.hid (show setS s p a = s by unfold setS; rw [HE.out, if_neg (by omega)])
    clear h0 m
    go_enter Try.func46, Try.ntmps46
    go_wp2_with (go_at_call 51; refine (CI.out _).mono ?_; rintro e w' ⟨rfl, rfl⟩)
    go_ret
    rw [HS.out]
    exact ⟨ret_int (by rw [HE.out]), HD.out, Ch.refl _ _⟩
theorem ahead_any (a b c d : Int) (w : World) : Calls Try.prog 63 #[.agg #[.int .u64 a, .int .u64 b], .agg #[.int .u64 c, .int .u64 d]] w fun e w' => e = .returned (.bool (decide (a < c ∨ (a = c ∧ b < d)))) ∧ Gr w w' := by
  by_cases h1 : a < c
  · have e : decide (a < c ∨ (a = c ∧ b < d)) = true := by simp; omega
    rw [e]
    have d1 : decide (a < c) = true := by simpa using h1
    clear h1 e
    go_enter Try.func63, Try.ntmps63
    go_wp2_with fail
    go_ret
    exact ⟨rfl, ((Gr.refl _).al _).al _⟩
  · have d1 : decide (a < c) = false := by simpa using h1
    by_cases h2 : a = c
    · have e : decide (a < c ∨ (a = c ∧ b < d)) = decide (b < d) := by simp [h2]
      rw [e]
      have d2 : (a == c) = true := by simpa using h2
      clear h1 e h2
      go_enter Try.func63, Try.ntmps63
      go_wp2_with fail
      go_ret
      exact ⟨rfl, ((Gr.refl _).al _).al _⟩
    · have e : decide (a < c ∨ (a = c ∧ b < d)) = false := by simp [h2]; omega
      rw [e]
      have d2 : (a == c) = false := by simpa using h2
      clear h1 e h2
      go_enter Try.func63, Try.ntmps63
      go_wp2_with fail
      go_ret
      exact ⟨rfl, ((Gr.refl _).al _).al _⟩
end Go.Proofs.Ytbeoomjcipbjjaa
