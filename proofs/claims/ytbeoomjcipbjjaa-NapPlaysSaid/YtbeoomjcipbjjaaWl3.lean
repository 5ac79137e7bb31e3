/- A timer wheel in memory (chapter 19), and the contracts of its small functions, for every input. -/
import Derived.Test.YtbeoomjcipbjjaaWl2
import Derived.Test.YtbeoomjcipbjjaaKit10
import Derived.Test.YtbeoomjcipbjjaaProg
import Derived.Laws.Bits64b
namespace Go.Proofs.Ytbeoomjcipbjjaa
open Go.RowKit
set_option linter.unusedVariables false

/-- A wheel's cells; V: the slices of its 257 lists. -/
def whF (s : TS) (V : Nat → Value) : Nat → Value
  | 0 => .int .u64 s.now
  | 1 => .int .u64 s.last
  | j + 2 => if j < 128 then .int .u64 (if j % 2 = 0 then s.du (j / 2) else s.no (j / 2)) else V (j - 128)
structure WMem (w : World) (g : Nat) (s : TS) (L : Nat → List Int) (V : Nat → Value) : Prop where
  hdr : Arr w g 86 387 (whF s V)
  sl : ∀ j, j < 257 → Sl 3 .i64 w (V j) (L j)
  dj : ∀ i j, i < 257 → j < 257 → i ≠ j → Disj (sb (V i)) (sb (V j))
/-- The blocks that a wheel takes up. -/
def wfp (g : Nat) (V : Nat → Value) : List Nat := g :: (List.range 257).flatMap fun j => sb (V j)
theorem mem_wfp {g : Nat} {V : Nat → Value} {b : Nat} : b ∈ wfp g V ↔ b = g ∨ ∃ j, j < 257 ∧ b ∈ sb (V j) := by simp [wfp, List.mem_flatMap]
section
variable {w w' : World} {g : Nat} {s : TS} {L : Nat → List Int} {V : Nat → Value} {S : List Nat} (m : WMem w g s L V)
include m
theorem WMem.gr (k : Gr w w') : WMem w' g s L V := ⟨m.hdr.gr k, fun j hj => (m.sl j hj).gr k, m.dj⟩
theorem WMem.ch (k : Ch S w w') (h : Disj (wfp g V) S) : WMem w' g s L V :=
  ⟨m.hdr.ch k (h g (mem_wfp.2 (.inl rfl))), fun j hj => (m.sl j hj).ch k (fun b hb => h b (mem_wfp.2 (.inr ⟨j, hj, hb⟩))), m.dj⟩
theorem WMem.inn : In w (wfp g V) := fun b hb => by
  rcases mem_wfp.1 hb with rfl | ⟨j, hj, hb⟩
  · exact m.hdr.lt
  · exact (m.sl j hj).inn b hb
theorem WMem.head : w.cell? ⟨g, 0, none⟩ = some (.int .u64 s.now) ∧ w.cell? ⟨g, 1, none⟩ = some (.int .u64 s.last) ∧ ∀ j, w.frozen? ⟨g, j, none⟩ = false := ⟨m.hdr.cell (by omega), m.hdr.cell (by omega), m.hdr.frozen⟩
theorem WMem.tm {p : Nat} (hp : p < 64) : w.cell? ⟨g, 2 + p * 2, none⟩ = some (.int .u64 (s.du p)) ∧ w.cell? ⟨g, 2 + p * 2 + 1, none⟩ = some (.int .u64 (s.no p)) := by
  constructor
  · rw [m.hdr.cell (by omega), show 2 + p * 2 = p * 2 + 2 by omega]
    show some (if p * 2 < 128 then _ else _) = _
    rw [if_pos (by omega), if_pos (by omega), show p * 2 / 2 = p by omega]
  · rw [m.hdr.cell (by omega), show 2 + p * 2 + 1 = (p * 2 + 1) + 2 by omega]
    show some (if p * 2 + 1 < 128 then _ else _) = _
    rw [if_pos (by omega), if_neg (by omega), show (p * 2 + 1) / 2 = p by omega]
theorem WMem.ls {j : Nat} (hj : j < 257) : w.cell? ⟨g, 130 + j, none⟩ = some (V j) := by
  rw [m.hdr.cell (by omega), show 130 + j = (128 + j) + 2 by omega]
  show some (if 128 + j < 128 then _ else V (128 + j - 128)) = _
  rw [if_neg (by omega), show 128 + j - 128 = j by omega]
end
/-- Masks and shifts. -/
theorem and63N (u : Nat) (h : u < 18446744073709551616) : bits .and .u64 (u : Int) 63 = ((u % 64 : Nat) : Int) := by
  have := bits_and_u64_nat u 63 h (by omega)
  rw [show u &&& 63 = u % 64 from Nat.and_two_pow_sub_one_eq_mod u 6] at this
  exact this
theorem and63 (u : Int) (h0 : 0 ≤ u) (h1 : u ≤ 18446744073709551615) : bits .and .u64 u 63 = u % 64 := by
  obtain ⟨n, rfl⟩ := Int.eq_ofNat_of_zero_le h0
  rw [and63N n (by omega)]
  rfl
theorem ret_ptr {g a b : Nat} (h : a = b) : Ending.returned (.pointer (some ⟨g, a, none⟩)) = .returned (.pointer (some ⟨g, b, none⟩)) := by rw [h]
theorem home_any (g : Nat) (s : TS) (L : Nat → List Int) (V : Nat → Value) (a : Int) (w : World) (m : WMem w g s L V) (t : 0 ≤ s.now ∧ s.now ≤ 18446744073709551615) (ha : 0 ≤ a ∧ a ≤ 18446744073709551615) :
    Calls Try.prog 52 #[.pointer (some ⟨g, 0, none⟩), .int .u64 a] w fun e w' => e = .returned (.pointer (some ⟨g, 130 + hJ s.now a, none⟩)) ∧ Gr w w' := by
  obtain ⟨c0, c1, cf⟩ := m.head
  clear m c1
  generalize s.now = n at *
  obtain ⟨t0, t1⟩ := t
  obtain ⟨a0, a1⟩ := ha
  go_enter Try.func52, Try.ntmps52
  go_wp2_with fail
  go_loopw [7] (fun i wr => ∃ k : Nat, k ≤ 4 ∧ i = .int .i64 k ∧ (0 < k → a / 64 ≠ n / 64) ∧ (1 < k → a / 4096 ≠ n / 4096) ∧ (2 < k → a / 262144 ≠ n / 262144) ∧ (3 < k → a / 16777216 ≠ n / 16777216) ∧ Gr w wr) (fun i _ => 4 - (intOf i).toNat)
  case atStart => exact ⟨0, by omega, rfl, by omega, by omega, by omega, by omega, Gr.refl _⟩
  case round =>
    obtain ⟨k, hk, rfl, h1, h2, h3, h4, gr⟩ := hrel
    replace c0 := gr.cell_some c0
    have hk5 : k = 0 ∨ k = 1 ∨ k = 2 ∨ k = 3 ∨ k = 4 := by omega
    rcases hk5 with rfl | rfl | rfl | rfl | rfl
    · by_cases q : a / 64 = n / 64
      · have e1 : (a / 64 == n / 64) = true := by simpa using q
        obtain ⟨x, hx⟩ := Int.eq_ofNat_of_zero_le (show 0 ≤ a % 64 by omega)
        have hx2 : (x : Int) < 64 := by omega
        have HJ := Lib.hid (show hJ n a = x by unfold hJ; rw [if_pos q, hx]; rfl)
        have h63 := and63 a (by omega) (by omega)
        rw [hx] at h63
        clear q hx h1 h2 h3 h4
        go_upto_region 5 with fail
        go_quiet (fail)
        generalize hW : wr.drewN nq = W at *
        have HW := Lib.hid hW
        clear hW
        go_upto_region 6 with fail
        go_quiet (fail)
        go_wp2
        go_ret
        exact ⟨ret_ptr (by rw [HJ.out]), (HW.out ▸ gr.drewN _).drewN _⟩
      · have e1 : (a / 64 == n / 64) = false := by simpa using q
        have HN := Lib.hid (And.intro q (And.intro h1 (And.intro h2 (And.intro h3 h4))))
        clear q h1 h2 h3 h4
        go_upto_region 5 with fail
        go_quiet (fail)
        go_wp2_with fail
        go_roundw
        case rel => exact ⟨1, by omega, by go_num, fun _ => HN.out.1, by omega, by omega, by omega, gr.drewN _⟩
        case measure => simp [intOf]
    · by_cases q : a / 4096 = n / 4096
      · have e1 : (a / 4096 == n / 4096) = true := by simpa using q
        obtain ⟨x, hx⟩ := Int.eq_ofNat_of_zero_le (show 0 ≤ a / 64 % 64 by omega)
        have hx2 : (x : Int) < 64 := by omega
        have HJ := Lib.hid (show hJ n a = 64 + x by unfold hJ; rw [if_neg (h1 (by omega)), if_pos q, hx]; rfl)
        have h63 := and63 (a / 64) (by omega) (by omega)
        rw [hx] at h63
        clear q hx h1 h2 h3 h4
        go_upto_region 5 with fail
        go_quiet (fail)
        generalize hW : wr.drewN nq = W at *
        have HW := Lib.hid hW
        clear hW
        go_upto_region 6 with fail
        go_quiet (fail)
        go_wp2
        go_ret
        exact ⟨ret_ptr (by rw [HJ.out]; omega), (HW.out ▸ gr.drewN _).drewN _⟩
      · have e1 : (a / 4096 == n / 4096) = false := by simpa using q
        have HN := Lib.hid (And.intro q (And.intro h1 (And.intro h2 (And.intro h3 h4))))
        clear q h1 h2 h3 h4
        go_upto_region 5 with fail
        go_quiet (fail)
        go_wp2_with fail
        go_roundw
        case rel => exact ⟨2, by omega, by go_num, fun _ => HN.out.2.1 (by omega), fun _ => HN.out.1, by omega, by omega, gr.drewN _⟩
        case measure => simp [intOf]
    · by_cases q : a / 262144 = n / 262144
      · have e1 : (a / 262144 == n / 262144) = true := by simpa using q
        obtain ⟨x, hx⟩ := Int.eq_ofNat_of_zero_le (show 0 ≤ a / 4096 % 64 by omega)
        have hx2 : (x : Int) < 64 := by omega
        have HJ := Lib.hid (show hJ n a = 128 + x by unfold hJ; rw [if_neg (h1 (by omega)), if_neg (h2 (by omega)), if_pos q, hx]; rfl)
        have h63 := and63 (a / 4096) (by omega) (by omega)
        rw [hx] at h63
        clear q hx h1 h2 h3 h4
        go_upto_region 5 with fail
        go_quiet (fail)
        generalize hW : wr.drewN nq = W at *
        have HW := Lib.hid hW
        clear hW
        go_upto_region 6 with fail
        go_quiet (fail)
        go_wp2
        go_ret
        exact ⟨ret_ptr (by rw [HJ.out]; omega), (HW.out ▸ gr.drewN _).drewN _⟩
      · have e1 : (a / 262144 == n / 262144) = false := by simpa using q
        have HN := Lib.hid (And.intro q (And.intro h1 (And.intro h2 (And.intro h3 h4))))
        clear q h1 h2 h3 h4
        go_upto_region 5 with fail
        go_quiet (fail)
        go_wp2_with fail
        go_roundw
        case rel => exact ⟨3, by omega, by go_num, fun _ => HN.out.2.1 (by omega), fun _ => HN.out.2.2.1 (by omega), fun _ => HN.out.1, by omega, gr.drewN _⟩
        case measure => simp [intOf]
    · by_cases q : a / 16777216 = n / 16777216
      · have e1 : (a / 16777216 == n / 16777216) = true := by simpa using q
        obtain ⟨x, hx⟩ := Int.eq_ofNat_of_zero_le (show 0 ≤ a / 262144 % 64 by omega)
        have hx2 : (x : Int) < 64 := by omega
        have HJ := Lib.hid (show hJ n a = 192 + x by unfold hJ; rw [if_neg (h1 (by omega)), if_neg (h2 (by omega)), if_neg (h3 (by omega)), if_pos q, hx]; rfl)
        have h63 := and63 (a / 262144) (by omega) (by omega)
        rw [hx] at h63
        clear q hx h1 h2 h3 h4
        go_upto_region 5 with fail
        go_quiet (fail)
        generalize hW : wr.drewN nq = W at *
        have HW := Lib.hid hW
        clear hW
        go_upto_region 6 with fail
        go_quiet (fail)
        go_wp2
        go_ret
        exact ⟨ret_ptr (by rw [HJ.out]; omega), (HW.out ▸ gr.drewN _).drewN _⟩
      · have e1 : (a / 16777216 == n / 16777216) = false := by simpa using q
        have HN := Lib.hid (And.intro q (And.intro h1 (And.intro h2 (And.intro h3 h4))))
        clear q h1 h2 h3 h4
        go_upto_region 5 with fail
        go_quiet (fail)
        go_wp2_with fail
        go_roundw
        case rel => exact ⟨4, by omega, by go_num, fun _ => HN.out.2.1 (by omega), fun _ => HN.out.2.2.1 (by omega), fun _ => HN.out.2.2.2.1 (by omega), fun _ => HN.out.1, gr.drewN _⟩
        case measure => simp [intOf]
    · have HJ := Lib.hid (show hJ n a = 256 by unfold hJ; rw [if_neg (h1 (by omega)), if_neg (h2 (by omega)), if_neg (h3 (by omega)), if_neg (h4 (by omega))])
      clear h1 h2 h3 h4
      go_wp2_with fail
      go_ret
      exact ⟨ret_ptr (by rw [HJ.out]), gr⟩
/-- What a wheel holds on to: the cells of a new one. -/
theorem zero86 (n : Int) : Try.zeroCells86.setIfInBounds 0 (.int .u64 n) = (tab 387 (whF (newS n) fun _ => .slice none 0 0)).toArray := by kernel_rfl
theorem wnew (n : Int) (w : World) : Calls Try.prog 11 #[.int .u64 n] w fun e w' => e = .returned (.pointer (some ⟨w.heap.size, 0, none⟩)) ∧ WMem w' w.heap.size (newS n) (fun _ => []) (fun _ => .slice none 0 0) ∧ Gr w w' := by
  go_enter Try.func11, Try.ntmps11
  go_wp2
  go_ret
  rw [zero86]
  exact ⟨rfl, ⟨Blk.new w 86 _, fun _ _ => Sl.nil _ _ _, fun _ _ _ _ _ => fun b hb => by simp [sb] at hb⟩, (Gr.refl w).al _⟩
theorem wnow (g : Nat) (s : TS) (L : Nat → List Int) (V : Nat → Value) (w : World) (m : WMem w g s L V) : Calls Try.prog 15 #[.pointer (some ⟨g, 0, none⟩)] w fun e w' => e = .returned (.int .u64 s.now) ∧ w = w' := by
  obtain ⟨c0, c1, cf⟩ := m.head
  clear m c1
  generalize s.now = n at *
  go_enter Try.func15, Try.ntmps15
  go_wp2
  go_ret
  exact ⟨rfl, rfl⟩
theorem wnow_nil (w : World) : Calls Try.prog 15 #[.pointer none] w fun e w' => e = .returned (.int .u64 0) ∧ w = w' := by
  go_enter Try.func15, Try.ntmps15
  go_wp2
  go_ret
  exact ⟨rfl, rfl⟩
def hasB (s : TS) (p : Int) : Bool := decide (0 ≤ p ∧ p < 64) && decide (s.no p.toNat ≠ 0)
theorem hasB_yes {s : TS} {p : Int} (h : hasB s p = true) : ∃ i : Nat, p = i ∧ i < 64 ∧ s.no i ≠ 0 := by
  unfold hasB at h
  simp only [Bool.and_eq_true, decide_eq_true_eq] at h
  obtain ⟨i, rfl⟩ := Int.eq_ofNat_of_zero_le h.1.1
  exact ⟨i, rfl, by omega, by simpa using h.2⟩
theorem hasB_at (s : TS) (i : Nat) (hi : i < 64) : hasB s (i : Int) = decide (s.no i ≠ 0) := by
  unfold hasB
  rw [Int.toNat_natCast, show decide ((0 : Int) ≤ i ∧ (i : Int) < 64) = true by simp; omega]
  rfl
theorem whas (g : Nat) (s : TS) (L : Nat → List Int) (V : Nat → Value) (p : Int) (w : World) (m : WMem w g s L V) (h0 : ∀ q, 0 ≤ s.no q) : Calls Try.prog 35 #[.pointer (some ⟨g, 0, none⟩), .int .i64 p] w fun e w' => e = .returned (.bool (hasB s p)) ∧ w = w' := by
  by_cases hp : 0 ≤ p ∧ p < 64
  · obtain ⟨i, rfl⟩ := Int.eq_ofNat_of_zero_le hp.1
    have hi : i < 64 := by omega
    obtain ⟨c0, c1⟩ := m.tm hi
    have hz := h0 i
    have HB := Lib.hid (hasB_at s i hi)
    have i1 : (i : Int) < 64 := by omega
    clear m c0 hp
    by_cases hn : s.no i = 0
    · have HB' := Lib.hid (show hasB s (i : Int) = false by rw [HB.out]; simpa using hn)
      rw [hn] at c1
      clear hn hz HB
      go_enter Try.func35, Try.ntmps35
      go_wp2
      go_ret
      exact ⟨ret_bool (by rw [HB'.out]), rfl⟩
    · have HB' := Lib.hid (show hasB s (i : Int) = true by rw [HB.out]; simpa using hn)
      have hd : decide (0 < s.no i) = true := by simp; omega
      generalize s.no i = z at *
      clear hn hz HB
      go_enter Try.func35, Try.ntmps35
      go_wp2
      go_ret
      exact ⟨ret_bool (by rw [HB'.out]), rfl⟩
  · have HB := Lib.hid (show hasB s p = false by unfold hasB; rw [show decide (0 ≤ p ∧ p < 64) = false by simpa using hp]; rfl)
    have hc : p < 0 ∨ (0 ≤ p ∧ 64 ≤ p) := by omega
    clear m hp h0
    rcases hc with hc | ⟨hc, hc2⟩
    · have d1 : decide (0 ≤ p) = false := by simp; omega
      go_enter Try.func35, Try.ntmps35
      go_wp2
      go_ret
      exact ⟨ret_bool (by rw [HB.out]), rfl⟩
    · have d1 : decide (0 ≤ p) = true := by simp; omega
      have d2 : decide (p < 64) = false := by simp; omega
      go_enter Try.func35, Try.ntmps35
      go_wp2
      go_ret
      exact ⟨ret_bool (by rw [HB.out]), rfl⟩
theorem whas_nil (p : Int) (w : World) : Calls Try.prog 35 #[.pointer none, .int .i64 p] w fun e w' => e = .returned (.bool false) ∧ w = w' := by
  go_enter Try.func35, Try.ntmps35
  go_wp2
  go_ret
  exact ⟨rfl, rfl⟩
theorem wdue (g : Nat) (s : TS) (L : Nat → List Int) (V : Nat → Value) (p : Int) (w : World) (m : WMem w g s L V) (h0 : ∀ q, 0 ≤ s.no q) : Calls Try.prog 27 #[.pointer (some ⟨g, 0, none⟩), .int .i64 p] w fun e w' => e = .returned (.tuple #[.int .u64 (if hasB s p then s.du p.toNat else 0), .bool (hasB s p)]) ∧ w = w' := by
  have HM := Lib.hid (fun w' m' => whas g s L V p w' m' h0)
  have MM := Lib.hid m
  by_cases hb : hasB s p = true
  · obtain ⟨i, rfl, hi, hn⟩ := hasB_yes hb
    rw [hb] at HM ⊢
    rw [if_pos rfl, Int.toNat_natCast]
    obtain ⟨c0, c1⟩ := m.tm hi
    generalize s.du i = z at *
    clear m c1 hn hb h0
    have i1 : (i : Int) < 64 := by omega
    go_enter Try.func27, Try.ntmps27
    go_wp2_with (go_at_call 35; refine (HM.out _ MM.out).mono ?_; rintro e w' ⟨rfl, rfl⟩)
    go_ret2
    exact ⟨rfl, rfl⟩
  · have hb : hasB s p = false := by simpa using hb
    rw [hb] at HM ⊢
    rw [if_neg (by simp)]
    clear m h0 hb
    go_enter Try.func27, Try.ntmps27
    go_wp2_with (go_at_call 35; refine (HM.out _ MM.out).mono ?_; rintro e w' ⟨rfl, rfl⟩)
    go_ret2
    exact ⟨rfl, rfl⟩
theorem wdue_nil (p : Int) (w : World) : Calls Try.prog 27 #[.pointer none, .int .i64 p] w fun e w' => e = .returned (.tuple #[.int .u64 0, .bool false]) ∧ w = w' := by
  go_enter Try.func27, Try.ntmps27
  go_wp2_with (go_at_call 35; refine (whas_nil _ _).mono ?_; rintro e w' ⟨rfl, rfl⟩)
  go_ret2
  exact ⟨rfl, rfl⟩
end Go.Proofs.Ytbeoomjcipbjjaa
