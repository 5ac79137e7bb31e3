/- Contracts of the functions of chapter 2 (sums) and of its reference, for every input: what each returns; nothing that was there is changed. -/
import Derived.Test.YtbbhhlnbjgigaaaProg
import Derived.Test.YtbbhhlnbjgigaaaKit
import Derived.Lib.Mul64
import Derived.Laws.Bits64b
import Derived.Laws.Externs
namespace Go.Proofs.Ytbbhhlnbjgigaaa
open Go.RowKit

namespace SumsP
def addI (a b : Int) : Int := min (a + b) 18446744073709551615
def subI (a b : Int) : Int := max (a - b) 0
def mulI (a b : Int) : Int := min (a * b) 18446744073709551615
def mulB (a b : Int) : Bool := decide (0 < b) && decide (a % b = 0)
def upI (a b : Int) : Int := if b = 0 then 18446744073709551615 else if a % b = 0 then a / b else a / b + 1
end SumsP
open SumsP

theorem mul64_any (x y : Nat) (hx : x < 18446744073709551616) (hy : y < 18446744073709551616) (w : World) :
    Calls Try.prog 69 #[.int .u64 x, .int .u64 y] w fun e w' => e = .returned (.tuple #[.int .u64 ((x * y / 18446744073709551616 : Nat) : Int), .int .u64 ((x * y % 18446744073709551616 : Nat) : Int)]) ∧ w = w' := by
  have maskN : ∀ a : Nat, a < 18446744073709551616 → bits .and .u64 (a : Int) 4294967295 = ((a % 4294967296 : Nat) : Int) := by
    intro a ha
    have h := bits_and_u64_nat a 4294967295 ha (by omega)
    have e : a &&& 4294967295 = a % 4294967296 := Nat.and_two_pow_sub_one_eq_mod a 32
    rw [e] at h
    exact h
  have divN : ∀ a : Nat, (a : Int) / 4294967296 = ((a / 4294967296 : Nat) : Int) := by intro a; omega
  have mulN : ∀ a b : Nat, (a : Int) * (b : Int) = ((a * b : Nat) : Int) := fun a b => (Int.natCast_mul a b).symm
  have addN : ∀ a b : Nat, (a : Int) + (b : Int) = ((a + b : Nat) : Int) := fun a b => (Int.natCast_add a b).symm
  have wrapN : ∀ a : Nat, a < 18446744073709551616 → IntKind.u64.wrap (a : Int) = (a : Int) := by intro a ha; rw [IntKind.wrap_u64]; omega
  have wrapM : ∀ a : Nat, IntKind.u64.wrap (a : Int) = ((a % 18446744073709551616 : Nat) : Int) := by intro a; rw [IntKind.wrap_u64]; omega
  obtain ⟨bd, bt, bw, hhi⟩ := Lib.mul64_hi x y hx hy
  have ba := Lib.half_mul_le (a := x / 4294967296) (b := y / 4294967296) (by omega) (by omega)
  have bb := Lib.half_mul_le (a := x / 4294967296) (b := y % 4294967296) (by omega) (by omega)
  have bc := Lib.half_mul_le (a := x % 4294967296) (b := y / 4294967296) (by omega) (by omega)
  have ba' : x / 4294967296 * (y / 4294967296) < 18446744073709551616 := by omega
  have bb' : x / 4294967296 * (y % 4294967296) < 18446744073709551616 := by omega
  have bc' : x % 4294967296 * (y / 4294967296) < 18446744073709551616 := by omega
  have bh1 : x / 4294967296 * (y / 4294967296) + (x / 4294967296 * (y % 4294967296) + x % 4294967296 * (y % 4294967296) / 4294967296) / 4294967296 < 18446744073709551616 := by omega
  have bh : x / 4294967296 * (y / 4294967296) + (x / 4294967296 * (y % 4294967296) + x % 4294967296 * (y % 4294967296) / 4294967296) / 4294967296 + ((x / 4294967296 * (y % 4294967296) + x % 4294967296 * (y % 4294967296) / 4294967296) % 4294967296 + x % 4294967296 * (y / 4294967296)) / 4294967296 < 18446744073709551616 := by omega
  have M := Lib.hid (And.intro maskN (And.intro divN (And.intro mulN (And.intro addN (And.intro wrapN (And.intro wrapM hhi))))))
  clear maskN divN mulN addN wrapN wrapM hhi
  go_enter Try.func69, Try.ntmps69
  go_wp2
  obtain ⟨maskN, divN, mulN, addN, wrapN, wrapM, hhi⟩ := M.out
  simp only [maskN x hx, maskN y hy, divN, mulN, addN, wrapN _ bd, wrapN _ bb', wrapN _ bt, maskN _ bt, wrapN _ bc', wrapN _ bw, wrapN _ ba', wrapN _ bh1, wrapN _ bh, wrapM (x * y)]
  rw [hhi]
  go_ret2
  exact ⟨rfl, rfl⟩

theorem call_add64 (a b : Int) (ha : 0 ≤ a) (hb : 0 ≤ b) (w : World) : (callFunc 65 #[.int .u64 a, .int .u64 b, .int .u64 0]).run Try.prog w = .ok (.value (.tuple #[.int .u64 ((a + b + 0) % 18446744073709551616), .int .u64 ((a + b + 0) / 18446744073709551616)])) w := by
  rw [run_callFunc_extern (e := add64Entry) Try.func65 (by kernel_rfl) (by kernel_rfl) (by kernel_rfl) (by kernel_rfl)]
  rw [run_add64 a b 0 ha hb (by omega) (by omega)]
  rfl
theorem call_add64_lo (a b : Int) (ha : 0 ≤ a) (hb : 0 ≤ b) (h : a + b ≤ 18446744073709551615) (w : World) : (callFunc 65 #[.int .u64 a, .int .u64 b, .int .u64 0]).run Try.prog w = .ok (.value (.tuple #[.int .u64 (a + b), .int .u64 0])) w := by
  rw [call_add64 a b ha hb, show (a + b + 0) % 18446744073709551616 = a + b by omega, show (a + b + 0) / 18446744073709551616 = 0 by omega]
theorem call_add64_hi (a b : Int) (ha : 0 ≤ a) (hb : 0 ≤ b) (ha1 : a ≤ 18446744073709551615) (hb1 : b ≤ 18446744073709551615) (h : 18446744073709551616 ≤ a + b) (w : World) : (callFunc 65 #[.int .u64 a, .int .u64 b, .int .u64 0]).run Try.prog w = .ok (.value (.tuple #[.int .u64 (a + b - 18446744073709551616), .int .u64 1])) w := by
  rw [call_add64 a b ha hb, show (a + b + 0) % 18446744073709551616 = a + b - 18446744073709551616 by omega, show (a + b + 0) / 18446744073709551616 = 1 by omega]

theorem add_any (a b : Int) (w : World) (ha : 0 ≤ a ∧ a ≤ 18446744073709551615) (hb : 0 ≤ b ∧ b ≤ 18446744073709551615) :
    Calls Try.prog 39 #[.int .u64 a, .int .u64 b] w fun e w' => e = .returned (.int .u64 (addI a b)) ∧ w = w' := by
  obtain ⟨ha0, ha1⟩ := ha
  obtain ⟨hb0, hb1⟩ := hb
  by_cases h : a + b ≤ 18446744073709551615
  · have hc := call_add64_lo a b ha0 hb0 h
    go_enter Try.func39, Try.ntmps39
    go_wp2
    go_ret
    exact ⟨ret_int (by unfold addI; omega), rfl⟩
  · have hc := call_add64_hi a b ha0 hb0 ha1 hb1 (by omega)
    generalize a + b - 18446744073709551616 = c at *
    go_enter Try.func39, Try.ntmps39
    go_wp2
    go_ret
    exact ⟨ret_int (by unfold addI; omega), rfl⟩

theorem radd_any (a b : Int) (w : World) (ha : 0 ≤ a ∧ a ≤ 18446744073709551615) (hb : 0 ≤ b ∧ b ≤ 18446744073709551615) :
    Calls Try.prog 54 #[.int .u64 a, .int .u64 b] w fun e w' => e = .returned (.int .u64 (addI a b)) ∧ w = w' := by
  obtain ⟨ha0, ha1⟩ := ha
  obtain ⟨hb0, hb1⟩ := hb
  go_enter Try.func54, Try.ntmps54
  go_wp2
  all_goals go_ret
  all_goals (refine ⟨ret_int ?_, rfl⟩; unfold addI; omega)

theorem sub_any (a b : Int) (w : World) (ha : 0 ≤ a ∧ a ≤ 18446744073709551615) (hb : 0 ≤ b ∧ b ≤ 18446744073709551615) :
    Calls Try.prog 55 #[.int .u64 a, .int .u64 b] w fun e w' => e = .returned (.int .u64 (subI a b)) ∧ w = w' := by
  obtain ⟨ha0, ha1⟩ := ha
  obtain ⟨hb0, hb1⟩ := hb
  go_enter Try.func55, Try.ntmps55
  go_wp2
  all_goals go_ret
  all_goals (refine ⟨ret_int ?_, rfl⟩; unfold subI; omega)

theorem rsub_any (a b : Int) (w : World) (ha : 0 ≤ a ∧ a ≤ 18446744073709551615) (hb : 0 ≤ b ∧ b ≤ 18446744073709551615) :
    Calls Try.prog 56 #[.int .u64 a, .int .u64 b] w fun e w' => e = .returned (.int .u64 (subI a b)) ∧ w = w' := by
  obtain ⟨ha0, ha1⟩ := ha
  obtain ⟨hb0, hb1⟩ := hb
  go_enter Try.func56, Try.ntmps56
  go_wp2
  all_goals go_ret
  all_goals (refine ⟨ret_int ?_, rfl⟩; unfold subI; omega)

theorem multiple_any (a b : Int) (w : World) (ha : 0 ≤ a ∧ a ≤ 18446744073709551615) (hb : 0 ≤ b ∧ b ≤ 18446744073709551615) :
    Calls Try.prog 61 #[.int .u64 a, .int .u64 b] w fun e w' => e = .returned (.bool (mulB a b)) ∧ w = w' := by
  obtain ⟨ha0, ha1⟩ := ha
  obtain ⟨hb0, hb1⟩ := hb
  go_enter Try.func61, Try.ntmps61
  go_wp2
  all_goals go_ret
  all_goals (refine ⟨ret_bool ?_, rfl⟩; unfold mulB; simp_all; first | rfl | omega)

theorem rmultiple_any (a b : Int) (w : World) (ha : 0 ≤ a ∧ a ≤ 18446744073709551615) (hb : 0 ≤ b ∧ b ≤ 18446744073709551615) :
    Calls Try.prog 62 #[.int .u64 a, .int .u64 b] w fun e w' => e = .returned (.bool (mulB a b)) ∧ w = w' := by
  obtain ⟨ha0, ha1⟩ := ha
  obtain ⟨hb0, hb1⟩ := hb
  go_enter Try.func62, Try.ntmps62
  go_wp2
  all_goals go_ret
  all_goals (refine ⟨ret_bool ?_, rfl⟩; unfold mulB; simp_all; first | rfl | omega)

theorem mul_any (a b : Int) (w : World) (ha : 0 ≤ a ∧ a ≤ 18446744073709551615) (hb : 0 ≤ b ∧ b ≤ 18446744073709551615) :
    Calls Try.prog 57 #[.int .u64 a, .int .u64 b] w fun e w' => e = .returned (.int .u64 (mulI a b)) ∧ w = w' := by
  obtain ⟨x, rfl⟩ := Int.eq_ofNat_of_zero_le ha.1
  obtain ⟨y, rfl⟩ := Int.eq_ofNat_of_zero_le hb.1
  have hx : x < 18446744073709551616 := by omega
  have hy : y < 18446744073709551616 := by omega
  have C := Lib.hid (mul64_any x y hx hy)
  have HM := Lib.hid (show mulI x y = min ((x * y : Nat) : Int) 18446744073709551615 by unfold mulI; rw [Int.natCast_mul])
  clear ha hb
  by_cases h : x * y < 18446744073709551616
  · go_enter Try.func57, Try.ntmps57
    go_wp2_with fail
    refine (C.out _).mono ?_
    rintro e w' ⟨rfl, rfl⟩
    rw [show x * y / 18446744073709551616 = 0 by omega, show x * y % 18446744073709551616 = x * y by omega]
    go_wp2
    go_ret
    exact ⟨ret_int (by rw [HM.out]; omega), rfl⟩
  · have hpos : 0 < x * y / 18446744073709551616 := by omega
    have HM2 := Lib.hid (show mulI x y = 18446744073709551615 by rw [HM.out]; omega)
    clear h
    go_enter Try.func57, Try.ntmps57
    go_wp2_with fail
    refine (C.out _).mono ?_
    rintro e w' ⟨rfl, rfl⟩
    generalize x * y % 18446744073709551616 = m
    generalize x * y / 18446744073709551616 = h at *
    go_wp2
    go_ret
    exact ⟨ret_int (by rw [HM2.out]), rfl⟩

theorem div_lt_iff (a b : Int) (hb : 0 < b) : 18446744073709551615 / b < a ↔ 18446744073709551615 < a * b := Int.ediv_lt_iff_lt_mul hb
theorem rmul_any (a b : Int) (w : World) (ha : 0 ≤ a ∧ a ≤ 18446744073709551615) (hb : 0 ≤ b ∧ b ≤ 18446744073709551615) :
    Calls Try.prog 58 #[.int .u64 a, .int .u64 b] w fun e w' => e = .returned (.int .u64 (mulI a b)) ∧ w = w' := by
  obtain ⟨ha0, ha1⟩ := ha
  obtain ⟨hb0, hb1⟩ := hb
  have h0 : 0 ≤ a * b := Int.mul_nonneg ha0 hb0
  by_cases hz : 0 < b
  · have hi := div_lt_iff a b hz
    have hd0 : 0 ≤ 18446744073709551615 / b := Int.ediv_nonneg (by omega) hb0
    by_cases h : a * b ≤ 18446744073709551615
    · have hn : decide (18446744073709551615 / b < a) = false := by simp; omega
      have HI := Lib.hid hi
      clear hi
      go_enter Try.func58, Try.ntmps58
      go_wp2
      go_ret
      exact ⟨ret_int (by unfold mulI; omega), rfl⟩
    · have hn : 18446744073709551615 / b < a := by omega
      have HI := Lib.hid hi
      clear hi
      go_enter Try.func58, Try.ntmps58
      go_wp2
      go_ret
      exact ⟨ret_int (by unfold mulI; omega), rfl⟩
  · have hz' : b = 0 := by omega
    subst hz'
    go_enter Try.func58, Try.ntmps58
    go_wp2
    go_ret
    exact ⟨ret_int (by unfold mulI; omega), rfl⟩

theorem quo_bd (a b : Int) (ha : 0 ≤ a) (h : 1 ≤ b) : 0 ≤ a / b ∧ a / b ≤ a := ⟨Int.ediv_nonneg ha (by omega), Int.ediv_le_self _ ha⟩
theorem quo_lt (a b : Int) (ha : 0 ≤ a) (h : 1 ≤ b) (hm : ¬ a % b = 0) : a / b < a := by
  have h1 := Int.mul_ediv_add_emod a b
  have h2 := Int.emod_nonneg a (show b ≠ 0 by omega)
  have h3 := quo_bd a b ha h
  have h4 : a / b ≤ b * (a / b) := by
    have := Int.mul_le_mul_of_nonneg_right h h3.1
    omega
  omega
theorem up_any (a b : Int) (w : World) (ha : 0 ≤ a ∧ a ≤ 18446744073709551615) (hb : 0 ≤ b ∧ b ≤ 18446744073709551615) :
    Calls Try.prog 59 #[.int .u64 a, .int .u64 b] w fun e w' => e = .returned (.int .u64 (upI a b)) ∧ w = w' := by
  have C := Lib.hid (fun w => multiple_any a b w ha hb)
  obtain ⟨ha0, ha1⟩ := ha
  obtain ⟨hb0, hb1⟩ := hb
  by_cases hz : b = 0
  · subst hz
    go_enter Try.func59, Try.ntmps59
    go_wp2
    go_ret
    exact ⟨ret_int (by unfold upI; simp), rfl⟩
  · have hz' : (b == 0) = false := by simpa using hz
    have h1 : 1 ≤ b := by omega
    have hbd := quo_bd a b ha0 h1
    by_cases hm : a % b = 0
    · have HM := Lib.hid (show mulB a b = true by unfold mulB; simp; omega)
      have HU := Lib.hid (show upI a b = a / b by unfold upI; rw [if_neg hz, if_pos hm])
      clear hm
      go_enter Try.func59, Try.ntmps59
      go_wp2_with (go_at_call 61; refine (C.out _).mono ?_; rintro e w' ⟨rfl, rfl⟩; rw [HM.out])
      go_ret
      exact ⟨ret_int (by rw [HU.out]), rfl⟩
    · have HM := Lib.hid (show mulB a b = false by unfold mulB; simp; omega)
      have HU := Lib.hid (show upI a b = a / b + 1 by unfold upI; rw [if_neg hz, if_neg hm])
      have hlt := quo_lt a b ha0 h1 hm
      clear hm
      go_enter Try.func59, Try.ntmps59
      go_wp2_with (go_at_call 61; refine (C.out _).mono ?_; rintro e w' ⟨rfl, rfl⟩; rw [HM.out])
      go_ret
      exact ⟨ret_int (by rw [HU.out]), rfl⟩
theorem rup_any (a b : Int) (w : World) (ha : 0 ≤ a ∧ a ≤ 18446744073709551615) (hb : 0 ≤ b ∧ b ≤ 18446744073709551615) :
    Calls Try.prog 60 #[.int .u64 a, .int .u64 b] w fun e w' => e = .returned (.int .u64 (upI a b)) ∧ w = w' := by
  obtain ⟨ha0, ha1⟩ := ha
  obtain ⟨hb0, hb1⟩ := hb
  by_cases hz : b = 0
  · subst hz
    go_enter Try.func60, Try.ntmps60
    go_wp2
    go_ret
    exact ⟨ret_int (by unfold upI; simp), rfl⟩
  · have hz' : (b == 0) = false := by simpa using hz
    have h1 : 1 ≤ b := by omega
    have hbd := quo_bd a b ha0 h1
    by_cases hm : a % b = 0
    · have HU := Lib.hid (show upI a b = a / b by unfold upI; rw [if_neg hz, if_pos hm])
      have hm' : (a % b == 0) = true := by simpa using hm
      clear hm
      go_enter Try.func60, Try.ntmps60
      go_wp2
      go_ret
      exact ⟨ret_int (by rw [HU.out]), rfl⟩
    · have HU := Lib.hid (show upI a b = a / b + 1 by unfold upI; rw [if_neg hz, if_neg hm])
      have hlt := quo_lt a b ha0 h1 hm
      have hm' : (a % b == 0) = false := by simpa using hm
      clear hm
      go_enter Try.func60, Try.ntmps60
      go_wp2
      go_ret
      exact ⟨ret_int (by rw [HU.out]), rfl⟩
theorem awake2_any (w : World) : Calls Try.prog 34 #[] w fun e w' => e = .returned (.bool true) ∧ w = w' := by
  go_enter Try.func34, Try.ntmps34
  go_wp2_with fail
  refine (add_any _ _ _ (by omega) (by omega)).mono ?_
  rintro e w' ⟨rfl, rfl⟩
  rw [show addI 18446744073709551615 5 = 18446744073709551615 from rfl]
  go_wp2_with fail
  refine (sub_any _ _ _ (by omega) (by omega)).mono ?_
  rintro e w' ⟨rfl, rfl⟩
  rw [show subI 3 5 = 0 from rfl]
  go_wp2_with fail
  refine (up_any _ _ _ (by omega) (by omega)).mono ?_
  rintro e w' ⟨rfl, rfl⟩
  rw [show upI 7 3 = 3 from rfl]
  go_wp2
  go_ret
  exact ⟨rfl, rfl⟩
end Go.Proofs.Ytbbhhlnbjgigaaa
