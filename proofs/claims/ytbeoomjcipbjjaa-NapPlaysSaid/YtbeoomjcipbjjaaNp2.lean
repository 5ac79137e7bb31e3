/- Naps in memory (chapter 27), and the contracts of their small functions, for every input. -/
import Derived.Test.YtbeoomjcipbjjaaNp1
import Derived.Test.YtbeoomjcipbjjaaKit11
import Derived.Test.YtbeoomjcipbjjaaWl17
import Derived.Laws.Externs
namespace Go.Proofs.Ytbeoomjcipbjjaa
open Go.RowKit
set_option linter.unusedVariables false

/-- The cells of naps: the wheel, the kinds, the closure. -/
def npF (g C : Nat) (K : Nat → Int) : Nat → Value
  | 0 => .pointer (some ⟨g, 0, none⟩)
  | j + 1 => if j < 64 then .int .i64 (K j) else .func (.func 47) #[] #[.pointer (some ⟨C, 0, none⟩)]
structure NM (w : World) (q g C : Nat) (S : List Nat) (s : TS) (K : Nat → Int) : Prop where
  hdr : Arr w q 100 66 (npF g C K)
  box : Blk w C 49 #[.pointer (some ⟨q, 0, none⟩)]
  wa : WA w g S s
  nk : NK s K
section
variable {w w' : World} {q g C : Nat} {S T : List Nat} {s : TS} {K : Nat → Int} (m : NM w q g C S s K)
include m
theorem NM.gr (k : Gr w w') : NM w' q g C S s K := ⟨m.hdr.gr k, m.box.gr k, m.wa.gr k, m.nk⟩
theorem NM.nq : q ∉ S := m.wa.ne m.hdr (by decide) (by decide)
theorem NM.nC : C ∉ S := m.wa.ne m.box (by decide) (by decide)
theorem NM.qC : q ≠ C := fun e => by
  have h1 := m.hdr
  have h2 := m.box
  unfold Arr Blk at h1
  unfold Blk at h2
  rw [e] at h1
  rw [h1] at h2
  simp at h2
theorem NM.ch (k : Ch T w w') (h : Disj (q :: C :: S) T) : NM w' q g C S s K :=
  ⟨m.hdr.ch k (h q (by simp)), m.box.ch k (h C (by simp)), m.wa.ch k (fun x hx => h x (by simp [hx])), m.nk⟩
theorem NM.inn : In w (q :: C :: S) := fun b hb => by
  simp only [List.mem_cons] at hb
  rcases hb with rfl | rfl | hb
  · exact m.hdr.lt
  · exact m.box.lt
  · exact m.wa.inn b hb
theorem NM.head : w.cell? ⟨q, 0, none⟩ = some (.pointer (some ⟨g, 0, none⟩)) ∧ w.cell? ⟨q, 65, none⟩ = some (.func (.func 47) #[] #[.pointer (some ⟨C, 0, none⟩)]) ∧ ∀ j, w.frozen? ⟨q, j, none⟩ = false :=
  ⟨m.hdr.cell (by omega), m.hdr.cell (by omega), m.hdr.frozen⟩
theorem NM.kd {p : Nat} (hp : p < 64) : w.cell? ⟨q, 1 + p, none⟩ = some (.int .i64 (K p)) := by
  rw [m.hdr.cell (by omega), show 1 + p = p + 1 by omega]
  show some (if p < 64 then _ else _) = _
  rw [if_pos hp]
end
theorem npSet {w : World} {q g C : Nat} {K : Nat → Int} (m : Arr w q 100 66 (npF g C K)) {p : Nat} (hp : p < 64) (x : Int) : Arr (w.setCell ⟨q, 1 + p, none⟩ (.int .i64 x)) q 100 66 (npF g C (updT K p x)) :=
  (m.st (1 + p) _).congr fun j _ => by
    unfold updF
    match j with
    | 0 => rw [if_neg (by omega)]; rfl
    | j + 1 =>
      show _ = (if j < 64 then Value.int .i64 (updT K p x j) else _)
      by_cases h : j + 1 = 1 + p
      · rw [if_pos h, if_pos (by omega), show j = p by omega, updT_same]
      · rw [if_neg h, updT_ne _ _ (by omega)]; rfl
/-- The cells of new naps, ahead of the closure. -/
def np0F (g : Nat) : Nat → Value
  | 0 => .pointer (some ⟨g, 0, none⟩)
  | j + 1 => if j < 64 then .int .i64 0 else .nilFunc
theorem zero100 (g : Nat) : Try.zeroCells100.setIfInBounds 0 (.pointer (some ⟨g, 0, none⟩)) = (tab 66 (np0F g)).toArray := by kernel_rfl
def NewN (n : Int) (w : World) (e : Ending) (w' : World) : Prop := ∃ q g C S, e = .returned (.pointer (some ⟨q, 0, none⟩)) ∧ NM w' q g C S (newS n) (fun _ => 0) ∧ Gr w w' ∧ Foot w [] (q :: C :: S)
theorem nnew (n : Int) (w : World) (hn : 0 ≤ n ∧ n ≤ 18446744073709551615) : Calls Try.prog 20 #[.int .u64 n] w (NewN n w) := by
  have CN := Lib.hid (fun w => wnewA n w hn)
  have HN := Lib.hid hn
  clear hn
  go_enter Try.func20, Try.ntmps20
  go_wp2_with (go_at_call 11; refine (CN.out _).mono ?_; rintro e w1 ⟨rfl, S1, h1, g1, f1⟩)
  go_ret
  rw [zero100]
  refine ⟨w1.heap.size, w.heap.size, w1.heap.size + 1, S1, rfl, ⟨?_, ?_, h1.gr (((Gr.refl w1).al _).al _), NK.new HN.out⟩, (g1.al _).al _, fun x hx => ?_⟩
  · refine Arr.al ?_ _
    refine Arr.new w1 100 _ (by simp [tab_length]) fun j hj => ?_
    rw [List.setIfInBounds_toArray, tab_set]
    simp only [List.getElem?_toArray]
    rw [tab_get _ _ _ hj]
    congr 1
    match j with
    | 0 => rw [if_neg (by omega)]; rfl
    | j + 1 =>
      show _ = (if j < 64 then _ else _)
      by_cases h : j + 1 = 65
      · rw [if_pos h, if_neg (by omega)]
      · rw [if_neg h]
        show (if j < 64 then _ else _) = _
        rw [if_pos (by omega), if_pos (by omega)]
  · have := Blk.new (w1.alloc (.cells ((tab 66 (np0F w.heap.size)).toArray.setIfInBounds 65 (.func (.func 47) #[] #[.pointer (some ⟨w1.heap.size + 1, 0, none⟩)])) 100)) 49 #[.pointer (some ⟨w1.heap.size, 0, none⟩)]
    rwa [World.size_alloc] at this
  · have := g1.size_le
    simp only [List.mem_cons] at hx
    rcases hx with rfl | rfl | hx
    · exact .inr this
    · exact .inr (by omega)
    · exact f1 x hx
theorem nclock (q g C : Nat) (S : List Nat) (s : TS) (K : Nat → Int) (w : World) (m : NM w q g C S s K) : Calls Try.prog 31 #[.pointer (some ⟨q, 0, none⟩)] w fun e w' => e = .returned (.int .u64 s.now) ∧ w = w' := by
  obtain ⟨c0, _, cf⟩ := m.head
  obtain ⟨L, V, mm, _, _⟩ := m.wa.ex
  have CW := Lib.hid (wnow g s L V w mm)
  clear m mm
  go_enter Try.func31, Try.ntmps31
  go_wp2_with (go_at_call 15; refine (CW.out).mono ?_; rintro e w1 ⟨rfl, rfl⟩)
  go_ret
  exact ⟨rfl, rfl⟩
theorem nclock_nil (w : World) : Calls Try.prog 31 #[.pointer none] w fun e w' => e = .returned (.int .u64 0) ∧ w = w' := by
  go_enter Try.func31, Try.ntmps31
  go_wp2_with fail
  go_ret
  exact ⟨rfl, rfl⟩
/-- A place's kind. -/
def kdS (K : Nat → Int) (p : Int) : Int := if 0 ≤ p ∧ p < 64 then K p.toNat else 0
theorem kdS_at (K : Nat → Int) {i : Nat} (h : i < 64) : kdS K i = K i := by unfold kdS; rw [if_pos (by omega), Int.toNat_natCast]
theorem kdS_no (K : Nat → Int) {p : Int} (h : ¬ (0 ≤ p ∧ p < 64)) : kdS K p = 0 := by unfold kdS; rw [if_neg h]
theorem nkind (q g C : Nat) (S : List Nat) (s : TS) (K : Nat → Int) (p : Int) (w : World) (m : NM w q g C S s K) : Calls Try.prog 23 #[.pointer (some ⟨q, 0, none⟩), .int .i64 p] w fun e w' => e = .returned (.int .i64 (kdS K p)) ∧ w = w' := by
  by_cases hp : 0 ≤ p ∧ p < 64
  · obtain ⟨i, rfl⟩ := Int.eq_ofNat_of_zero_le hp.1
    have hi : i < 64 := by omega
    rw [kdS_at K hi]
    have c1 := m.kd hi
    have i1 : (i : Int) < 64 := by omega
    have i2 : decide (64 ≤ (i : Int)) = false := by simp; omega
    generalize K i = z at *
    clear m hp
    go_enter Try.func23, Try.ntmps23
    go_wp2_with fail
    go_ret
    exact ⟨rfl, rfl⟩
  · rw [kdS_no K hp]
    have hc : p < 0 ∨ (0 ≤ p ∧ 64 ≤ p) := by omega
    clear m hp
    rcases hc with hc | ⟨hc, hc2⟩
    · have d1 : decide (p < 0) = true := by simpa using hc
      go_enter Try.func23, Try.ntmps23
      go_wp2_with fail
      go_ret
      exact ⟨rfl, rfl⟩
    · have d1 : decide (p < 0) = false := by simpa using hc
      have d2 : decide (64 ≤ p) = true := by simpa using hc2
      go_enter Try.func23, Try.ntmps23
      go_wp2_with fail
      go_ret
      exact ⟨rfl, rfl⟩
theorem nkind_nil (p : Int) (w : World) : Calls Try.prog 23 #[.pointer none, .int .i64 p] w fun e w' => e = .returned (.int .i64 0) ∧ w = w' := by
  go_enter Try.func23, Try.ntmps23
  go_wp2_with fail
  go_ret
  exact ⟨rfl, rfl⟩
/-- When a nap ends. -/
def tillS (s : TS) (p : Nat) : Int := if s.no p ≠ 0 then s.du p else 18446744073709551615
def tillV (s : TS) (K : Nat → Int) (p : Int) : Value := if kdS K p = 0 then .tuple #[.int .u64 0, .bool false] else .tuple #[.int .u64 (tillS s p.toNat), .bool true]
theorem ntill (q g C : Nat) (S : List Nat) (s : TS) (K : Nat → Int) (p : Int) (w : World) (m : NM w q g C S s K) : Calls Try.prog 30 #[.pointer (some ⟨q, 0, none⟩), .int .i64 p] w fun e w' => e = .returned (tillV s K p) ∧ w = w' := by
  have CK := Lib.hid (nkind q g C S s K p w m)
  by_cases h0 : kdS K p = 0
  · have HT := Lib.hid (show tillV s K p = .tuple #[.int .u64 0, .bool false] by unfold tillV; rw [if_pos h0])
    rw [h0] at CK
    clear m h0
    go_enter Try.func30, Try.ntmps30
    go_wp2_with (go_at_call 23; refine (CK.out).mono ?_; rintro e w1 ⟨rfl, rfl⟩)
    go_ret2
    exact ⟨by rw [HT.out]; rfl, rfl⟩
  · have hp : 0 ≤ p ∧ p < 64 := Classical.byContradiction fun e => h0 (kdS_no K e)
    obtain ⟨i, rfl⟩ := Int.eq_ofNat_of_zero_le hp.1
    have hi : i < 64 := by omega
    have e0 : (kdS K i == 0) = false := by simpa using h0
    obtain ⟨c0, _, cf⟩ := m.head
    obtain ⟨L, V, mm, _, _⟩ := m.wa.ex
    have CW := Lib.hid (wdue g s L V i w mm (fun q => (m.wa.tg.no0 q).1))
    rw [hasB_at s i hi, Int.toNat_natCast] at CW
    have HT := Lib.hid (show tillV s K i = .tuple #[.int .u64 (tillS s i), .bool true] by unfold tillV; rw [if_neg h0]; rfl)
    by_cases hn : s.no i = 0
    · have HS := Lib.hid (show tillS s i = 18446744073709551615 by unfold tillS; rw [if_neg (by simpa using hn)])
      rw [hn] at CW
      have d3 : (decide ((0 : Int) ≠ 0)) = false := rfl
      rw [d3, if_neg (by simp)] at CW
      generalize kdS K i = z at *
      clear m mm h0 hn hp hi
      go_enter Try.func30, Try.ntmps30
      go_wp2_with (first | (go_at_call 23; refine (CK.out).mono ?_; rintro e w1 ⟨rfl, rfl⟩) | (go_at_call 27; refine (CW.out).mono ?_; rintro e w1 ⟨rfl, rfl⟩))
      go_ret2
      exact ⟨by rw [HT.out, HS.out]; rfl, rfl⟩
    · have HS := Lib.hid (show tillS s i = s.du i by unfold tillS; rw [if_pos hn])
      have d3 : decide (s.no i ≠ 0) = true := by simpa using hn
      rw [d3, if_pos rfl] at CW
      generalize kdS K i = z at *
      clear m mm h0 hn hp hi d3
      go_enter Try.func30, Try.ntmps30
      go_wp2_with (first | (go_at_call 23; refine (CK.out).mono ?_; rintro e w1 ⟨rfl, rfl⟩) | (go_at_call 27; refine (CW.out).mono ?_; rintro e w1 ⟨rfl, rfl⟩))
      go_ret2
      exact ⟨by rw [HT.out, HS.out]; rfl, rfl⟩
theorem ntill_nil (p : Int) (w : World) : Calls Try.prog 30 #[.pointer none, .int .i64 p] w fun e w' => e = .returned (.tuple #[.int .u64 0, .bool false]) ∧ w = w' := by
  have CK := Lib.hid (fun w => nkind_nil p w)
  go_enter Try.func30, Try.ntmps30
  go_wp2_with (go_at_call 23; refine (CK.out _).mono ?_; rintro e w1 ⟨rfl, rfl⟩)
  go_ret2
  exact ⟨rfl, rfl⟩
theorem call_add64 (a b : Int) (ha : 0 ≤ a) (hb : 0 ≤ b) (w : World) : (callFunc 62 #[.int .u64 a, .int .u64 b, .int .u64 0]).run Try.prog w = .ok (.value (.tuple #[.int .u64 ((a + b + 0) % 18446744073709551616), .int .u64 ((a + b + 0) / 18446744073709551616)])) w := by
  rw [run_callFunc_extern (e := add64Entry) Try.func62 (by kernel_rfl) (by kernel_rfl) (by kernel_rfl) (by kernel_rfl)]
  rw [run_add64 a b 0 ha hb (by omega) (by omega)]
  rfl
theorem call_add64_lo (a b : Int) (ha : 0 ≤ a) (hb : 0 ≤ b) (h : a + b ≤ 18446744073709551615) (w : World) : (callFunc 62 #[.int .u64 a, .int .u64 b, .int .u64 0]).run Try.prog w = .ok (.value (.tuple #[.int .u64 (a + b), .int .u64 0])) w := by
  rw [call_add64 a b ha hb, show (a + b + 0) % 18446744073709551616 = a + b by omega, show (a + b + 0) / 18446744073709551616 = 0 by omega]
theorem call_add64_hi (a b : Int) (ha : 0 ≤ a) (hb : 0 ≤ b) (ha1 : a ≤ 18446744073709551615) (hb1 : b ≤ 18446744073709551615) (h : 18446744073709551616 ≤ a + b) (w : World) : (callFunc 62 #[.int .u64 a, .int .u64 b, .int .u64 0]).run Try.prog w = .ok (.value (.tuple #[.int .u64 (a + b - 18446744073709551616), .int .u64 1])) w := by
  rw [call_add64 a b ha hb, show (a + b + 0) % 18446744073709551616 = a + b - 18446744073709551616 by omega, show (a + b + 0) / 18446744073709551616 = 1 by omega]
end Go.Proofs.Ytbeoomjcipbjjaa
