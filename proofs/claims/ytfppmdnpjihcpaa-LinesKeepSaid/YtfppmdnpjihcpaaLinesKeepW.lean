/- The walk of the law LinesKeep of chapter 14 (lines): it returns true for every input, and changes nothing that was there. -/
import Derived.Test.YtfppmdnpjihcpaaLines
namespace Go.Proofs.Ytfppmdnpjihcpaa
open Go.RowKit LinesP
set_option linter.unusedVariables false

/-- Lines of three processors: what waits of the third one, and how deep it is; of the second one nothing waits. -/
def Keep (w wr : World) (tb cb : Bool) (x : Int) : Prop :=
  ∃ t c d, LinesAt wr (w.heap.size + 1) w.heap.size 3 t c d ∧ t 2 = tb ∧ c 2 = cb ∧ d 2 = x ∧ t 1 = false ∧ c 1 = false ∧ Gr w wr
theorem Keep.gr {w wr : World} {tb cb : Bool} {x : Int} (h : Keep w wr tb cb x) : Gr w wr := by obtain ⟨_, _, _, _, _, _, _, _, _, g⟩ := h; exact g

section
variable (w wr : World) (tb cb : Bool) (x : Int) (h : Keep w wr tb cb x)
include h
theorem k_enter (hx : 0 ≤ x ∧ x < 255) : Calls Try.prog 23 #[.pointer (some ⟨w.heap.size + 1, 0, none⟩), .int .i64 2] wr fun e w' => e = .returned (.bool true) ∧ Keep w w' tb cb (x + 1) := by
  obtain ⟨t, c, d, l, ht, hc, rfl, h1, h2, g⟩ := h
  exact (enter_some _ _ 3 t c d 2 wr l (by omega) hx).mono fun e w' ⟨he, l', k⟩ => ⟨he, t, c, _, l', ht, hc, by simp [upd], h1, h2, g.chs k (by simp)⟩
theorem k_raise : Calls Try.prog 24 #[.pointer (some ⟨w.heap.size + 1, 0, none⟩), .int .i64 2] wr fun e w' => e = .returned (.tuple #[]) ∧ Keep w w' true cb x := by
  obtain ⟨t, c, d, l, ht, hc, hd, h1, h2, g⟩ := h
  exact (raise_some _ _ 3 t c d 2 wr l (by omega)).mono fun e w' ⟨he, l', k⟩ => ⟨he, _, c, d, l', by simp [upd], hc, hd, by simpa [upd] using h1, h2, g.chs k (by simp)⟩
theorem k_post : Calls Try.prog 25 #[.pointer (some ⟨w.heap.size + 1, 0, none⟩), .int .i64 2] wr fun e w' => e = .returned (.tuple #[]) ∧ Keep w w' tb true x := by
  obtain ⟨t, c, d, l, ht, hc, hd, h1, h2, g⟩ := h
  exact (post_some _ _ 3 t c d 2 wr l (by omega)).mono fun e w' ⟨he, l', k⟩ => ⟨he, t, _, d, l', ht, by simp [upd], hd, h1, by simpa [upd] using h2, g.chs k (by simp)⟩
theorem k_depth : Calls Try.prog 26 #[.pointer (some ⟨w.heap.size + 1, 0, none⟩), .int .i64 2] wr fun e w' => e = .returned (.int .i64 x) ∧ wr = w' := by
  obtain ⟨t, c, d, l, ht, hc, rfl, h1, h2, g⟩ := h
  exact depth_some _ _ 3 t c d 2 wr l (by omega)
theorem k_leave (hx : 0 < x ∧ x ≤ 255) : Calls Try.prog 28 #[.pointer (some ⟨w.heap.size + 1, 0, none⟩), .int .i64 2] wr fun e w' => e = .returned (.bool true) ∧ Keep w w' tb cb (x - 1) := by
  obtain ⟨t, c, d, l, ht, hc, rfl, h1, h2, g⟩ := h
  exact (leave_some _ _ 3 t c d 2 wr l (by omega) hx).mono fun e w' ⟨he, l', k⟩ => ⟨he, t, c, _, l', ht, hc, by simp [upd], h1, h2, g.chs k (by simp)⟩
theorem k_leave0 (hx : x = 0) : Calls Try.prog 28 #[.pointer (some ⟨w.heap.size + 1, 0, none⟩), .int .i64 2] wr fun e w' => e = .returned (.bool false) ∧ wr = w' := by
  obtain ⟨t, c, d, l, ht, hc, hd, h1, h2, g⟩ := h
  exact leave_zero _ _ 3 t c d 2 wr l (by omega) (by rw [hd, hx])
def keepNext (tb cb : Bool) (x : Int) : Int := if 0 < x then 0 else if tb then 1 else if cb then 2 else 0
theorem k_take : Calls Try.prog 27 #[.pointer (some ⟨w.heap.size + 1, 0, none⟩), .int .i64 2] wr fun e w' => e = .returned (.int .i64 (keepNext tb cb x)) ∧ Keep w w' (if keepNext tb cb x = 1 then false else tb) (if keepNext tb cb x = 2 then false else cb) x := by
  obtain ⟨t, c, d, l, rfl, rfl, rfl, h1, h2, g⟩ := h
  refine (take_some _ _ 3 t c d 2 wr l (by omega)).mono fun e w' ⟨he, l', k⟩ => ⟨he, _, _, d, l', ?_, ?_, rfl, ?_, ?_, g.chs k (by simp)⟩
  · show takeT t c d 2 2 = if nextI t c d 2 = 1 then false else t 2
    unfold takeT; split <;> simp [upd]
  · show takeC t c d 2 2 = if nextI t c d 2 = 2 then false else c 2
    unfold takeC; split <;> simp [upd]
  · unfold takeT; split <;> simp [upd, h1]
  · unfold takeC; split <;> simp [upd, h2]
theorem k_next1 : Calls Try.prog 29 #[.pointer (some ⟨w.heap.size + 1, 0, none⟩), .int .i64 1] wr fun e w' => e = .returned (.int .i64 0) ∧ wr = w' := by
  obtain ⟨t, c, d, l, ht, hc, hd, h1, h2, g⟩ := h
  have := next_some _ _ 3 t c d 1 wr l (by omega)
  rwa [show nextI t c d 1 = 0 by unfold nextI; rw [h1, h2]; split <;> rfl] at this
end

set_option maxRecDepth 100000 in
set_option maxHeartbeats 4000000 in
theorem linesKeep_walk (a b q : Int) (w : World) (ha : 0 ≤ a ∧ a ≤ 255) (hb : 0 ≤ b ∧ b ≤ 255) (hq : 0 ≤ q ∧ q ≤ 255) :
    Calls Try.prog 5 #[.int .u8 a, .int .u8 b, .int .u8 q] w fun e w' => e = .returned (.bool true) ∧ Gr w w' := by
  obtain ⟨D, hD⟩ := Int.eq_ofNat_of_zero_le (show 0 ≤ q % 200 by omega)
  have hD2 : D < 200 := by omega
  have HD := Lib.hid hD
  clear hD
  obtain ⟨an, rfl⟩ := Int.eq_ofNat_of_zero_le ha.1
  obtain ⟨bn, rfl⟩ := Int.eq_ofNat_of_zero_le hb.1
  go_enter Try.func5, Try.ntmps5
  go_wp2_with fail
  refine (lnew_any 3 _).mono ?_
  rintro e w1 ⟨rfl, l1, g1⟩
  rw [show (clampI 3 0 64).toNat = 3 from rfl] at l1
  have k1 : Keep w w1 false false 0 := ⟨_, _, _, l1, rfl, rfl, rfl, rfl, rfl, g1⟩
  clear l1 g1
  go_upto_region 3 with fail
  rw [HD.out]
  go_wp2_with fail
  go_loopw [9] (fun i wr => ∃ k : Nat, k ≤ D ∧ i = .int .i64 k ∧ Keep w wr false false k) (fun i _ => D - (intOf i).toNat)
  case atStart => exact ⟨0, by omega, rfl, k1⟩
  case round =>
    obtain ⟨k, hk, rfl, kk⟩ := hrel
    by_cases hlt : k < D
    · have C := Lib.hid (k_enter w wr false false k kk (by omega))
      go_wp2_with (go_at_call 23; refine (C.out).mono ?_; rintro e w2 ⟨rfl, k2⟩)
      go_roundw
      case rel => exact ⟨k + 1, by omega, by go_num, by simpa using k2⟩
      case measure => simp [intOf]; omega
    · obtain rfl : D = k := by omega
      go_wp2_with fail
      obtain ⟨w2, hw2⟩ : ∃ w2, w2 = wr := ⟨_, rfl⟩
      subst hw2
      go_loopw [10] (fun i wr => ∃ k : Nat, k ≤ an ∧ i = .int .i64 k ∧ Keep w wr (decide (0 < k)) false D) (fun i _ => an - (intOf i).toNat)
      case atStart => exact ⟨0, by omega, rfl, kk⟩
      case round =>
        obtain ⟨k, hk, rfl, kk⟩ := hrel
        by_cases hlt : k < an
        · have C := Lib.hid (k_raise w wr _ _ _ kk)
          go_wp2_with (go_at_call 24; refine (C.out).mono ?_; rintro e w3 ⟨rfl, k3⟩)
          go_roundw
          case rel => exact ⟨k + 1, by omega, by go_num, by simpa using k3⟩
          case measure => simp [intOf]; omega
        · obtain rfl : an = k := by omega
          go_wp2_with fail
          obtain ⟨w3, hw3⟩ : ∃ w3, w3 = wr := ⟨_, rfl⟩
          subst hw3
          go_loopw [11] (fun i wr => ∃ k : Nat, k ≤ bn ∧ i = .int .i64 k ∧ Keep w wr (decide (0 < an)) (decide (0 < k)) D) (fun i _ => bn - (intOf i).toNat)
          case atStart => exact ⟨0, by omega, rfl, kk⟩
          case round =>
            obtain ⟨k, hk, rfl, kk⟩ := hrel
            by_cases hlt : k < bn
            · have C := Lib.hid (k_post w wr _ _ _ kk)
              go_wp2_with (go_at_call 25; refine (C.out).mono ?_; rintro e w4 ⟨rfl, k4⟩)
              go_roundw
              case rel => exact ⟨k + 1, by omega, by go_num, by simpa using k4⟩
              case measure => simp [intOf]; omega
            · obtain rfl : bn = k := by omega
              go_wp2_with fail
              obtain ⟨w4, hw4⟩ : ∃ w4, w4 = wr := ⟨_, rfl⟩
              subst hw4
              go_loopw [12] (fun i wr => ∃ k : Nat, k ≤ D ∧ i = .int .i64 k ∧ Keep w wr (decide (0 < an)) (decide (0 < bn)) ((D : Int) - k)) (fun i _ => D - (intOf i).toNat)
              case atStart => exact ⟨0, by omega, rfl, by simpa using kk⟩
              case round =>
                obtain ⟨k, hk, rfl, kk⟩ := hrel
                by_cases hlt : k < D
                · have C1 := Lib.hid (k_depth w wr _ _ _ kk)
                  have c2 := k_take w wr _ _ _ kk
                  rw [show keepNext (decide (0 < an)) (decide (0 < bn)) ((D : Int) - k) = 0 by unfold keepNext; rw [if_pos (by omega)], if_neg (by decide), if_neg (by decide)] at c2
                  have C2 := Lib.hid c2
                  have C3 := Lib.hid (fun W hW => k_leave w W _ _ _ (show Keep w W (decide (0 < an)) (decide (0 < bn)) ((D : Int) - k) from hW) (by omega))
                  clear c2
                  go_wp2_with (first | (go_at_call 26; refine (C1.out).mono ?_; rintro e w5 ⟨rfl, rfl⟩) | (go_at_call 27; refine (C2.out).mono ?_; rintro e w6 ⟨rfl, k6⟩) | (go_at_call 28; refine (C3.out _ k6).mono ?_; rintro e w7 ⟨rfl, k7⟩))
                  go_roundw
                  case rel => exact ⟨k + 1, by omega, by go_num, by rw [show (D : Int) - ((k + 1 : Nat) : Int) = (D : Int) - k - 1 by omega]; exact k7⟩
                  case measure => simp [intOf]; omega
                · obtain rfl : D = k := by omega
                  rw [show (D : Int) - D = 0 by omega] at kk
                  have C1 := Lib.hid (k_leave0 w wr _ _ _ kk rfl)
                  have C2 := Lib.hid (k_depth w wr _ _ _ kk)
                  have CT := Lib.hid (k_take w wr _ _ _ kk)
                  obtain ⟨w5, hw5⟩ : ∃ w5, w5 = wr := ⟨_, rfl⟩
                  subst hw5
                  have hcs : (0 < an ∧ 0 < bn) ∨ (0 < an ∧ bn = 0) ∨ (an = 0 ∧ 0 < bn) ∨ (an = 0 ∧ bn = 0) := by omega
                  rcases hcs with ⟨h1, h2⟩ | ⟨h1, rfl⟩ | ⟨rfl, h2⟩ | ⟨rfl, rfl⟩
                  · rw [show decide (0 < an) = true by simpa using h1, show decide (0 < bn) = true by simpa using h2] at CT
                    go_wp2_with (first | (go_at_call 28; refine (C1.out).mono ?_; rintro e w5 ⟨rfl, rfl⟩) | (go_at_call 26; refine (C2.out).mono ?_; rintro e w5 ⟨rfl, rfl⟩) | (go_at_call 27; refine (CT.out).mono ?_; rintro e w6 ⟨rfl, k6⟩; rw [show keepNext true true 0 = 1 from rfl]; rw [show keepNext true true 0 = 1 from rfl, if_pos rfl, if_neg (by decide)] at k6))
                    go_loopw [13, 14] (fun g k wr => (g = .int .i64 0 ∧ k = .int .i64 1 ∧ Keep w wr false true 0) ∨ (g = .int .i64 1 ∧ k = .int .i64 2 ∧ Keep w wr false false 0) ∨ (g = .int .i64 4 ∧ k = .int .i64 0 ∧ Keep w wr false false 0)) (fun g _ _ => 4 - (intOf g).toNat)
                    case atStart => exact .inl ⟨rfl, rfl, k6⟩
                    case round =>
                      rcases hrel with ⟨rfl, rfl, k7⟩ | ⟨rfl, rfl, k7⟩ | ⟨rfl, rfl, k7⟩
                      · have C7 := Lib.hid (k_take w wr _ _ _ k7)
                        go_wp2_with (go_at_call 27; refine (C7.out).mono ?_; rintro e w8 ⟨rfl, k8⟩; rw [show keepNext false true 0 = 2 from rfl]; rw [show keepNext false true 0 = 2 from rfl, if_neg (by decide), if_pos rfl] at k8)
                        go_roundw
                        case rel => exact .inr (.inl ⟨rfl, rfl, k8⟩)
                        case measure => simp [intOf]
                      · have C7 := Lib.hid (k_take w wr _ _ _ k7)
                        go_wp2_with (go_at_call 27; refine (C7.out).mono ?_; rintro e w8 ⟨rfl, k8⟩; rw [show keepNext false false 0 = 0 from rfl]; rw [show keepNext false false 0 = 0 from rfl, if_neg (by decide), if_neg (by decide)] at k8)
                        go_roundw
                        case rel => exact .inr (.inr ⟨rfl, rfl, k8⟩)
                        case measure => simp [intOf]
                      · have C8 := Lib.hid (k_next1 w wr _ _ _ k7)
                        have hg7 := k7.gr
                        go_wp2_with (first | (go_at_call 29; refine (C8.out).mono ?_; rintro e w8 ⟨rfl, rfl⟩) | (go_at_call 30; refine (awake14_any _).mono ?_; rintro e w9 ⟨rfl, g9⟩))
                        go_ret
                        exact ⟨rfl, hg7.tr g9⟩
                  · rw [show decide (0 < an) = true by simpa using h1] at CT
                    go_wp2_with (first | (go_at_call 28; refine (C1.out).mono ?_; rintro e w5 ⟨rfl, rfl⟩) | (go_at_call 26; refine (C2.out).mono ?_; rintro e w5 ⟨rfl, rfl⟩) | (go_at_call 27; refine (CT.out).mono ?_; rintro e w6 ⟨rfl, k6⟩; rw [show keepNext true (decide (0 < 0)) 0 = 1 from rfl]; rw [show keepNext true (decide (0 < 0)) 0 = 1 from rfl, if_pos rfl, if_neg (by decide)] at k6))
                    go_loopw [13, 14] (fun g k wr => (g = .int .i64 0 ∧ k = .int .i64 1 ∧ Keep w wr false false 0) ∨ (g = .int .i64 1 ∧ k = .int .i64 0 ∧ Keep w wr false false 0)) (fun g _ _ => 4 - (intOf g).toNat)
                    case atStart => exact .inl ⟨rfl, rfl, k6⟩
                    case round =>
                      rcases hrel with ⟨rfl, rfl, k7⟩ | ⟨rfl, rfl, k7⟩
                      · have C7 := Lib.hid (k_take w wr _ _ _ k7)
                        go_wp2_with (go_at_call 27; refine (C7.out).mono ?_; rintro e w8 ⟨rfl, k8⟩; rw [show keepNext false false 0 = 0 from rfl]; rw [show keepNext false false 0 = 0 from rfl, if_neg (by decide), if_neg (by decide)] at k8)
                        go_roundw
                        case rel => exact .inr ⟨rfl, rfl, k8⟩
                        case measure => simp [intOf]
                      · have C8 := Lib.hid (k_next1 w wr _ _ _ k7)
                        have hg7 := k7.gr
                        go_wp2_with (first | (go_at_call 29; refine (C8.out).mono ?_; rintro e w8 ⟨rfl, rfl⟩) | (go_at_call 30; refine (awake14_any _).mono ?_; rintro e w9 ⟨rfl, g9⟩))
                        go_ret
                        exact ⟨rfl, hg7.tr g9⟩
                  · rw [show decide (0 < bn) = true by simpa using h2] at CT
                    go_wp2_with (first | (go_at_call 28; refine (C1.out).mono ?_; rintro e w5 ⟨rfl, rfl⟩) | (go_at_call 26; refine (C2.out).mono ?_; rintro e w5 ⟨rfl, rfl⟩) | (go_at_call 27; refine (CT.out).mono ?_; rintro e w6 ⟨rfl, k6⟩; rw [show keepNext (decide (0 < 0)) true 0 = 2 from rfl]; rw [show keepNext (decide (0 < 0)) true 0 = 2 from rfl, if_neg (by decide), if_pos rfl] at k6))
                    go_loopw [13, 14] (fun g k wr => (g = .int .i64 0 ∧ k = .int .i64 2 ∧ Keep w wr false false 0) ∨ (g = .int .i64 2 ∧ k = .int .i64 0 ∧ Keep w wr false false 0)) (fun g _ _ => 4 - (intOf g).toNat)
                    case atStart => exact .inl ⟨rfl, rfl, k6⟩
                    case round =>
                      rcases hrel with ⟨rfl, rfl, k7⟩ | ⟨rfl, rfl, k7⟩
                      · have C7 := Lib.hid (k_take w wr _ _ _ k7)
                        go_wp2_with (go_at_call 27; refine (C7.out).mono ?_; rintro e w8 ⟨rfl, k8⟩; rw [show keepNext false false 0 = 0 from rfl]; rw [show keepNext false false 0 = 0 from rfl, if_neg (by decide), if_neg (by decide)] at k8)
                        go_roundw
                        case rel => exact .inr ⟨rfl, rfl, k8⟩
                        case measure => simp [intOf]
                      · have C8 := Lib.hid (k_next1 w wr _ _ _ k7)
                        have hg7 := k7.gr
                        go_wp2_with (first | (go_at_call 29; refine (C8.out).mono ?_; rintro e w8 ⟨rfl, rfl⟩) | (go_at_call 30; refine (awake14_any _).mono ?_; rintro e w9 ⟨rfl, g9⟩))
                        go_ret
                        exact ⟨rfl, hg7.tr g9⟩
                  · go_wp2_with (first | (go_at_call 28; refine (C1.out).mono ?_; rintro e w5 ⟨rfl, rfl⟩) | (go_at_call 26; refine (C2.out).mono ?_; rintro e w5 ⟨rfl, rfl⟩) | (go_at_call 27; refine (CT.out).mono ?_; rintro e w6 ⟨rfl, k6⟩; rw [show keepNext (decide (0 < 0)) (decide (0 < 0)) 0 = 0 from rfl]; rw [show keepNext (decide (0 < 0)) (decide (0 < 0)) 0 = 0 from rfl, if_neg (by decide), if_neg (by decide)] at k6))
                    go_loopw [13, 14] (fun g k wr => g = .int .i64 0 ∧ k = .int .i64 0 ∧ Keep w wr false false 0) (fun g _ _ => 4 - (intOf g).toNat)
                    case atStart => exact ⟨rfl, rfl, k6⟩
                    case round =>
                      obtain ⟨rfl, rfl, k7⟩ := hrel
                      have C8 := Lib.hid (k_next1 w wr _ _ _ k7)
                      have hg7 := k7.gr
                      go_wp2_with (first | (go_at_call 29; refine (C8.out).mono ?_; rintro e w8 ⟨rfl, rfl⟩) | (go_at_call 30; refine (awake14_any _).mono ?_; rintro e w9 ⟨rfl, g9⟩))
                      go_ret
                      exact ⟨rfl, hg7.tr g9⟩
end Go.Proofs.Ytfppmdnpjihcpaa
