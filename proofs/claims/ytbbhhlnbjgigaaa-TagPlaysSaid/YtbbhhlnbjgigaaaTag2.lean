/- Contracts of Live of chapter 6 (tag), and the page's example (awake). -/
import Derived.Test.YtbbhhlnbjgigaaaTag
namespace Go.Proofs.Ytbbhhlnbjgigaaa
open Go.RowKit TagP
set_option linter.unusedVariables false

theorem live_bad (p : Option Addr) (u : Int) (w : World) (h0 : 0 ≤ u) (h1 : u ≤ 18446744073709551615) (h : goodB (u / 256) (u % 256) = false) :
    Calls Try.prog 47 #[.pointer p, .int .u64 u] w fun e w' => e = .returned (.tuple #[.int .i64 0, .bool false]) ∧ Gr w w' := by
  have C := Lib.hid (fun w => of_no u w h0 h1 h)
  clear h
  go_enter Try.func47, Try.ntmps47
  go_wp2_with fail
  refine (C.out _).mono ?_
  rintro e w1 ⟨rfl, g1⟩
  go_wp2
  go_ret2
  exact ⟨rfl, g1.al _⟩

theorem live_nil (u : Int) (w : World) (h0 : 0 ≤ u) (h1 : u ≤ 18446744073709551615) :
    Calls Try.prog 47 #[.pointer none, .int .u64 u] w fun e w' => e = .returned (.tuple #[.int .i64 0, .bool false]) ∧ Gr w w' := by
  by_cases h : goodB (u / 256) (u % 256) = true
  · have C := Lib.hid (fun w => of_yes u w h0 h1 h)
    have hu : ¬ u = 0 := by have := (good_iff _ _).1 h; omega
    have hu' : ((0 : Int) == u) = false := by simp; omega
    have hu2 : ((0 : Int) != u) = true := by simp; omega
    clear h hu
    go_enter Try.func47, Try.ntmps47
    go_wp2_with fail
    refine (C.out _).mono ?_
    rintro e w1 ⟨rfl, g1⟩
    go_wp2_with (go_at_call 53; refine (now_nil _ _).mono ?_; rintro e w' ⟨rfl, rfl⟩)
    go_ret2
    exact ⟨rfl, g1.al _⟩
  · exact live_bad none u w h0 h1 (by simpa using h)

theorem live_no (g : Nat) (last : Int) (f : Nat → Int) (u : Int) (w : World) (hb : Blk w g 85 (bookCells last f)) (h0 : 0 ≤ u) (h1 : u ≤ 18446744073709551615)
    (h : goodB (u / 256) (u % 256) = true) (hne : f (u % 256).toNat ≠ u) :
    Calls Try.prog 47 #[.pointer (some ⟨g, 0, none⟩), .int .u64 u] w fun e w' => e = .returned (.tuple #[.int .i64 0, .bool false]) ∧ Gr w w' := by
  have C := Lib.hid (fun w => of_yes u w h0 h1 h)
  have HN := Lib.hid (show nowI f (u % 256) = f (u % 256).toNat by unfold nowI; rw [if_pos ((place_iff _).2 (by have := (good_iff _ _).1 h; omega))])
  have hne' : (f (u % 256).toNat == u) = false := by simpa using hne
  have hne2 : (f (u % 256).toNat != u) = true := by simpa using hne
  clear h hne
  go_enter Try.func47, Try.ntmps47
  go_wp2_with fail
  refine (C.out _).mono ?_
  rintro e w1 ⟨rfl, g1⟩
  have hb1 := hb.gr g1
  go_wp2_with (go_at_call 53; refine (now_any g last f _ _ (hb1.al _)).mono ?_; rintro e w' ⟨rfl, rfl⟩; rw [HN.out])
  go_ret2
  exact ⟨rfl, g1.al _⟩

theorem live_yes (g : Nat) (last : Int) (f : Nat → Int) (u : Int) (w : World) (hb : Blk w g 85 (bookCells last f)) (h0 : 0 ≤ u) (h1 : u ≤ 18446744073709551615)
    (h : goodB (u / 256) (u % 256) = true) (heq : f (u % 256).toNat = u) :
    Calls Try.prog 47 #[.pointer (some ⟨g, 0, none⟩), .int .u64 u] w fun e w' => e = .returned (.tuple #[.int .i64 (u % 256), .bool true]) ∧ Gr w w' := by
  have C := Lib.hid (fun w => of_yes u w h0 h1 h)
  have HN := Lib.hid (show nowI f (u % 256) = u by unfold nowI; rw [if_pos ((place_iff _).2 (by have := (good_iff _ _).1 h; omega)), heq])
  clear h heq
  go_enter Try.func47, Try.ntmps47
  go_wp2_with fail
  refine (C.out _).mono ?_
  rintro e w1 ⟨rfl, g1⟩
  have hb1 := hb.gr g1
  go_wp2_with fail
  refine (now_any g last f _ _ (hb1.al _)).mono ?_
  rintro e w' ⟨rfl, rfl⟩
  rw [HN.out]
  go_wp2_with fail
  refine (now_any g last f _ _ (hb1.al _)).mono ?_
  rintro e w' ⟨rfl, rfl⟩
  rw [HN.out]
  go_wp2_with fail
  refine (C.out _).mono ?_
  rintro e w2 ⟨rfl, g2⟩
  obtain ⟨b0, g3⟩ := g2.new1
  obtain ⟨c0, c1, f0⟩ := b0.c2
  have hlt := b0.lt
  clear g2
  go_wp2
  go_quiet (fail)
  go_wp2
  go_ret2
  exact ⟨by simp, (((g1.tr g3).al _).drewN _)⟩

theorem awake6_any (w : World) : Calls Try.prog 43 #[] w fun e w' => e = .returned (.bool true) ∧ Gr w w' := by
  go_enter Try.func43, Try.ntmps43
  go_wp2_with fail
  refine (word_any 1 5 _ (by omega) (by omega)).mono ?_
  rintro e w1 ⟨rfl, g1⟩
  rw [show wordI 1 5 = 261 from rfl, show goodB 1 5 = true from rfl]
  go_wp2_with fail
  refine (new_any 0 _).mono ?_
  rintro e w2 ⟨rfl, rfl⟩
  rw [show min (0 : Int) 72057594037927935 = 0 from rfl]
  have hb := Blk.new w1 85 (bookCells 0 fun _ => 0)
  have gw : Gr w (w1.alloc (.cells (bookCells 0 fun _ => 0) 85)) := g1.al _
  have hg : w.heap.size ≤ w1.heap.size := g1.size_le
  generalize hB : w1.heap.size = B at *
  clear hB
  generalize w1.alloc (.cells (bookCells 0 fun _ => 0) 85) = w2 at *
  clear g1
  go_wp2_with fail
  refine (next_yes B 0 _ 5 _ hb (by omega) (by omega) rfl).mono ?_
  rintro e w3 ⟨rfl, hb3, g3⟩
  rw [show wordI (0 + 1) 5 = 261 from rfl] at hb3 ⊢
  go_wp2_with fail
  refine (next_yes B _ _ 5 _ hb3 (by omega) (by omega) rfl).mono ?_
  rintro e w4 ⟨rfl, hb4, g4⟩
  rw [show wordI (0 + 1 + 1) 5 = 517 from rfl] at hb4 ⊢
  go_wp2_with fail
  refine (live_no B _ _ 261 _ hb4 (by omega) (by omega) rfl (by decide)).mono ?_
  rintro e w5 ⟨rfl, g5⟩
  go_wp2_with fail
  refine (live_yes B _ _ 517 _ (hb4.gr g5) (by omega) (by omega) rfl (by decide)).mono ?_
  rintro e w6 ⟨rfl, g6⟩
  rw [show (517 : Int) % 256 = 5 from rfl]
  go_wp2
  go_ret
  exact ⟨rfl, ((((gw.chs g3 (by simpa using hg)).chs g4 (by simpa using hg)).tr g5).tr g6)⟩

theorem tagNil_walk (slot u : Int) (w : World) (_hs : -9223372036854775808 ≤ slot ∧ slot ≤ 9223372036854775807) (hu : 0 ≤ u ∧ u ≤ 18446744073709551615) :
    Calls Try.prog 12 #[.int .i64 slot, .int .u64 u] w fun e w' => e = .returned (.bool true) ∧ Gr w w' := by
  go_enter Try.func12, Try.ntmps12
  go_wp2_with (first
    | (go_at_call 50; refine (drop_nil _ _).mono ?_; rintro e w' ⟨rfl, rfl⟩)
    | (go_at_call 46; refine (next_nil _ _).mono ?_; rintro e w' ⟨rfl, rfl⟩)
    | (go_at_call 47; refine (live_nil _ _ hu.1 hu.2).mono ?_; rintro e w1 ⟨rfl, g1⟩)
    | (go_at_call 53; refine (now_nil _ _).mono ?_; rintro e w' ⟨rfl, rfl⟩)
    | (go_at_call 43; refine (awake6_any _).mono ?_; rintro e w2 ⟨rfl, g2⟩))
  go_ret
  exact ⟨rfl, g1.tr g2⟩
end Go.Proofs.Ytbbhhlnbjgigaaa
