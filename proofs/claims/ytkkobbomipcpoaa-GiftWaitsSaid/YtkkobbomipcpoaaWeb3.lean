/- Contracts of the functions of chapter 24 (web): Lock, Join, Clear. -/
import Derived.Test.YtkkobbomipcpoaaWeb2
namespace Go.Proofs.Ytkkobbomipcpoaa
open Go.RowKit
set_option linter.unusedVariables false
theorem wait_nil (t x y : Int) (may : Bool) (w : World) : Calls Try.prog 75 #[.pointer none, .int .i64 t, .agg #[.int .i64 x, .int .i64 y], .bool may] w fun e w' => e = .returned (.bool false) ∧ Gr w w' := by
  have C := Lib.hid (fun w => th_nil t w)
  cases may
  all_goals
    go_enter Try.func75, Try.ntmps75
    go_wp2_with (go_at_call 77; refine (C.out _).mono ?_; rintro e w1 ⟨rfl, rfl⟩)
    go_ret
    exact ⟨rfl, (Gr.refl w).al _⟩
section
variable (g a b : Nat) (s : WebS) (w : World) (l : WebAt w g a b s)
include l
theorem wait_no (t x y : Int) (may : Bool) (h : (may && s.th t) = false) : Calls Try.prog 75 #[.pointer (some ⟨g, 0, none⟩), .int .i64 t, .agg #[.int .i64 x, .int .i64 y], .bool may] w fun e w' => e = .returned (.bool false) ∧ Gr w w' := by
  have hg1 : Gr w (w.alloc (.cells #[.int .i64 x, .int .i64 y] 100)) := (Gr.refl w).al _
  have C := Lib.hid (th_any g a b s _ (l.gr hg1) t)
  cases may
  · clear h
    go_enter Try.func75, Try.ntmps75
    go_wp2
    go_ret
    exact ⟨rfl, hg1⟩
  · simp only [Bool.true_and] at h
    rw [h] at C
    clear h
    go_enter Try.func75, Try.ntmps75
    go_wp2_with (go_at_call 77; refine (C.out).mono ?_; rintro e w1 ⟨rfl, rfl⟩)
    go_ret
    exact ⟨rfl, hg1⟩
theorem wait_yes (i : Nat) (x y : Int) (hi : i < s.n) (hx : -1 ≤ x ∧ x < s.m) (hy : -1 ≤ y ∧ y < s.n) : Calls Try.prog 75 #[.pointer (some ⟨g, 0, none⟩), .int .i64 i, .agg #[.int .i64 x, .int .i64 y], .bool true] w fun e w' => e = .returned (.bool true) ∧ WebAt w' g a b (s.setW i x y) ∧ Ch [b] w w' := by
  have hg1 : Gr w (w.alloc (.cells #[.int .i64 x, .int .i64 y] 100)) := (Gr.refl w).al _
  have hA := Blk.new w 100 #[.int .i64 x, .int .i64 y]
  have hb0 := l.wts.lt
  have hgl := l.hdr.lt
  replace l := l.gr hg1
  have C := Lib.hid (th_any g a b s _ l i)
  rw [show s.th i = true by simp [WebS.th]; omega] at C
  go_enter Try.func75, Try.ntmps75
  go_upto_region 1 with fail
  generalize w.alloc (.cells #[.int .i64 x, .int .i64 y] 100) = W at *
  generalize hAe : w.heap.size = A at hA hb0 hgl ⊢
  have HA := Lib.hid hAe
  clear hAe
  have hn := l.ok.n64
  obtain ⟨o0, o1, of⟩ := l.wtsc hi
  obtain ⟨c0, c1, cf⟩ := l.hdr.c2
  obtain ⟨a0, a1, af⟩ := hA.c2
  have HP := Lib.hid (And.intro (l.setW i x y hx hy) (((hg1.ch [b]).st (p := ⟨b, i * 2, none⟩) (by simp) (.int .i64 x)).st (p := ⟨b, i * 2 + 1, none⟩) (by simp) (.int .i64 y)))
  have i1 : (0 : Int) ≤ (i : Int) := by omega
  have i2 : (i : Int) < (s.n : Int) := by omega
  clear l hA
  go_upto_region 3 with (go_at_call 77; refine (C.out).mono ?_; rintro e w1 ⟨rfl, rfl⟩)
  first
  | (go_region
     go_wp2
     go_ret
     exact ⟨rfl, HP.out.1.gr ((Gr.refl _).drew), HP.out.2.drew⟩)
  | (go_wp2
     go_ret
     exact ⟨rfl, HP.out⟩)
end
end Go.Proofs.Ytkkobbomipcpoaa
