/- Lines and the document's lines, side by side: one act of both. -/
import Derived.Test.YtfppmdnpjihcpaaLinesRef
namespace Go.Proofs.Ytfppmdnpjihcpaa
open Go.RowKit LinesP
set_option linter.unusedVariables false
set_option linter.unusedSectionVars false

/-- A call, inside a region that only reads, of a function that changes nothing. -/
theorem quietS {P : Program} {f : FuncId} {args : Array Value} {w : World} {n : Nat} {v : Value} (h : Calls P f args (w.drewN n) fun e w' => e = .returned v ∧ w.drewN n = w') : Calls P f args (w.drewN n) fun e w'' => e = .returned v ∧ ∃ m, w'' = w.drewN m :=
  h.mono fun _ _ ⟨he, hm⟩ => ⟨he, n, hm.symm⟩

/-- Both tell the same. -/
structure Both (w : World) (g h r m : Nat) (t c : Nat → Bool) (d : Nat → Int) : Prop where
  l : LinesAt w g h m t c d
  rf : RefAt w r m t c d
  rg : r ≠ g
  rh : r ≠ h
  bd : ∀ i, 0 ≤ d i ∧ d i ≤ 255
theorem Both.ch {w w' : World} {g h r m : Nat} {t c : Nat → Bool} {d : Nat → Int} {S : List Nat} (b : Both w g h r m t c d) (k : Ch S w w') (h1 : g ∉ S) (h2 : h ∉ S) (h3 : r ∉ S) : Both w' g h r m t c d :=
  ⟨b.l.ch k h1 h2, b.rf.ch k h3, b.rg, b.rh, b.bd⟩
theorem Both.gr {w w' : World} {g h r m : Nat} {t c : Nat → Bool} {d : Nat → Int} (b : Both w g h r m t c d) (k : Gr w w') : Both w' g h r m t c d := ⟨b.l.gr k, b.rf.gr k, b.rg, b.rh, b.bd⟩

/-- An act leaves both alike. -/
def DoesPost (g h r m : Nat) (w : World) (e : Ending) (w' : World) : Prop := e = .returned (.bool true) ∧ (∃ t c d, Both w' g h r m t c d) ∧ Ch [h, r] w w'

section
variable (g h r m : Nat) (t c : Nat → Bool) (d : Nat → Int) (x k y : Int) (w : World) (b : Both w g h r m t c d) (hk : 0 ≤ k ∧ k ≤ 255) (hx : -9223372036854775808 ≤ x ∧ x ≤ 9223372036854775807)
include b hk hx

theorem does_no (hn : ¬ (0 ≤ x ∧ x < m)) : Calls Try.prog 33 #[.pointer (some ⟨g, 0, none⟩), .slice (some ⟨r, 0, none⟩) m m, .agg #[.int .u8 k, .int .i64 x, .int .u16 y]] w (DoesPost g h r m w) := by
  have hN : ∀ w', Gr w w' → NoLine w' (some ⟨g, 0, none⟩) x := fun w' k => .inr ⟨g, h, m, t, c, d, rfl, b.l.gr k, hn⟩
  have C24 := Lib.hid (fun w' k => raise_none _ _ w' (hN w' k))
  have C25 := Lib.hid (fun w' k => post_none _ _ w' (hN w' k))
  have C23 := Lib.hid (fun w' k => enter_none _ _ w' (hN w' k))
  have C28 := Lib.hid (fun w' k => leave_none _ _ w' (hN w' k))
  have C29 := Lib.hid (fun w' k => next_none _ _ w' (hN w' k))
  have C27 := Lib.hid (fun w' k => take_none _ _ w' (hN w' k))
  have R35 := Lib.hid (fun w' => rhas_no (some ⟨r, 0, none⟩) m x w' hn)
  have R36 := Lib.hid (fun w' => rnext_no (some ⟨r, 0, none⟩) m x w' hn)
  have R69 := Lib.hid (fun w' => renter_no (some ⟨r, 0, none⟩) m x w' hn)
  have R70 := Lib.hid (fun w' => rleave_no (some ⟨r, 0, none⟩) m x w' hn)
  have R71 := Lib.hid (fun w' => rtake_no (some ⟨r, 0, none⟩) m x w' hn)
  have hG : ∀ w', Gr w w' → DoesPost g h r m w (.returned (.bool true)) w' := fun w' k => ⟨rfl, ⟨t, c, d, b.gr k⟩, k.ch _⟩
  have HB := Lib.hid hG
  clear hN hG hn b
  have hA := Blk.new w 60 #[.int .u8 k, .int .i64 x, .int .u16 y]
  have hg1 : Gr w (w.alloc (.cells #[.int .u8 k, .int .i64 x, .int .u16 y] 60)) := (Gr.refl w).al _
  go_enter Try.func33, Try.ntmps33
  go_upto_region 1 with fail
  generalize w.alloc (.cells #[.int .u8 k, .int .i64 x, .int .u16 y] 60) = W at *
  generalize w.heap.size = A at *
  obtain ⟨a0, a1, a2, _⟩ := hA.c3
  have hk5 : k % 5 = 0 ∨ k % 5 = 1 ∨ k % 5 = 2 ∨ k % 5 = 3 ∨ k % 5 = 4 := by omega
  rcases hk5 with hk5 | hk5 | hk5 | hk5 | hk5
  · go_wp2_with (first
      | (go_at_call 24; refine (C24.out _ hg1).mono ?_; rintro e w' ⟨rfl, rfl⟩)
      | (go_at_call 35; refine (R35.out _).mono ?_; rintro e w' ⟨rfl, rfl⟩))
    go_ret
    exact HB.out _ hg1
  · go_wp2_with (first
      | (go_at_call 25; refine (C25.out _ hg1).mono ?_; rintro e w' ⟨rfl, rfl⟩)
      | (go_at_call 35; refine (R35.out _).mono ?_; rintro e w' ⟨rfl, rfl⟩))
    go_ret
    exact HB.out _ hg1
  · go_wp2_with fail
    go_quiet ((first
      | (go_at_call 23; exact quietS (C23.out _ (hg1.drewN _)))
      | (go_at_call 69; exact quietS (R69.out _))))
    go_wp2
    go_ret
    exact HB.out _ (hg1.drewN _)
  · go_wp2_with fail
    go_quiet ((first
      | (go_at_call 28; exact quietS (C28.out _ (hg1.drewN _)))
      | (go_at_call 70; exact quietS (R70.out _))))
    go_wp2
    go_ret
    exact HB.out _ (hg1.drewN _)
  · go_wp2_with fail
    go_quiet ((first
      | (go_at_call 29; exact quietS (C29.out _ (hg1.drewN _)))
      | (go_at_call 36; exact quietS (R36.out _))
      | (go_at_call 27; exact quietS (C27.out _ (hg1.drewN _)))
      | (go_at_call 71; exact quietS (R71.out _))))
    go_wp2
    go_ret
    exact HB.out _ (hg1.drewN _)
end

theorem bd_upd {d : Nat → Int} (h : ∀ i, 0 ≤ d i ∧ d i ≤ 255) (i : Nat) (x : Int) (hx : 0 ≤ x ∧ x ≤ 255) : ∀ j, 0 ≤ upd d i x j ∧ upd d i x j ≤ 255 := fun j => by
  unfold upd; split
  · exact hx
  · exact h j

set_option maxHeartbeats 1000000 in
theorem does_yes (g h r m : Nat) (t c : Nat → Bool) (d : Nat → Int) (i : Nat) (k y : Int) (w : World) (b : Both w g h r m t c d) (hk : 0 ≤ k ∧ k ≤ 255) (hi : i < m) :
    Calls Try.prog 33 #[.pointer (some ⟨g, 0, none⟩), .slice (some ⟨r, 0, none⟩) m m, .agg #[.int .u8 k, .int .i64 i, .int .u16 y]] w (DoesPost g h r m w) := by
  have hA := Blk.new w 60 #[.int .u8 k, .int .i64 i, .int .u16 y]
  have hg1 : Gr w (w.alloc (.cells #[.int .u8 k, .int .i64 i, .int .u16 y] 60)) := (Gr.refl w).al _
  have b1 := b.gr hg1
  have hm64 := b.l.le
  have hAg : g < w.heap.size := b.l.hdr.lt
  have hAh : h < w.heap.size := b.l.row.lt
  have hAr : r < w.heap.size := b.rf.2.lt
  clear b
  have R35 := Lib.hid (fun w' => rhas_yes (some ⟨r, 0, none⟩) m i w' hi)
  go_enter Try.func33, Try.ntmps33
  go_upto_region 1 with fail
  generalize w.alloc (.cells #[.int .u8 k, .int .i64 i, .int .u16 y] 60) = W at *
  generalize w.heap.size = A at *
  obtain ⟨a0, a1, a2, _⟩ := hA.c3
  have hk5 : k % 5 = 0 ∨ k % 5 = 1 ∨ k % 5 = 2 ∨ k % 5 = 3 ∨ k % 5 = 4 := by omega
  rcases hk5 with hk5 | hk5 | hk5 | hk5 | hk5
  · have C24 := Lib.hid (raise_some g h m t c d i W b1.l hi)
    go_wp2_with fail
    refine (C24.out).mono ?_
    rintro e w2 ⟨rfl, l2, k2⟩
    have rf2 := b1.rf.ch k2 (by have := b1.rh; simpa using this)
    have hA2 := hA.ch k2 (by simp; omega)
    obtain ⟨_, e1, _, _⟩ := hA2.c3
    obtain ⟨q0, _, _, qf⟩ := rf2.cells hi
    go_wp2_with (go_at_call 35; refine (R35.out _).mono ?_; rintro e w' ⟨rfl, rfl⟩)
    go_ret
    have k3 : Ch [r] w2 (w2.setCell ⟨r, i * 3, none⟩ (.bool true)) := (Ch.refl _ _).st (by simp) _
    exact ⟨rfl, ⟨_, _, _, ⟨l2.ch k3 (by have := b1.rg; simp; omega) (by have := b1.rh; simp; omega), rf2.st_t i true, b1.rg, b1.rh, b1.bd⟩⟩,
      ((hg1.ch [h, r]).tr k2 (by simp)).tr k3 (by simp)⟩
  · have C25 := Lib.hid (post_some g h m t c d i W b1.l hi)
    go_wp2_with fail
    refine (C25.out).mono ?_
    rintro e w2 ⟨rfl, l2, k2⟩
    have rf2 := b1.rf.ch k2 (by have := b1.rh; simpa using this)
    have hA2 := hA.ch k2 (by simp; omega)
    obtain ⟨_, e1, _, _⟩ := hA2.c3
    obtain ⟨_, q0, _, qf⟩ := rf2.cells hi
    go_wp2_with (go_at_call 35; refine (R35.out _).mono ?_; rintro e w' ⟨rfl, rfl⟩)
    go_ret
    have k3 : Ch [r] w2 (w2.setCell ⟨r, i * 3 + 1, none⟩ (.bool true)) := (Ch.refl _ _).st (by simp) _
    exact ⟨rfl, ⟨_, _, _, ⟨l2.ch k3 (by have := b1.rg; simp; omega) (by have := b1.rh; simp; omega), rf2.st_c i true, b1.rg, b1.rh, b1.bd⟩⟩,
      ((hg1.ch [h, r]).tr k2 (by simp)).tr k3 (by simp)⟩
  · by_cases hd : d i = 255
    · have C := Lib.hid (fun w' k => enter_full g h m t c d i w' (b1.l.gr (show Gr W w' from k)) hi hd)
      have R := Lib.hid (fun w' k => renter_full r m t c d i w' (b1.rf.gr (show Gr W w' from k)) hi hd)
      go_wp2_with fail
      go_quiet ((first
        | (go_at_call 23; exact quietS (C.out _ ((Gr.refl _).drewN _)))
        | (go_at_call 69; exact quietS (R.out _ ((Gr.refl _).drewN _)))))
      go_wp2
      go_ret
      exact ⟨rfl, ⟨t, c, d, b1.gr ((Gr.refl _).drewN _)⟩, (hg1.drewN _).ch _⟩
    · have hd2 : 0 ≤ d i ∧ d i < 255 := by have := b1.bd i; omega
      have C := Lib.hid (fun w' k => enter_some g h m t c d i w' (b1.l.gr (show Gr W w' from k)) hi hd2)
      have R := Lib.hid (fun w' k => renter_some r m t c d i w' k hi hd2)
      have HB := Lib.hid b1
      clear b1
      go_wp2_with fail
      go_region_law (first
        | (go_simp; go_at_call 23; refine (C.out _ ((Gr.refl _).drew)).mono ?_; rintro e w2 ⟨rfl, l2, k2⟩; have e1 := (hA.ch ((Gr.refl W).drew.ch [h] |>.tr k2 (by simp)) (by simp; omega)).c3.2.1)
        | (go_simp; go_at_call 69; refine (R.out _ (HB.out.rf.ch ((Gr.refl W).drew.ch [h] |>.tr k2 (by simp)) (by have := HB.out.rh; simpa using this))).mono ?_; rintro e w3 ⟨rfl, l3, k3⟩))
      all_goals
        go_wp2
        go_ret
        have kk : Ch [h] W w2 := (Gr.refl W).drew.ch [h] |>.tr k2 (by simp)
        exact ⟨rfl, ⟨t, c, _, ⟨l2.ch k3 (by have := HB.out.rg; simp; omega) (by have := HB.out.rh; simp; omega), l3, HB.out.rg, HB.out.rh, bd_upd HB.out.bd i _ (by omega)⟩⟩,
          ((hg1.ch [h, r]).tr kk (by simp)).tr k3 (by simp)⟩
  · by_cases hd : d i = 0
    · have C := Lib.hid (fun w' k => leave_zero g h m t c d i w' (b1.l.gr (show Gr W w' from k)) hi hd)
      have R := Lib.hid (fun w' k => rleave_zero r m t c d i w' (b1.rf.gr (show Gr W w' from k)) hi hd)
      go_wp2_with fail
      go_quiet ((first
        | (go_at_call 28; exact quietS (C.out _ ((Gr.refl _).drewN _)))
        | (go_at_call 70; exact quietS (R.out _ ((Gr.refl _).drewN _)))))
      go_wp2
      go_ret
      exact ⟨rfl, ⟨t, c, d, b1.gr ((Gr.refl _).drewN _)⟩, (hg1.drewN _).ch _⟩
    · have hd2 : 0 < d i ∧ d i ≤ 255 := by have := b1.bd i; omega
      have C := Lib.hid (fun w' k => leave_some g h m t c d i w' (b1.l.gr (show Gr W w' from k)) hi hd2)
      have R := Lib.hid (fun w' k => rleave_some r m t c d i w' k hi hd2)
      have HB := Lib.hid b1
      clear b1
      go_wp2_with fail
      go_region_law (first
        | (go_simp; go_at_call 28; refine (C.out _ ((Gr.refl _).drew)).mono ?_; rintro e w2 ⟨rfl, l2, k2⟩; have e1 := (hA.ch ((Gr.refl W).drew.ch [h] |>.tr k2 (by simp)) (by simp; omega)).c3.2.1)
        | (go_simp; go_at_call 70; refine (R.out _ (HB.out.rf.ch ((Gr.refl W).drew.ch [h] |>.tr k2 (by simp)) (by have := HB.out.rh; simpa using this))).mono ?_; rintro e w3 ⟨rfl, l3, k3⟩))
      all_goals
        go_wp2
        go_ret
        have kk : Ch [h] W w2 := (Gr.refl W).drew.ch [h] |>.tr k2 (by simp)
        exact ⟨rfl, ⟨t, c, _, ⟨l2.ch k3 (by have := HB.out.rg; simp; omega) (by have := HB.out.rh; simp; omega), l3, HB.out.rg, HB.out.rh, bd_upd HB.out.bd i _ (by omega)⟩⟩,
          ((hg1.ch [h, r]).tr kk (by simp)).tr k3 (by simp)⟩
  · have C1 := Lib.hid (fun w' k => next_some g h m t c d i w' (b1.l.gr (show Gr W w' from k)) hi)
    have R1 := Lib.hid (fun w' k => rnext_some r m t c d i w' (b1.rf.gr (show Gr W w' from k)) hi)
    have C := Lib.hid (fun w' k => take_some g h m t c d i w' (b1.l.gr (show Gr W w' from k)) hi)
    have R := Lib.hid (fun w' k => rtake_some r m t c d i w' k hi)
    have HB := Lib.hid b1
    clear b1
    generalize nextI t c d i = q at *
    generalize takeT t c d i = t' at *
    generalize takeC t c d i = c' at *
    have hqq : (q == q) = true := by simp
    go_wp2_with fail
    go_region_law (first
      | (go_simp; go_at_call 29; refine (C1.out _ ((Gr.refl _).drew)).mono ?_; rintro e w1 ⟨rfl, rfl⟩)
      | (go_simp; go_at_call 36; refine (R1.out _ ((Gr.refl _).drew)).mono ?_; rintro e w1 ⟨rfl, rfl⟩)
      | (go_simp; go_at_call 27; refine (C.out _ ((Gr.refl _).drew)).mono ?_; rintro e w2 ⟨rfl, l2, k2⟩; have e1 := (hA.ch ((Gr.refl W).drew.ch [h] |>.tr k2 (by simp)) (by simp; omega)).c3.2.1)
      | (go_simp; go_at_call 71; refine (R.out _ (HB.out.rf.ch ((Gr.refl W).drew.ch [h] |>.tr k2 (by simp)) (by have := HB.out.rh; simpa using this))).mono ?_; rintro e w3 ⟨rfl, l3, k3⟩))
    all_goals
      go_wp2
      go_ret
      have kk : Ch [h] W w2 := (Gr.refl W).drew.ch [h] |>.tr k2 (by simp)
      exact ⟨rfl, ⟨t', c', d, ⟨l2.ch k3 (by have := HB.out.rg; simp; omega) (by have := HB.out.rh; simp; omega), l3, HB.out.rg, HB.out.rh, HB.out.bd⟩⟩,
        ((hg1.ch [h, r]).tr kk (by simp)).tr k3 (by simp)⟩

theorem does_any (g h r m : Nat) (x k y : Int) (w : World) (b : ∃ t c d, Both w g h r m t c d) (hk : 0 ≤ k ∧ k ≤ 255) (hx : -9223372036854775808 ≤ x ∧ x ≤ 9223372036854775807) :
    Calls Try.prog 33 #[.pointer (some ⟨g, 0, none⟩), .slice (some ⟨r, 0, none⟩) m m, .agg #[.int .u8 k, .int .i64 x, .int .u16 y]] w (DoesPost g h r m w) := by
  obtain ⟨t, c, d, b⟩ := b
  by_cases hn : 0 ≤ x ∧ x < m
  · obtain ⟨i, rfl⟩ := Int.eq_ofNat_of_zero_le hn.1
    exact does_yes g h r m t c d i k y w b hk (by omega)
  · exact does_no g h r m t c d x k y w b hk hx hn
end Go.Proofs.Ytfppmdnpjihcpaa
