/- Chapter 24 (web): the web and the document's web, side by side: one act of both. -/
import Derived.Test.YtkkobbomipcpoaaWebT
namespace Go.Proofs.Ytkkobbomipcpoaa
open Go.RowKit
set_option linter.unusedVariables false
set_option maxHeartbeats 1000000
/-- Both tell the same. -/
structure Both (w : World) (g a b h : Nat) (vo vl vj : Value) (s : WebS) : Prop where
  l : WebAt w g a b s
  r : RefAt w h vo vl vj s
  dj : Disj (h :: rows3 vo vl vj) [g, a, b]
section
variable {w w' w'' : World} {g a b h : Nat} {vo vl vj : Value} {s s' : WebS}
theorem Both.gr (k : Both w g a b h vo vl vj s) (c : Gr w w') : Both w' g a b h vo vl vj s := ⟨k.l.gr c, k.r.gr c, k.dj⟩
theorem Both.webTo (k : Both w g a b h vo vl vj s) (c : WebTo w g a b s' w') : RefAt w' h vo vl vj s :=
  k.r.ch c.2 (fun x hx hm => k.dj x hx (by simp at hm ⊢; omega))
theorem Both.refTo (k : Both w g a b h vo vl vj s) (c : RefTo w h vo vl vj s' w') : WebAt w' g a b s :=
  k.l.ch c.2 (fun x hx hm => k.dj x (List.mem_cons_of_mem _ hm) hx)
theorem Both.step (k : Both w g a b h vo vl vj s) (c1 : WebTo w g a b s' w') (c2 : RefTo w' h vo vl vj s' w'') : Both w'' g a b h vo vl vj s' ∧ Ch ([a, b] ++ rows3 vo vl vj) w w'' :=
  ⟨⟨c1.1.ch c2.2 (fun x hx hm => k.dj x (List.mem_cons_of_mem _ hm) hx), c2.1, k.dj⟩, (c1.2.wide (by simp +contextual)).tr c2.2 (fun x hx => .inl (by simp [hx]))⟩
theorem Both.step2 (k : Both w g a b h vo vl vj s) (c1 : RefTo w h vo vl vj s' w') (c2 : WebTo w' g a b s' w'') : Both w'' g a b h vo vl vj s' ∧ Ch ([a, b] ++ rows3 vo vl vj) w w'' :=
  ⟨⟨c2.1, c1.1.ch c2.2 (fun x hx hm => k.dj x hx (by simp at hm ⊢; omega)), k.dj⟩, (c1.2.wide (fun x hx => by simp [hx])).tr c2.2 (fun x hx => .inl (by simp at hx ⊢; omega))⟩
theorem Both.step1 (k : Both w g a b h vo vl vj s) (c : WebTo w g a b s' w') (he : s' = s) : Both w' g a b h vo vl vj s' ∧ Ch ([a, b] ++ rows3 vo vl vj) w w' :=
  ⟨⟨c.1, he ▸ k.webTo c, k.dj⟩, c.2.wide (by simp +contextual)⟩
theorem Both.inn (k : Both w g a b h vo vl vj s) : w.heap.size ∉ [a, b] ∧ w.heap.size ∉ rows3 vo vl vj := by
  have h1 := k.l.inn
  have h2 := k.r.inn
  refine ⟨fun hm => ?_, fun hm => ?_⟩
  · have := h1 _ (List.mem_cons_of_mem g hm); omega
  · have := h2 _ (List.mem_cons_of_mem h hm); omega
end
def actS (s : WebS) (kd x y : Int) : WebS :=
  if kd = 0 then s.ownS x y else if kd = 1 then s.waitS (s.lo y && s.th x) x y (-1) else if kd = 2 then s.waitS (s.th y && s.th x) x (-1) y else s.waitS (s.th x) x (-1) (-1)
def DoesPost (g a b h : Nat) (vo vl vj : Value) (s : WebS) (w : World) (e : Ending) (w' : World) : Prop := e = .returned (.bool true) ∧ Both w' g a b h vo vl vj s ∧ Ch ([a, b] ++ rows3 vo vl vj) w w'
set_option maxRecDepth 100000 in
theorem does24 (g a b h : Nat) (vo vl vj : Value) (s : WebS) (w : World) (k x y : Int) (B : Both w g a b h vo vl vj s) (hk : 0 ≤ k ∧ k ≤ 255) :
    Calls Try.prog 26 #[.pointer (some ⟨g, 0, none⟩), .pointer (some ⟨h, 0, none⟩), .agg #[.int .u8 k, .int .i64 x, .int .i64 y]] w (DoesPost g a b h vo vl vj (actS s (k % 4) x y) w) := by
  have hX := Blk.new w 42 #[.int .u8 k, .int .i64 x, .int .i64 y]
  have hg1 : Gr w (w.alloc (.cells #[.int .u8 k, .int .i64 x, .int .i64 y] 42)) := (Gr.refl w).al _
  obtain ⟨n1, n2⟩ := B.inn
  replace B := B.gr hg1
  go_enter Try.func26, Try.ntmps26
  go_upto_region 1 with fail
  generalize w.alloc (.cells #[.int .u8 k, .int .i64 x, .int .i64 y] 42) = W at *
  generalize w.heap.size = X at *
  obtain ⟨a0, a1, a2, _⟩ := hX.c3
  have HG := Lib.hid hg1
  have HX := Lib.hid (And.intro hX (And.intro n1 n2))
  clear hX n1 n2 hg1
  have hk4 : k % 4 = 0 ∨ k % 4 = 1 ∨ k % 4 = 2 ∨ k % 4 = 3 := by omega
  rcases hk4 with hk4 | hk4 | hk4 | hk4
  · have HE := Lib.hid (show actS s (k % 4) x y = s.ownS x y by rw [hk4]; rfl)
    have B0 := Lib.hid (B.gr ((Gr.refl W).drew))
    have C1 := Lib.hid (uown g a b s W.drew B0.out.l x y)
    have C2 := Lib.hid (fun w' (c : WebTo W.drew g a b (s.ownS x y) w') => rown h vo vl vj s w' (B0.out.webTo c) x y)
    generalize s.mayOwn x y = q at *
    have hq : (q == q) = true := by simp
    clear B
    go_wp2_with fail
    go_region_held3 (fun w' => w'.cell? ⟨X, 1, none⟩ = some (.int .i64 x) ∧ w'.cell? ⟨X, 2, none⟩ = some (.int .i64 y))
      (first | exact ⟨a1, a2⟩ | exact ⟨((HX.out.1.drew.ch t2.2 HX.out.2.1).ch t3.2 HX.out.2.2).c3.2.1, ((HX.out.1.drew.ch t2.2 HX.out.2.1).ch t3.2 HX.out.2.2).c3.2.2.1⟩ | exact ⟨(HX.out.1.drew.ch t2.2 HX.out.2.1).c3.2.1, (HX.out.1.drew.ch t2.2 HX.out.2.1).c3.2.2.1⟩)
      (first
      | (go_at_call 42; refine (C1.out).mono ?_; rintro e w2 ⟨rfl, t2⟩)
      | (go_at_call 80; refine (C2.out _ t2).mono ?_; rintro e w3 ⟨rfl, t3⟩))
    all_goals
      go_wp2_with fail
      go_ret
      refine ⟨rfl, ?_, ((HG.out.drew).ch _).tr (B0.out.step t2 t3).2 (fun x hx => .inl hx)⟩
      rw [HE.out]
      exact (B0.out.step t2 t3).1
  · have HE := Lib.hid (show actS s (k % 4) x y = s.waitS (s.lo y && s.th x) x y (-1) by rw [hk4]; rfl)
    have C1 := Lib.hid (rth h vo vl vj s W B.r x)
    have HB := Lib.hid B
    cases hx : s.th x
    · have C3 := Lib.hid (ulock g a b s W B.l x y)
      rw [show (s.lo y && s.th x) = false by simp [hx]] at C3 HE
      rw [hx] at C1
      clear hx B
      go_wp2_with (first | (go_at_call 81; refine (C1.out).mono ?_; rintro e w1 ⟨rfl, rfl⟩) | (go_at_call 43; refine (C3.out).mono ?_; rintro e w2 ⟨rfl, t2⟩))
      go_ret
      refine ⟨rfl, ?_, (HG.out.ch _).tr (HB.out.step1 t2 rfl).2 (fun x hx => .inl hx)⟩
      rw [HE.out]
      exact (HB.out.step1 t2 rfl).1
    · have C2 := Lib.hid (rlo h vo vl vj s W B.r y)
      cases hy : s.lo y
      · have C3 := Lib.hid (ulock g a b s W B.l x y)
        rw [show (s.lo y && s.th x) = false by simp [hy]] at C3 HE
        rw [hx] at C1
        rw [hy] at C2
        clear hx hy B
        go_wp2_with (first | (go_at_call 81; (with_reducible refine (C1.out).mono ?_); rintro e w1 ⟨rfl, rfl⟩) | (go_at_call 82; (with_reducible refine (C2.out).mono ?_); rintro e w1 ⟨rfl, rfl⟩) | (go_at_call 43; refine (C3.out).mono ?_; rintro e w2 ⟨rfl, t2⟩))
        go_ret
        refine ⟨rfl, ?_, (HG.out.ch _).tr (HB.out.step1 t2 rfl).2 (fun x hx => .inl hx)⟩
        rw [HE.out]
        exact (HB.out.step1 t2 rfl).1
      · have C3 := Lib.hid (fun w' (c : WebAt w' g a b s) => ulock g a b s w' c x y)
        rw [show (s.lo y && s.th x) = true by simp [hx, hy]] at C3 HE
        rw [hx] at C1
        rw [hy] at C2
        simp only [WebS.th, decide_eq_true_eq] at hx
        obtain ⟨i, rfl⟩ := Int.eq_ofNat_of_zero_le hx.1
        have hi : i < s.n := by omega
        simp only [WebS.lo, decide_eq_true_eq] at hy
        have C4 := Lib.hid (rwait h vo vl vj s W B.r i y (-1) hi (by omega) (by omega))
        rw [show s.waitS true (i : Int) y (-1) = s.setW i y (-1) from rfl] at C3 HE
        clear hx hy B
        go_wp2_with (first | (go_at_call 81; (with_reducible refine (C1.out).mono ?_); rintro e w1 ⟨rfl, rfl⟩) | (go_at_call 82; (with_reducible refine (C2.out).mono ?_); rintro e w1 ⟨rfl, rfl⟩) | (go_at_call 23; (with_reducible refine (C4.out).mono ?_); rintro e w2 ⟨rfl, t2⟩; have b1 := (HX.out.1.ch t2.2 HX.out.2.2).c3.2.1; have b2 := (HX.out.1.ch t2.2 HX.out.2.2).c3.2.2.1) | (go_at_call 43; (with_reducible refine (C3.out _ (HB.out.refTo t2)).mono ?_); rintro e w3 ⟨rfl, t3⟩))
        go_ret
        refine ⟨rfl, ?_, (HG.out.ch _).tr (HB.out.step2 t2 t3).2 (fun x hx => .inl hx)⟩
        rw [HE.out]
        exact (HB.out.step2 t2 t3).1
  · have HE := Lib.hid (show actS s (k % 4) x y = s.waitS (s.th y && s.th x) x (-1) y by rw [hk4]; rfl)
    have C1 := Lib.hid (rth h vo vl vj s W B.r x)
    have HB := Lib.hid B
    cases hx : s.th x
    · have C3 := Lib.hid (ujoin g a b s W B.l x y)
      rw [show (s.th y && s.th x) = false by simp [hx]] at C3 HE
      rw [hx] at C1
      clear hx B
      go_wp2_with (first | (go_at_call 81; refine (C1.out).mono ?_; rintro e w1 ⟨rfl, rfl⟩) | (go_at_call 44; refine (C3.out).mono ?_; rintro e w2 ⟨rfl, t2⟩))
      go_ret
      refine ⟨rfl, ?_, (HG.out.ch _).tr (HB.out.step1 t2 rfl).2 (fun x hx => .inl hx)⟩
      rw [HE.out]
      exact (HB.out.step1 t2 rfl).1
    · have C2 := Lib.hid (rth h vo vl vj s W B.r y)
      cases hy : s.th y
      · have C3 := Lib.hid (ujoin g a b s W B.l x y)
        rw [show (s.th y && s.th x) = false by simp [hy]] at C3 HE
        rw [hx] at C1
        rw [hy] at C2
        clear hx hy B
        go_wp2_with (first | (go_at_call 81; (with_reducible refine (C1.out).mono ?_); rintro e w1 ⟨rfl, rfl⟩) | (go_at_call 81; (with_reducible refine (C2.out).mono ?_); rintro e w1 ⟨rfl, rfl⟩) | (go_at_call 44; refine (C3.out).mono ?_; rintro e w2 ⟨rfl, t2⟩))
        go_ret
        refine ⟨rfl, ?_, (HG.out.ch _).tr (HB.out.step1 t2 rfl).2 (fun x hx => .inl hx)⟩
        rw [HE.out]
        exact (HB.out.step1 t2 rfl).1
      · have C3 := Lib.hid (fun w' (c : WebAt w' g a b s) => ujoin g a b s w' c x y)
        rw [show (s.th y && s.th x) = true by simp [hx, hy]] at C3 HE
        rw [hx] at C1
        rw [hy] at C2
        simp only [WebS.th, decide_eq_true_eq] at hx
        obtain ⟨i, rfl⟩ := Int.eq_ofNat_of_zero_le hx.1
        have hi : i < s.n := by omega
        simp only [WebS.th, decide_eq_true_eq] at hy
        have C4 := Lib.hid (rwait h vo vl vj s W B.r i (-1) y hi (by omega) (by omega))
        rw [show s.waitS true (i : Int) (-1) y = s.setW i (-1) y from rfl] at C3 HE
        clear hx hy B
        go_wp2_with (first | (go_at_call 81; (with_reducible refine (C1.out).mono ?_); rintro e w1 ⟨rfl, rfl⟩) | (go_at_call 81; (with_reducible refine (C2.out).mono ?_); rintro e w1 ⟨rfl, rfl⟩) | (go_at_call 23; (with_reducible refine (C4.out).mono ?_); rintro e w2 ⟨rfl, t2⟩; have b1 := (HX.out.1.ch t2.2 HX.out.2.2).c3.2.1; have b2 := (HX.out.1.ch t2.2 HX.out.2.2).c3.2.2.1) | (go_at_call 44; (with_reducible refine (C3.out _ (HB.out.refTo t2)).mono ?_); rintro e w3 ⟨rfl, t3⟩))
        go_ret
        refine ⟨rfl, ?_, (HG.out.ch _).tr (HB.out.step2 t2 t3).2 (fun x hx => .inl hx)⟩
        rw [HE.out]
        exact (HB.out.step2 t2 t3).1
  · have HE := Lib.hid (show actS s (k % 4) x y = s.waitS (s.th x) x (-1) (-1) by rw [hk4]; rfl)
    have C1 := Lib.hid (rth h vo vl vj s W B.r x)
    have HB := Lib.hid B
    cases hx : s.th x
    · have C3 := Lib.hid (uclear g a b s W B.l x)
      rw [hx] at C3 HE C1
      clear hx B
      go_wp2_with (first | (go_at_call 81; refine (C1.out).mono ?_; rintro e w1 ⟨rfl, rfl⟩) | (go_at_call 22; refine (C3.out).mono ?_; rintro e w2 ⟨rfl, t2⟩))
      go_ret
      refine ⟨rfl, ?_, (HG.out.ch _).tr (HB.out.step1 t2 rfl).2 (fun x hx => .inl hx)⟩
      rw [HE.out]
      exact (HB.out.step1 t2 rfl).1
    · have C3 := Lib.hid (fun w' (c : WebAt w' g a b s) => uclear g a b s w' c x)
      rw [hx] at C3 HE C1
      simp only [WebS.th, decide_eq_true_eq] at hx
      obtain ⟨i, rfl⟩ := Int.eq_ofNat_of_zero_le hx.1
      have hi : i < s.n := by omega
      have C4 := Lib.hid (rwait h vo vl vj s W B.r i (-1) (-1) hi (by omega) (by omega))
      rw [show s.waitS true (i : Int) (-1) (-1) = s.setW i (-1) (-1) from rfl] at C3 HE
      clear hx B
      go_wp2_with (first | (go_at_call 81; (with_reducible refine (C1.out).mono ?_); rintro e w1 ⟨rfl, rfl⟩) | (go_at_call 23; (with_reducible refine (C4.out).mono ?_); rintro e w2 ⟨rfl, t2⟩; have b1 := (HX.out.1.ch t2.2 HX.out.2.2).c3.2.1) | (go_at_call 22; (with_reducible refine (C3.out _ (HB.out.refTo t2)).mono ?_); rintro e w3 ⟨rfl, t3⟩))
      go_ret
      refine ⟨rfl, ?_, (HG.out.ch _).tr (HB.out.step2 t2 t3).2 (fun x hx => .inl hx)⟩
      rw [HE.out]
      exact (HB.out.step2 t2 t3).1
end Go.Proofs.Ytkkobbomipcpoaa
