/- Chapter 25 (gift): the graphs that a law looks at. -/
import Derived.Test.YtkkobbomipcpoaaGiD
namespace Go.Proofs.Ytkkobbomipcpoaa
open Go.RowKit
set_option linter.unusedVariables false
set_option maxHeartbeats 2000000
/-- A slice of numbers that can be read; nil has no room. -/
def Rn (w : World) (v : Value) (zs : List Int) : Prop := ∃ a cp, v = .slice a zs.length cp ∧ zs.length ≤ cp ∧ cp ≤ 9223372036854775807 ∧ RowAt .i64 w a zs ∧ (a = none → cp = 0)
section
variable {w w' : World} {v : Value} {zs : List Int}
theorem Rn.rd (h : Rn w v zs) : Rd w v zs := by obtain ⟨a, cp, h1, h2, h3, h4, _⟩ := h; exact ⟨a, cp, h1, h2, h3, h4⟩
theorem Rn.gr (h : Rn w v zs) (g : Gr w w') : Rn w' v zs := by obtain ⟨a, cp, h1, h2, h3, h4, h5⟩ := h; exact ⟨a, cp, h1, h2, h3, h4.gr g, h5⟩
theorem Sl.rn (h : Sl 3 .i64 w v zs) : Rn w v zs := by
  obtain ⟨a, cp, rfl, h1, h2, h3⟩ := h
  rcases h3 with ⟨rfl, h3⟩ | ⟨b, off, cur, rfl, h5, h6, h7⟩
  · exact ⟨none, cp, rfl, h1, h2, .inl (List.eq_nil_of_length_eq_zero (by omega)), fun _ => h3⟩
  · refine ⟨_, cp, rfl, h1, h2, .inr ⟨b, off, rfl, fun i hi => ?_⟩, by simp⟩
    rw [h5.cell]
    exact h7 i _ (by simp [hi])
theorem RowAt.take {a : Option Addr} (h : RowAt .i64 w a zs) (m : Nat) : RowAt .i64 w a (zs.take m) := by
  rcases h with rfl | ⟨b, off, rfl, hc⟩
  · exact .inl (by simp)
  · by_cases h0 : (zs.take m) = []
    · exact .inl h0
    · refine .inr ⟨b, off, rfl, fun i hi => ?_⟩
      rw [List.length_take] at hi
      have := hc i (by omega)
      rw [this]
      have : (zs.take m).getD i 0 = zs.getD i 0 := by simp [List.getD_eq_getElem?_getD, show i < m by omega]
      rw [this]
end
theorem Rd.chN {w w' : World} {v : Value} {zs : List Int} {S : List Nat} (h : Rd w v zs) (hM : ∀ M ∈ S, ∃ t cs, Blk w M t cs ∧ ∀ (i : Nat) (x : Int), cs[i]? = some (Value.int .i64 x) → False) (c : Ch S w w') : Rd w' v zs := by
  obtain ⟨a, cp, h1, h2, h3, h4⟩ := h
  refine ⟨a, cp, h1, h2, h3, ?_⟩
  rcases h4 with h4 | ⟨b, off, rfl, hc⟩
  · exact .inl h4
  · refine .inr ⟨b, off, rfl, fun i hi => c.cell (hc i hi) fun hm => ?_⟩
    obtain ⟨t, cs, hb, hn⟩ := hM b hm
    have := hc i hi
    rw [hb.cell] at this
    exact hn _ _ this
theorem no_int3 {a b c : Value} (ha : ∀ x, a ≠ .int .i64 x) (hb : ∀ x, b ≠ .int .i64 x) (hc : ∀ x, c ≠ .int .i64 x) (i : Nat) (x : Int) (h : (#[a, b, c] : Array Value)[i]? = some (Value.int .i64 x)) : False := by
  rcases i with _ | _ | _ | i
  · simp at h; exact ha x h
  · simp at h; exact hb x h
  · simp at h; exact hc x h
  · simp at h
theorem Rn.take {w : World} {a : Option Addr} {cp : Nat} {zs : List Int} (h : Rn w (.slice a zs.length cp) zs) (m : Nat) : Rn w (.slice a (zs.take m).length cp) (zs.take m) := by
  obtain ⟨a', cp', he, k2, k3, k4, k5⟩ := h
  cases he
  exact ⟨a, cp, rfl, by rw [List.length_take]; omega, k3, k4.take m, k5⟩
set_option maxRecDepth 100000 in
theorem gfew (L W O : List Int) (vl vw vo : Value) (w : World) (h1 : Rn w vl L) (h2 : Rn w vw W) (h3 : Rn w vo O) : Calls Try.prog 13 #[.agg #[vl, vw, vo]] w fun e w' => ∃ vl' vw' vo' rv, e = .returned (.tuple #[.agg #[vl', vw', vo'], rv]) ∧ Rn w' vl' (L.take 70) ∧ Rn w' vw' (W.take 70) ∧ Rn w' vo' (O.take 70) ∧ RV w' rv (clean (L.take 70) (W.take 70) (O.take 70)) ∧ Gr w w' := by
  have HR := Lib.hid (And.intro h1 (And.intro h2 h3))
  obtain ⟨al, cl, rfl, hl1, hl2, hl, hln⟩ := h1
  obtain ⟨aw, cw, rfl, hw1, hw2, hw, hwn⟩ := h2
  obtain ⟨ao, co, rfl, ho1, ho2, ho, hon⟩ := h3
  clear hl hw ho
  go_enter Try.func13, Try.ntmps13
  go_upto_region 1 with fail
  have hB0 := ((Blk.new w 24 #[.slice al L.length cl, .slice aw W.length cw, .slice ao O.length co]).al (.cells #[.slice none 0 0, .slice none 0 0, .slice none 0 0] 25)).al (.cells #[.slice none 0 0, .slice none 0 0, .slice none 0 0] 26)
  have hB1 := (Blk.new (w.alloc (.cells #[.slice al L.length cl, .slice aw W.length cw, .slice ao O.length co] 24)) 25 #[.slice none 0 0, .slice none 0 0, .slice none 0 0]).al (.cells #[.slice none 0 0, .slice none 0 0, .slice none 0 0] 26)
  have hB2 := Blk.new ((w.alloc (.cells #[.slice al L.length cl, .slice aw W.length cw, .slice ao O.length co] 24)).alloc (.cells #[.slice none 0 0, .slice none 0 0, .slice none 0 0] 25)) 26 #[.slice none 0 0, .slice none 0 0, .slice none 0 0]
  have g0 := (((Gr.refl w).al (.cells #[.slice al L.length cl, .slice aw W.length cw, .slice ao O.length co] 24)).al (.cells #[.slice none 0 0, .slice none 0 0, .slice none 0 0] 25)).al (.cells #[.slice none 0 0, .slice none 0 0, .slice none 0 0] 26)
  rw [World.size_alloc] at hB1 hB2
  rw [World.size_alloc] at hB2
  generalize ((w.alloc (.cells #[.slice al L.length cl, .slice aw W.length cw, .slice ao O.length co] 24)).alloc (.cells #[.slice none 0 0, .slice none 0 0, .slice none 0 0] 25)).alloc (.cells #[.slice none 0 0, .slice none 0 0, .slice none 0 0] 26) = W0 at *
  obtain ⟨X, hX⟩ : ∃ X, w.heap.size = X := ⟨_, rfl⟩
  rw [hX] at hB0 hB1 hB2 ⊢
  obtain ⟨l0, w0, o0, xf⟩ := hB0.c3
  go_cut [4] (fun v wx => v = .slice al (L.take 70).length cl ∧ W0 = wx)
  case first =>
    cases al with
    | none =>
      have hc0 := hln rfl
      clear hln
      have hL0 : L.length = 0 := by omega
      have e := Lib.hid (show (L.take 70).length = 0 by rw [List.length_take]; omega)
      rw [hL0, hc0] at l0
      have HZ := Lib.hid hc0
      clear hc0 hL0
      go_wp2_with fail
      go_meet
      case rel => exact ⟨by rw [e.out, HZ.out], rfl⟩
    | some ad =>
      obtain ⟨bb, oo, sp⟩ := ad
      by_cases h64 : L.length ≤ 70
      · have e := Lib.hid (show (L.take 70).length = L.length by rw [List.length_take]; omega)
        go_wp2_with fail
        go_meet
        case rel => exact ⟨by rw [e.out], rfl⟩
      · have e := Lib.hid (show (L.take 70).length = 70 by rw [List.length_take]; omega)
        have h70 : (70 : Int) ≤ (cl : Int) := by omega
        go_wp2_with fail
        go_meet
        case rel => exact ⟨by rw [e.out], rfl⟩
  case rest =>
  obtain ⟨rfl, rfl⟩ := hcut
  go_upto_region 2 with fail
  go_cut [5] (fun v wx => v = .slice aw (W.take 70).length cw ∧ W0 = wx)
  case first =>
    cases aw with
    | none =>
      have hc0 := hwn rfl
      clear hwn
      have hL0 : W.length = 0 := by omega
      have e := Lib.hid (show (W.take 70).length = 0 by rw [List.length_take]; omega)
      rw [hL0, hc0] at w0
      have HZ := Lib.hid hc0
      clear hc0 hL0
      go_wp2_with fail
      go_meet
      case rel => exact ⟨by rw [e.out, HZ.out], rfl⟩
    | some ad =>
      obtain ⟨bb, oo, sp⟩ := ad
      by_cases h64 : W.length ≤ 70
      · have e := Lib.hid (show (W.take 70).length = W.length by rw [List.length_take]; omega)
        go_wp2_with fail
        go_meet
        case rel => exact ⟨by rw [e.out], rfl⟩
      · have e := Lib.hid (show (W.take 70).length = 70 by rw [List.length_take]; omega)
        have h70 : (70 : Int) ≤ (cw : Int) := by omega
        go_wp2_with fail
        go_meet
        case rel => exact ⟨by rw [e.out], rfl⟩
  case rest =>
  obtain ⟨rfl, rfl⟩ := hcut
  go_upto_region 3 with fail
  go_cut [6] (fun v wx => v = .slice ao (O.take 70).length co ∧ W0 = wx)
  case first =>
    cases ao with
    | none =>
      have hc0 := hon rfl
      clear hon
      have hL0 : O.length = 0 := by omega
      have e := Lib.hid (show (O.take 70).length = 0 by rw [List.length_take]; omega)
      rw [hL0, hc0] at o0
      have HZ := Lib.hid hc0
      clear hc0 hL0
      go_wp2_with fail
      go_meet
      case rel => exact ⟨by rw [e.out, HZ.out], rfl⟩
    | some ad =>
      obtain ⟨bb, oo, sp⟩ := ad
      by_cases h64 : O.length ≤ 70
      · have e := Lib.hid (show (O.take 70).length = O.length by rw [List.length_take]; omega)
        go_wp2_with fail
        go_meet
        case rel => exact ⟨by rw [e.out], rfl⟩
      · have e := Lib.hid (show (O.take 70).length = 70 by rw [List.length_take]; omega)
        have h70 : (70 : Int) ≤ (co : Int) := by omega
        go_wp2_with fail
        go_meet
        case rel => exact ⟨by rw [e.out], rfl⟩
  case rest =>
  obtain ⟨rfl, rfl⟩ := hcut
  go_upto_region 4 with fail
  have HT := Lib.hid (And.intro (List.length_take (i := 70) (l := L)) (And.intro (List.length_take (i := 70) (l := W)) (List.length_take (i := 70) (l := O))))
  have r1 : Rn W0 (.slice al (L.take 70).length cl) (L.take 70) := by
    obtain ⟨a', cp', he, _, _, k4, k5⟩ := HR.out.1.gr g0
    cases he
    exact ⟨al, cl, rfl, by rw [List.length_take]; omega, hl2, k4.take 70, k5⟩
  have r2 : Rn W0 (.slice aw (W.take 70).length cw) (W.take 70) := by
    obtain ⟨a', cp', he, _, _, k4, k5⟩ := HR.out.2.1.gr g0
    cases he
    exact ⟨aw, cw, rfl, by rw [List.length_take]; omega, hw2, k4.take 70, k5⟩
  have r3 : Rn W0 (.slice ao (O.take 70).length co) (O.take 70) := by
    obtain ⟨a', cp', he, _, _, k4, k5⟩ := HR.out.2.2.gr g0
    cases he
    exact ⟨ao, co, rfl, by rw [List.length_take]; omega, ho2, k4.take 70, k5⟩
  have C := Lib.hid (rclean (L.take 70) (W.take 70) (O.take 70) _ _ _ W0 r1.rd r2.rd r3.rd)
  have HRR := Lib.hid (And.intro r1 (And.intro r2 (And.intro r3 (And.intro g0 (And.intro hB1 hB2)))))
  rw [HT.out.1, HT.out.2.1, HT.out.2.2] at C
  clear r1 r2 r3 l0 w0 o0 xf hB0 hln hwn hon g0
  go_wp2_with (go_at_call 66; refine (C.out).mono ?_; rintro e w3 ⟨rv, rfl, hrv, g3⟩; obtain ⟨p1, p2, p3, hrve, q1, q2, q3⟩ := hrv; subst hrve; obtain ⟨e1, e2, rfl, _, _⟩ := q1.hd'; obtain ⟨e3, e4, rfl, _, _⟩ := q2.hd'; obtain ⟨e5, e6, rfl, _, _⟩ := q3.hd'; obtain ⟨m1, m2, m3, mf⟩ := (hB1.gr g3).c3; obtain ⟨n1, n2, n3, nf⟩ := (hB2.gr g3).c3)
  refine bodyPost_ret (v := .tuple #[.agg #[.slice al (min 70 L.length) cl, .slice aw (min 70 W.length) cw, .slice ao (min 70 O.length) co], .agg #[.slice e1 (clean (L.take 70) (W.take 70) (O.take 70)).n e2, .slice e3 (clean (L.take 70) (W.take 70) (O.take 70)).n e4, .slice e5 (clean (L.take 70) (W.take 70) (O.take 70)).m e6]]) (by simp [results, Try.results13, go_sem, m1, m2, m3, n1, n2, n3]) rfl ?_
  obtain ⟨r1, r2, r3, g0, hB1, hB2⟩ := HRR.out
  have gw := g0.tr g3
  have chE : ∀ {u1 u2 u3 u4 u5 u6 : Value}, Ch [X + 1, X + 1 + 1] w3 ((((((w3.setCell ⟨X + 1, 0, none⟩ u1).setCell ⟨X + 1, 1, none⟩ u2).setCell ⟨X + 1, 2, none⟩ u3).setCell ⟨X + 1 + 1, 0, none⟩ u4).setCell ⟨X + 1 + 1, 1, none⟩ u5).setCell ⟨X + 1 + 1, 2, none⟩ u6) :=
    ((((((Ch.refl _ _).st (by simp) _).st (by simp) _).st (by simp) _).st (by simp) _).st (by simp) _).st (by simp) _
  have gE := fun {u1 u2 u3 u4 u5 u6 : Value} => gw.chs (chE (u1 := u1) (u2 := u2) (u3 := u3) (u4 := u4) (u5 := u5) (u6 := u6)) (by simp; omega)
  have nI : ∀ M ∈ [X + 1, X + 1 + 1], ∃ t cs, Blk w3 M t cs ∧ ∀ (i : Nat) (x : Int), cs[i]? = some (Value.int .i64 x) → False := by
    intro M hM
    simp at hM
    rcases hM with rfl | rfl
    · exact ⟨_, _, hB1.gr g3, no_int3 (by simp) (by simp) (by simp)⟩
    · exact ⟨_, _, hB2.gr g3, no_int3 (by simp) (by simp) (by simp)⟩
  refine ⟨_, _, _, _, rfl, ?_, ?_, ?_, ⟨_, _, _, rfl, q1.chN nI chE, q2.chN nI chE, q3.chN nI chE⟩, gE⟩
  · rw [← HT.out.1]; exact (HR.out.1.gr gE).take 70
  · rw [← HT.out.2.1]; exact (HR.out.2.1.gr gE).take 70
  · rw [← HT.out.2.2]; exact (HR.out.2.2.gr gE).take 70
end Go.Proofs.Ytkkobbomipcpoaa
