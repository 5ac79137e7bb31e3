/- The contracts of a wheel's Set and Cancel, for every input. -/
import Derived.Test.YtbeoomjcipbjjaaWl7
namespace Go.Proofs.Ytbeoomjcipbjjaa
open Go.RowKit
set_option linter.unusedVariables false

/-- A wheel in a world: in block g, and in the blocks S. -/
structure WA (w : World) (g : Nat) (S : List Nat) (s : TS) : Prop where
  ex : ∃ L V, WMem w g s L V ∧ S = wfp g V ∧ LI s.now s L
  tg : TG s
def WTo (g : Nat) (S : List Nat) (s' : TS) (w w' : World) : Prop := ∃ S', WA w' g S' s' ∧ Ch S w w' ∧ Foot w S S'
theorem WA.gr {w w' : World} {g : Nat} {S : List Nat} {s : TS} (h : WA w g S s) (k : Gr w w') : WA w' g S s := by
  obtain ⟨L, V, m, rfl, li⟩ := h.ex
  exact ⟨⟨L, V, m.gr k, rfl, li⟩, h.tg⟩
theorem WA.ch {w w' : World} {g : Nat} {S T : List Nat} {s : TS} (h : WA w g S s) (k : Ch T w w') (hT : Disj S T) : WA w' g S s := by
  obtain ⟨L, V, m, rfl, li⟩ := h.ex
  exact ⟨⟨L, V, m.ch k hT, rfl, li⟩, h.tg⟩
theorem WA.inn {w : World} {g : Nat} {S : List Nat} {s : TS} (h : WA w g S s) : In w S := by
  obtain ⟨L, V, m, rfl, li⟩ := h.ex
  exact m.inn
theorem WTo.of_gr {w w' : World} {g : Nat} {S : List Nat} {s : TS} (h : WA w g S s) (k : Gr w w') : WTo g S s w w' := ⟨S, h.gr k, k.ch _, Foot.refl _ _⟩

def setE (s : TS) (p a : Int) : Int := if 0 ≤ p ∧ p < 64 then (if a ≤ s.now then 1 else if hasB s p = true then 6 else 0) else 5
def setS (s : TS) (p a : Int) : TS := if setE s p a = 0 then setT s p.toNat a else s
theorem wset_nil (p a : Int) (w : World) : Calls Try.prog 12 #[.pointer none, .int .i64 p, .int .u64 a] w fun e w' => e = .returned (.int .i64 14) ∧ w = w' := by
  go_enter Try.func12, Try.ntmps12
  go_wp2
  go_ret
  exact ⟨rfl, rfl⟩
set_option maxHeartbeats 1000000 in
theorem wset (g : Nat) (S : List Nat) (s : TS) (p a : Int) (w : World) (h : WA w g S s) (ha : 0 ≤ a ∧ a ≤ 18446744073709551615) (hl : s.last < 18446744073709551615) :
    Calls Try.prog 12 #[.pointer (some ⟨g, 0, none⟩), .int .i64 p, .int .u64 a] w fun e w' => e = .returned (.int .i64 (setE s p a)) ∧ WTo g S (setS s p a) w w' := by
  have tg := h.tg
  obtain ⟨L, V, m, rfl, li⟩ := h.ex
  by_cases hp : 0 ≤ p ∧ p < 64
  · obtain ⟨i, rfl⟩ := Int.eq_ofNat_of_zero_le hp.1
    have hi : i < 64 := by omega
    have i1 : (i : Int) < 64 := by omega
    have HW := Lib.hid (fun w m => whas g s L V i w m (fun q => (tg.no0 q).1))
    obtain ⟨c0, c1, cf⟩ := m.head
    have M := Lib.hid m
    have HA := Lib.hid h
    by_cases h1 : a ≤ s.now
    · have HE := Lib.hid (show setE s i a = 1 by unfold setE; rw [if_pos hp, if_pos h1])
      have HS := Lib.hid (show setS s i a = s by unfold setS; rw [HE.out, if_neg (by omega)])
      have d1 : decide (a ≤ s.now) = true := by simpa using h1
      generalize s.now = n at c0 d1
      clear h1 m h tg hp
      go_enter Try.func12, Try.ntmps12
      go_wp2_with fail
      go_ret
      rw [HS.out]
      exact ⟨ret_int (by rw [HE.out]), WTo.of_gr HA.out (Gr.refl _)⟩
    · have d1 : decide (a ≤ s.now) = false := by simpa using h1
      by_cases h2 : hasB s i = true
      · have HE := Lib.hid (show setE s i a = 6 by unfold setE; rw [if_pos hp, if_neg h1, if_pos h2])
        have HS := Lib.hid (show setS s i a = s by unfold setS; rw [HE.out, if_neg (by omega)])
        rw [h2] at HW
        generalize s.now = n at c0 d1
        clear h1 m h tg hp h2
        go_enter Try.func12, Try.ntmps12
        go_wp2_with (go_at_call 35; refine (HW.out _ M.out).mono ?_; rintro e w' ⟨rfl, rfl⟩)
        go_ret
        rw [HS.out]
        exact ⟨ret_int (by rw [HE.out]), WTo.of_gr HA.out (Gr.refl _)⟩
      · have HE := Lib.hid (show setE s i a = 0 by unfold setE; rw [if_pos hp, if_neg h1, if_neg h2])
        have HS := Lib.hid (show setS s i a = setT s i a by unfold setS; rw [if_pos HE.out]; rfl)
        have h2 : hasB s i = false := by simpa using h2
        have hno : s.no i = 0 := by rw [hasB_at s i hi] at h2; simpa using h2
        have htg := tg.set hi hno (show s.now < a ∧ a ≤ _ from ⟨by omega, ha.2⟩) hl
        have hli := li.set (a := a) hi hno tg.last0
        have hlen := li.len (hJ s.now a)
        rw [h2] at HW
        have hl0 := tg.last0
        have m2 := (m.stLast (s.last + 1)).stTm hi a (s.last + 1)
        have k2 : Ch [g] w (((w.setCell ⟨g, 1, none⟩ (.int .u64 (s.last + 1))).setCell ⟨g, 2 + i * 2, none⟩ (.int .u64 a)).setCell ⟨g, 2 + i * 2 + 1, none⟩ (.int .u64 (s.last + 1))) := (((Ch.refl _ _).st (by simp) _).st (by simp) _).st (by simp) _
        have m3 : WMem ((((w.setCell ⟨g, 1, none⟩ (.int .u64 (s.last + 1))).setCell ⟨g, 2 + i * 2, none⟩ (.int .u64 a)).setCell ⟨g, 2 + i * 2 + 1, none⟩ (.int .u64 (s.last + 1))).drew) g (setT s i a) L V := m2.gr ((Gr.refl _).drew)
        have k3 := k2.drew
        have CL := Lib.hid (wlay g (setT s i a) L V i _ m3 hi ⟨tg.now0, tg.nowM⟩ (by rw [show (setT s i a).du i = a from updT_same _ _ _]; exact ha) (by rw [show (setT s i a).du i = a from updT_same _ _ _]; show (L (hJ s.now a)).length ≤ 1000; omega))
        rw [show (setT s i a).du i = a from updT_same _ _ _] at CL
        have HK := Lib.hid k3
        have HG := Lib.hid (And.intro htg hli)
        obtain ⟨c2, c3⟩ := m.tm hi
        generalize s.du i = z1 at c2
        generalize s.no i = z2 at c3
        clear h1 m h tg hp h2 li hlen hno htg hli m2 k2 m3 k3
        generalize s.now = n at c0 d1
        go_enter Try.func12, Try.ntmps12
        go_upto_region 10 with (go_at_call 35; refine (HW.out _ M.out).mono ?_; rintro e w' ⟨rfl, rfl⟩)
        go_region_law (fail)
        all_goals
          go_wp2_with (go_at_call 36; refine (CL.out).mono ?_; rintro e w2 ⟨rfl, V2, m2, k2, f2⟩)
          go_ret
          rw [HS.out]
          refine ⟨ret_int (by rw [HE.out]), wfp g V2, ⟨⟨_, V2, m2, rfl, HG.out.2⟩, HG.out.1⟩, (HK.out.wide (fun x hx => by simp at hx; subst hx; exact mem_wfp.2 (.inl rfl))).tr k2 (fun x hx => .inl hx), ?_⟩
          intro b hb
          rcases f2 b hb with h1 | h1
          · exact .inl h1
          · exact .inr (Nat.le_trans HK.out.size h1)
  · have HE := Lib.hid (show setE s p a = 5 by unfold setE; rw [if_neg hp])
    have HS := Lib.hid (show setS s p a = s by unfold setS; rw [HE.out, if_neg (by omega)])
    have hc : p < 0 ∨ (0 ≤ p ∧ 64 ≤ p) := by omega
    have HA := Lib.hid h
    clear m hp h tg li
    rcases hc with hc | ⟨hc, hc2⟩
    · have d1 : decide (p < 0) = true := by simp; omega
      go_enter Try.func12, Try.ntmps12
      go_wp2_with fail
      go_ret
      rw [HS.out]
      exact ⟨ret_int (by rw [HE.out]), WTo.of_gr HA.out (Gr.refl _)⟩
    · have d1 : decide (p < 0) = false := by simp; omega
      have d2 : decide (64 ≤ p) = true := by simpa using hc2
      go_enter Try.func12, Try.ntmps12
      go_wp2_with fail
      go_ret
      rw [HS.out]
      exact ⟨ret_int (by rw [HE.out]), WTo.of_gr HA.out (Gr.refl _)⟩
end Go.Proofs.Ytbeoomjcipbjjaa
