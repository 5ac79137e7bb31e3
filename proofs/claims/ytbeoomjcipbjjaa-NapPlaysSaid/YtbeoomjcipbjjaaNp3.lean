/- The contracts of sums.Add, and of the naps' Len, Begin and Cancel (chapter 27), for every input. -/
import Derived.Test.YtbeoomjcipbjjaaNp2
namespace Go.Proofs.Ytbeoomjcipbjjaa
open Go.RowKit
set_option linter.unusedVariables false

theorem add_any (a b : Int) (w : World) (ha : 0 ≤ a ∧ a ≤ 18446744073709551615) (hb : 0 ≤ b ∧ b ≤ 18446744073709551615) :
    Calls Try.prog 48 #[.int .u64 a, .int .u64 b] w fun e w' => e = .returned (.int .u64 (addT a b)) ∧ w = w' := by
  obtain ⟨ha0, ha1⟩ := ha
  obtain ⟨hb0, hb1⟩ := hb
  by_cases h : a + b ≤ 18446744073709551615
  · have hc := call_add64_lo a b ha0 hb0 h
    go_enter Try.func48, Try.ntmps48
    go_wp2
    go_ret
    exact ⟨ret_int (by unfold addT; split <;> omega), rfl⟩
  · have hc := call_add64_hi a b ha0 hb0 ha1 hb1 (by omega)
    generalize a + b - 18446744073709551616 = c at *
    go_enter Try.func48, Try.ntmps48
    go_wp2
    go_ret
    exact ⟨ret_int (by unfold addT; split <;> omega), rfl⟩
theorem radd_any (a b : Int) (w : World) (ha : 0 ≤ a ∧ a ≤ 18446744073709551615) (hb : 0 ≤ b ∧ b ≤ 18446744073709551615) :
    Calls Try.prog 65 #[.int .u64 a, .int .u64 b] w fun e w' => e = .returned (.int .u64 (addT a b)) ∧ w = w' := by
  obtain ⟨ha0, ha1⟩ := ha
  obtain ⟨hb0, hb1⟩ := hb
  go_enter Try.func65, Try.ntmps65
  go_wp2
  all_goals go_ret
  all_goals (refine ⟨ret_int ?_, rfl⟩; unfold addT; split <;> omega)
/-- What Begin answers. -/
def begOk (K : Nat → Int) (p k t : Int) : Bool := decide (0 ≤ p ∧ p < 64) && decide (k = 1 ∨ k = 2) && decide (kdS K p = 0) && decide (t ≠ 0)
def begE (K : Nat → Int) (p k : Int) : Int := if 0 ≤ p ∧ p < 64 then (if k = 1 ∨ k = 2 then (if kdS K p = 0 then 0 else 6) else 1) else 5
def begV (K : Nat → Int) (p k t : Int) : Value := .tuple #[.bool (begOk K p k t), .int .i64 (begE K p k)]
def begS (s : TS) (K : Nat → Int) (p k t : Int) : TS := if begOk K p k t = true then begT s p.toNat (addT s.now t) else s
def begK (K : Nat → Int) (p k t : Int) : Nat → Int := if begOk K p k t = true then updT K p.toNat k else K
/-- Naps at a new state, their blocks changed and new ones. -/
def NTo (q g C : Nat) (S : List Nat) (s' : TS) (K' : Nat → Int) (w w' : World) : Prop := ∃ S', NM w' q g C S' s' K' ∧ Ch (q :: S) w w' ∧ Foot w S S'
theorem NTo.of_gr {w w' : World} {q g C : Nat} {S : List Nat} {s : TS} {K : Nat → Int} (m : NM w q g C S s K) (k : Gr w w') : NTo q g C S s K w w' := ⟨S, m.gr k, k.ch _, Foot.refl _ _⟩
theorem setS_beg {s : TS} {K : Nat → Int} (h : NK s K) {i : Nat} (hi : i < 64) (h0 : K i = 0) (a : Int) : setS s i a = begT s i a := by
  have hb : hasB s i = false := by rw [hasB_at _ _ hi, h.no0 h0]; rfl
  unfold setS setE begT
  rw [if_pos (show 0 ≤ (i : Int) ∧ (i : Int) < 64 by omega)]
  by_cases h1 : a ≤ s.now
  · simp only [if_pos h1]; rw [if_neg (by omega)]
  · simp [h1, hb]
set_option maxHeartbeats 1000000 in
theorem nbegin (q g C : Nat) (S : List Nat) (s : TS) (K : Nat → Int) (p k t : Int) (w : World) (m : NM w q g C S s K) (ht : 0 ≤ t ∧ t ≤ 18446744073709551615) (hl : s.last < 18446744073709551615) :
    Calls Try.prog 21 #[.pointer (some ⟨q, 0, none⟩), .int .i64 p, .int .i64 k, .int .u64 t] w fun e w' => e = .returned (begV K p k t) ∧ NTo q g C S (begS s K p k t) (begK K p k t) w w' := by
  have HM := Lib.hid m
  by_cases hp : 0 ≤ p ∧ p < 64
  · obtain ⟨i, rfl⟩ := Int.eq_ofNat_of_zero_le hp.1
    have hi : i < 64 := by omega
    have i1 : (i : Int) < 64 := by omega
    have i2 : decide (64 ≤ (i : Int)) = false := by simp; omega
    by_cases hk : k = 1 ∨ k = 2
    · have c1 := m.kd hi
      obtain ⟨c0, _, cf⟩ := m.head
      have hq := m.hdr.lt
      by_cases h0 : K i = 0
      · rw [h0] at c1
        by_cases h1 : t = 0
        · have hok : begOk K i k t = false := by unfold begOk; simp [h1]
          have HV := Lib.hid (show begV K i k t = .tuple #[.bool false, .int .i64 0] by unfold begV begE; rw [hok, if_pos hp, if_pos hk, kdS_at K hi, if_pos h0])
          have HS := Lib.hid (show begS s K i k t = s ∧ begK K i k t = K by unfold begS begK; rw [hok]; exact ⟨rfl, rfl⟩)
          subst h1
          clear m hp hok h0 ht
          rcases hk with rfl | rfl
          all_goals
            go_enter Try.func21, Try.ntmps21
            go_wp2_with fail
            go_ret2
            rw [HS.out.1, HS.out.2]
            exact ⟨by rw [HV.out]; rfl, NTo.of_gr HM.out (Gr.refl _)⟩
        · have hok : begOk K i k t = true := by
            unfold begOk
            rw [show decide (0 ≤ (i : Int) ∧ (i : Int) < 64) = true by simpa using hp, show decide (k = 1 ∨ k = 2) = true by simpa using hk, kdS_at K hi, h0, show decide (t ≠ 0) = true by simpa using h1]
            rfl
          have HV := Lib.hid (show begV K i k t = .tuple #[.bool true, .int .i64 0] by unfold begV begE; rw [hok, if_pos hp, if_pos hk, kdS_at K hi, if_pos h0])
          have HS := Lib.hid (show begS s K i k t = begT s i (addT s.now t) ∧ begK K i k t = updT K i k by unfold begS begK; rw [hok]; exact ⟨rfl, rfl⟩)
          have e0 : (t == 0) = false := by simpa using h1
          have hab := addT_b (t := t) ⟨m.nk.tg.now0, m.nk.tg.nowM⟩ ht.1
          have CL := Lib.hid (nclock q g C S s K w.drew (m.gr (Gr.refl w).drew))
          have CA := Lib.hid (add_any s.now t w.drew ⟨m.nk.tg.now0, m.nk.tg.nowM⟩ ht)
          have HK := Lib.hid (m.nk.begin hi hk h0 (a := addT s.now t) hab hl)
          have HE := Lib.hid (setS_beg m.nk hi h0 (addT s.now t))
          have CS := Lib.hid (wset g S s i (addT s.now t) w.drew (m.wa.gr (Gr.refl w).drew) ⟨by have := m.nk.tg.now0; omega, hab.2⟩ hl)
          rw [HE.out] at CS
          have hq2 := m.nq
          have hC2 := m.nC
          have hqC := m.qC
          have HQ := Lib.hid (And.intro hq2 (And.intro hC2 hqC))
          have HF : Hid (∀ (x : Int) S' w2, WA w2 g S' (begT s i (addT s.now t)) → Ch S w.drew w2 → Foot w.drew S S' → NTo q g C S (begT s i (addT s.now t)) (updT K i x) w (w2.setCell ⟨q, 1 + i, none⟩ (.int .i64 x)) ∨ x ≠ k) := Lib.hid (fun x S' w2 wa2 k2 f2 => by
            by_cases hx : x = k
            · subst hx
              left
              have m2 : Arr w2 q 100 66 (npF g C K) := (m.hdr.drew).ch k2 hq2
              have hq3 : q ∉ S' := wa2.ne m2 (by decide) (by decide)
              refine ⟨S', ⟨npSet m2 hi x, ?_, ?_, HK.out⟩, ?_, f2⟩
              · exact ((m.box.drew).ch k2 hC2).far (fun e => hqC e.symm) _
              · exact wa2.ch ((Ch.refl [q] w2).st (by simp) _) (fun y hy hm => by simp at hm; subst hm; exact hq3 hy)
              · have k3 : Ch (q :: S) w w2 := (((Gr.refl w).drew).ch _).tr (k2.wide (fun y hy => List.mem_cons_of_mem q hy)) (fun y hy => .inl hy)
                exact k3.st (by simp) _
            · exact .inr hx)
          have HZ := Lib.hid (fun w2 (k2 : Ch S w.drew w2) => ((show Arr w.drew q 100 66 (npF g C K) from m.hdr).ch k2 hq2).frozen)
          have c0' : w.drew.cell? ⟨q, 0, none⟩ = some (.pointer (some ⟨g, 0, none⟩)) := c0
          generalize addT s.now t = a at *
          generalize s.now = b at *
          clear m h1 h0 hp hok hab hl hC2 hqC ht
          rcases hk with rfl | rfl
          all_goals
            go_enter Try.func21, Try.ntmps21
            go_wp2_with fail
            go_region_held3 (fun w' => w'.cell? ⟨q, 0, none⟩ = some (.pointer (some ⟨g, 0, none⟩)))
              (first | exact c0 | exact c0' | exact k2.cell c0' hq2)
              (first
              | (go_at_call 31; refine (CL.out).mono ?_; rintro e w1 ⟨rfl, rfl⟩)
              | (go_at_call 48; refine (CA.out).mono ?_; rintro e w1 ⟨rfl, rfl⟩)
              | (go_at_call 12; refine (CS.out).mono ?_; rintro e w2 ⟨rfl, S2, wa2, k2, f2⟩))
            all_goals
              have fz := HZ.out _ k2
              have c1' := k2.cell (show w.drew.cell? ⟨q, 1 + i, none⟩ = _ from c1) hq2
              go_wp2_with fail
              go_ret2
              rw [HS.out.1, HS.out.2]
              exact ⟨by rw [HV.out]; rfl, (HF.out _ S2 w2 wa2 k2 f2).resolve_right (by simp)⟩
      · have hok : begOk K i k t = false := by unfold begOk; rw [kdS_at K hi]; simp [h0]
        have HV := Lib.hid (show begV K i k t = .tuple #[.bool false, .int .i64 6] by unfold begV begE; rw [hok, if_pos hp, if_pos hk, kdS_at K hi, if_neg h0])
        have HS := Lib.hid (show begS s K i k t = s ∧ begK K i k t = K by unfold begS begK; rw [hok]; exact ⟨rfl, rfl⟩)
        have e0 : (K i != 0) = true := by simpa using h0
        generalize K i = z at c1 e0
        clear m hp hok h0 ht
        rcases hk with rfl | rfl
        all_goals
          go_enter Try.func21, Try.ntmps21
          go_wp2_with fail
          go_ret2
          rw [HS.out.1, HS.out.2]
          exact ⟨by rw [HV.out]; rfl, NTo.of_gr HM.out (Gr.refl _)⟩
    · have hok : begOk K i k t = false := by unfold begOk; rw [show decide (k = 1 ∨ k = 2) = false by simpa using hk]; simp
      have HV := Lib.hid (show begV K i k t = .tuple #[.bool false, .int .i64 1] by unfold begV begE; rw [hok, if_pos hp, if_neg hk])
      have HS := Lib.hid (show begS s K i k t = s ∧ begK K i k t = K by unfold begS begK; rw [hok]; exact ⟨rfl, rfl⟩)
      have e1 : (k != 1) = true := by simp; omega
      have e2 : (k != 2) = true := by simp; omega
      clear m hp hok hk ht
      go_enter Try.func21, Try.ntmps21
      go_wp2_with fail
      go_ret2
      rw [HS.out.1, HS.out.2]
      exact ⟨by rw [HV.out]; rfl, NTo.of_gr HM.out (Gr.refl _)⟩
  · have hok : begOk K p k t = false := by unfold begOk; rw [show decide (0 ≤ p ∧ p < 64) = false by simpa using hp]; simp
    have HV := Lib.hid (show begV K p k t = .tuple #[.bool false, .int .i64 5] by unfold begV begE; rw [hok, if_neg hp])
    have HS := Lib.hid (show begS s K p k t = s ∧ begK K p k t = K by unfold begS begK; rw [hok]; exact ⟨rfl, rfl⟩)
    have hc : p < 0 ∨ (0 ≤ p ∧ 64 ≤ p) := by omega
    clear m hp hok ht
    rcases hc with hc | ⟨hc, hc2⟩
    · have d1 : decide (p < 0) = true := by simpa using hc
      go_enter Try.func21, Try.ntmps21
      go_wp2_with fail
      go_ret2
      rw [HS.out.1, HS.out.2]
      exact ⟨by rw [HV.out]; rfl, NTo.of_gr HM.out (Gr.refl _)⟩
    · have d1 : decide (p < 0) = false := by simpa using hc
      have d2 : decide (64 ≤ p) = true := by simpa using hc2
      go_enter Try.func21, Try.ntmps21
      go_wp2_with fail
      go_ret2
      rw [HS.out.1, HS.out.2]
      exact ⟨by rw [HV.out]; rfl, NTo.of_gr HM.out (Gr.refl _)⟩
end Go.Proofs.Ytbeoomjcipbjjaa
