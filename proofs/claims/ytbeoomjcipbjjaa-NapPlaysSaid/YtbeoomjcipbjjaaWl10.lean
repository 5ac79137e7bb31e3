/- The contract of a wheel's cascade, for every input. -/
import Derived.Test.YtbeoomjcipbjjaaWl9
namespace Go.Proofs.Ytbeoomjcipbjjaa
open Go.RowKit
set_option linter.unusedVariables false

/-- The list of level k whose time has come. -/
def cIdx (n : Int) (k : Nat) : Nat := match k with | 1 => 64 + (n / 64 % 64).toNat | 2 => 128 + (n / 4096 % 64).toNat | 3 => 192 + (n / 262144 % 64).toNat | _ => 256
/-- The lists that a cascade has emptied when it comes to level k. -/
def cl (n : Int) : Nat → List Nat
  | 0 => []
  | 1 => []
  | k + 2 => cl n (k + 1) ++ [cIdx n (k + 1)]
theorem cl_step (n : Int) (k : Nat) (h : 1 ≤ k) : cl n (k + 1) = cl n k ++ [cIdx n k] := by
  match k, h with
  | k + 1, _ => rfl
theorem cIdx_lt (n : Int) (k : Nat) : cIdx n k < 257 := by unfold cIdx; split <;> omega
theorem cl_new (n : Int) (k : Nat) (h : 1 ≤ k ∧ k ≤ 4) : cIdx n k ∉ cl n k := by
  have : k = 1 ∨ k = 2 ∨ k = 3 ∨ k = 4 := by omega
  rcases this with rfl | rfl | rfl | rfl <;> simp [cl, cIdx] <;> omega
theorem casc_cl (n : Int) (k : Nat) (h : 1 ≤ k ∧ k ≤ 5) (h1 : 1 < k → n % 64 = 0) (h2 : 2 < k → n % 4096 = 0) (h3 : 3 < k → n % 262144 = 0) (h4 : 4 < k → n % 16777216 = 0)
    (e1 : k = 1 → n % 64 ≠ 0) (e2 : k = 2 → n % 4096 ≠ 0) (e3 : k = 3 → n % 262144 ≠ 0) (e4 : k = 4 → n % 16777216 ≠ 0) : casc n = cl n k := by
  have : k = 1 ∨ k = 2 ∨ k = 3 ∨ k = 4 ∨ k = 5 := by omega
  unfold casc
  rcases this with rfl | rfl | rfl | rfl | rfl
  · rw [if_pos (e1 rfl)]; rfl
  · rw [if_neg (by have := h1 (by omega); omega), if_pos (e2 rfl)]; rfl
  · rw [if_neg (by have := h1 (by omega); omega), if_neg (by have := h2 (by omega); omega), if_pos (e3 rfl)]; rfl
  · rw [if_neg (by have := h1 (by omega); omega), if_neg (by have := h2 (by omega); omega), if_neg (by have := h3 (by omega); omega), if_pos (e4 rfl)]; rfl
  · rw [if_neg (by have := h1 (by omega); omega), if_neg (by have := h2 (by omega); omega), if_neg (by have := h3 (by omega); omega), if_neg (by have := h4 (by omega); omega)]; rfl
def emK (n : Int) (L : Nat → List Int) (k : Nat) : Nat → List Int := fun j => if j ∈ cl n k then [] else L j
theorem emK_step (n : Int) (L : Nat → List Int) (k : Nat) (h : 1 ≤ k) : emK n L (k + 1) = updT (emK n L k) (cIdx n k) [] := by
  funext j
  unfold emK updT
  dsimp only
  rw [cl_step n k h]
  by_cases e : j = cIdx n k
  · rw [if_pos (by simp [e]), if_pos e]
  · rw [if_neg e]
    by_cases e2 : j ∈ cl n k
    · rw [if_pos (by simp [e2]), if_pos e2]
    · rw [if_neg (by simp [e2, e]), if_neg e2]
def loK (n : Int) (L : Nat → List Int) (k : Nat) : List Int := (cl n k).flatMap L
theorem loK_step (n : Int) (L : Nat → List Int) (k : Nat) (h : 1 ≤ k) : loK n L (k + 1) = loK n L k ++ L (cIdx n k) := by
  unfold loK
  rw [cl_step n k h]
  simp
theorem loK_len {n : Int} {L : Nat → List Int} (hL : ∀ j, (L j).length ≤ 64) : ∀ k, 1 ≤ k → (loK n L k).length ≤ 64 * (k - 1)
  | 1, _ => by simp [loK, cl]
  | k + 2, _ => by
    rw [loK_step n L (k + 1) (by omega), List.length_append]
    have := loK_len (n := n) hL (k + 1) (by omega)
    have := hL (cIdx n (k + 1))
    omega
theorem laid_step (n : Int) (s : TS) (L : Nat → List Int) (R : List Int) (x : Int) : laidL n s L (R ++ [x]) = addL (laidL n s L R) (hJ n (s.du x.toNat)) x := by
  funext j
  unfold laidL addL
  rw [List.filter_append]
  by_cases e : j = hJ n (s.du x.toNat)
  · rw [if_pos e]
    simp [e]
  · rw [if_neg e]
    have : ¬ hJ n (s.du x.toNat) = j := fun h => e h.symm
    simp [this]
theorem laid_nil (n : Int) (s : TS) (L : Nat → List Int) : laidL n s L [] = L := by funext j; simp [laidL]
theorem andMN (u m k : Nat) (h : u < 18446744073709551616) (hm : m + 1 = 2 ^ k) (hm2 : m < 18446744073709551616) : bits .and .u64 (u : Int) (m : Int) = ((u % 2 ^ k : Nat) : Int) := by
  have h2 := bits_and_u64_nat u m h hm2
  have e : u &&& m = u % 2 ^ k := by
    rw [show m = 2 ^ k - 1 by omega]
    exact Nat.and_two_pow_sub_one_eq_mod u k
  rw [e] at h2
  exact h2
theorem and12 (u : Int) (h0 : 0 ≤ u) (h1 : u ≤ 18446744073709551615) : bits .and .u64 u 4095 = u % 4096 := by
  obtain ⟨n, rfl⟩ := Int.eq_ofNat_of_zero_le h0
  exact andMN n 4095 12 (by omega) (by decide) (by decide)
theorem and18 (u : Int) (h0 : 0 ≤ u) (h1 : u ≤ 18446744073709551615) : bits .and .u64 u 262143 = u % 262144 := by
  obtain ⟨n, rfl⟩ := Int.eq_ofNat_of_zero_le h0
  exact andMN n 262143 18 (by omega) (by decide) (by decide)
theorem and24 (u : Int) (h0 : 0 ≤ u) (h1 : u ≤ 18446744073709551615) : bits .and .u64 u 16777215 = u % 16777216 := by
  obtain ⟨n, rfl⟩ := Int.eq_ofNat_of_zero_le h0
  exact andMN n 16777215 24 (by omega) (by decide) (by decide)

/-- What the first loop of a cascade leaves: the loose places, and the lists that are left. -/
def Loose (g : Nat) (s : TS) (V : Nat → Value) (L' : Nat → List Int) (R : List Int) (v : Value) (w w' : World) : Prop :=
  ∃ V', WMem w' g s L' V' ∧ Ch (wfp g V) w w' ∧ Foot w (wfp g V) (wfp g V') ∧ Sl 3 .i64 w' v R ∧ Disj (sb v) (wfp g V') ∧ (∀ b ∈ sb v, w.heap.size ≤ b)
theorem Loose.step {g : Nat} {s : TS} {V V' : Nat → Value} {L' : Nat → List Int} {R : List Int} {v v2 : Value} {w w1 w2 : World} (m : WMem w1 g s L' V') (k : Ch (wfp g V) w w1) (f : Foot w (wfp g V) (wfp g V')) (d : Disj (sb v) (wfp g V')) (b : ∀ b ∈ sb v, w.heap.size ≤ b) {j : Nat} (hj : j < 257)
    (r2 : Sl 3 .i64 w2 v2 (R ++ L' j)) (k2 : Ch (sb v) w1 w2) (f2 : Foot w1 (sb v) (sb v2)) :
    Loose g s V (updT L' j []) (R ++ L' j) v2 w (w2.setCell ⟨g, 130 + j, none⟩ (.slice none 0 0)) := by
  have m2 := m.ch k2 d.symm
  have d2 : Disj (sb v2) (wfp g V') := d.foot m.inn f2
  have hsub : ∀ x ∈ wfp g (updT V' j (.slice none 0 0)), x ∈ wfp g V' := fun x hx => by
    rcases mem_wfp.1 hx with rfl | ⟨i, hi, hx⟩
    · exact mem_wfp.2 (.inl rfl)
    · by_cases e : i = j
      · subst e; rw [updT_same] at hx; simp [sb] at hx
      · rw [updT_ne _ _ e] at hx; exact sb_wfp hi x hx
  refine ⟨_, m2.setL hj (w' := w2) (Ch.refl _ _) (fun x hx => by simp [sb] at hx) (Sl.nil _ _ _), ?_, fun x hx => f x (hsub x hx), ?_, fun x hx hm => d2 x hx (hsub x hm), fun x hx => ?_⟩
  · exact (k.tr k2 (fun x hx => .inr (b x hx))).st (.inl (mem_wfp.2 (.inl rfl))) _
  · exact r2.ch ((Ch.refl [g] w2).st (by simp) _) (fun x hx hm => by simp at hm; subst hm; exact d2 x hx (mem_wfp.2 (.inl rfl)))
  · rcases f2 x hx with h1 | h1
    · exact b x h1
    · have := k.size; omega
theorem Loose.gr {g : Nat} {s : TS} {V : Nat → Value} {L' : Nat → List Int} {R : List Int} {v : Value} {w w1 w2 : World} (h : Loose g s V L' R v w w1) (k : Gr w1 w2) : Loose g s V L' R v w w2 := by
  obtain ⟨V', m, c, f, r, d, b⟩ := h
  exact ⟨V', m.gr k, c.more k, f, r.gr k, d, b⟩
theorem emK_at (n : Int) (L : Nat → List Int) (k : Nat) (h : 1 ≤ k ∧ k ≤ 4) : emK n L k (cIdx n k) = L (cIdx n k) := by
  unfold emK
  rw [if_neg (cl_new n k h)]
theorem em_casc {n : Int} {L : Nat → List Int} {k : Nat} (h : casc n = cl n k) : emptyL n L = emK n L k ∧ looseL n L = loK n L k := by
  constructor
  · funext j; unfold emptyL emK; rw [h]
  · unfold looseL loK; rw [h]
set_option maxHeartbeats 4000000 in
theorem wcasc (g : Nat) (s : TS) (L : Nat → List Int) (V : Nat → Value) (w : World) (m : WMem w g s L V) (t : 0 ≤ s.now ∧ s.now ≤ 18446744073709551615) (hd : ∀ p, 0 ≤ s.du p ∧ s.du p ≤ 18446744073709551615) (hL : ∀ j, (L j).length ≤ 64) (hz : ∀ j, ∀ x ∈ L j, 0 ≤ x ∧ x < 64) :
    Calls Try.prog 37 #[.pointer (some ⟨g, 0, none⟩)] w fun e w' => e = .returned (.tuple #[]) ∧ LayTo g s V (cascL s.now s L) w w' := by
  have M := Lib.hid m
  have HL := Lib.hid (And.intro hL (And.intro hz (And.intro hd t)))
  clear m hL hz hd
  obtain ⟨n, hn⟩ : ∃ n, s.now = n := ⟨_, rfl⟩
  rw [hn] at t ⊢
  have HNow := Lib.hid hn
  clear hn
  obtain ⟨t0, t1⟩ := t
  go_enter Try.func37, Try.ntmps37
  go_wp2_with fail
  go_step3
  go_wp2_with fail
  go_step3
  simp only [Exit.then]
  rename_i hK0
  refine hK0 _ _ ?_
  apply wp_seq_k
  intro K1 hK1
  go_cut [2] (fun v wx => Loose g s V (emptyL n L) (looseL n L) v w wx)
  case first =>
    go_wp2_with fail
    go_loopw [2, 3] (fun v l wr => ∃ k : Nat, 1 ≤ k ∧ k ≤ 5 ∧ l = .int .i64 k ∧ (1 < k → n % 64 = 0) ∧ (2 < k → n % 4096 = 0) ∧ (3 < k → n % 262144 = 0) ∧ (4 < k → n % 16777216 = 0) ∧ Loose g s V (emK n L k) (loK n L k) v w wr) (fun _ l _ => 5 - (intOf l).toNat)
    case atStart => exact ⟨1, by omega, by omega, rfl, by omega, by omega, by omega, by omega, V, by rw [show emK n L 1 = L by funext j; simp [emK, cl]]; exact M.out, Ch.refl _ _, Foot.refl _ _, by rw [show loK n L 1 = [] by simp [loK, cl]]; exact Sl.nil _ _ _, fun b hb => by simp [sb] at hb, fun b hb => by simp [sb] at hb⟩
    case round =>
      obtain ⟨k, hk1, hk5, rfl, h1, h2, h3, h4, hlo⟩ := hrel
      have hkk : k = 1 ∨ k = 2 ∨ k = 3 ∨ k = 4 ∨ k = 5 := by omega
      have HLO := Lib.hid hlo
      have HH := Lib.hid (And.intro h1 (And.intro h2 (And.intro h3 h4)))
      obtain ⟨V1, m1, ch1, f1, sl1, d1, b1⟩ := hlo
      obtain ⟨c0, _, cf⟩ := m1.head
      rw [HNow.out] at c0
      have HM := Lib.hid (And.intro m1 (And.intro ch1 (And.intro f1 (And.intro sl1 (And.intro d1 b1)))))
      obtain ⟨na, ka, rfl, _, _⟩ := sl1.len
      clear h1 h2 h3 h4 m1 ch1 f1 sl1 d1 b1 hk5
      rcases hkk with rfl | rfl | rfl | rfl | rfl
      · have hm := and63 n t0 t1
        by_cases hq : n % 64 = 0
        · rw [hq] at hm
          have HQ := Lib.hid hq
          obtain ⟨x, hx⟩ := Int.eq_ofNat_of_zero_le (show 0 ≤ n / 64 % 64 by omega)
          have hx2 : (x : Int) < 64 := by omega
          have h63 := and63 (n / 64) (by omega) (by omega)
          rw [hx] at h63
          have HJ := Lib.hid (show cIdx n 1 = 64 + x by show 64 + (n / 64 % 64).toNat = _; rw [hx]; rfl)
          have hj : 64 + x < 257 := by omega
          clear hq hx
          go_upto_region 4 with fail
          go_quiet (fail)
          have c0w := ((Gr.refl wr).drewN nq).cell_some c0
          clear c0
          generalize hWe : wr.drewN nq = W1 at *
          have HWE := Lib.hid hWe
          clear hWe
          go_upto_region 7 with fail
          go_quiet (fail)
          generalize hWf : W1.drewN nq = W2 at *
          have HWF : Hid (Gr wr W2) := Lib.hid (by rw [← hWf, ← HWE.out]; exact ((Gr.refl wr).drewN _).drewN _)
          clear hWf c0w
          have hc := (HM.out.1.gr HWF.out).ls hj
          rw [show 130 + (64 + x) = 194 + x by omega] at hc
          obtain ⟨nb, kb, hvb, _, _⟩ := ((HM.out.1.gr HWF.out).sl _ hj).len
          rw [hvb] at hc
          have HU : Hid (Sl 3 .i64 W2 (.slice nb (emK n L 1 (64 + x)).length kb) (emK n L 1 (64 + x))) := Lib.hid (hvb ▸ (HM.out.1.gr HWF.out).sl _ hj)
          have hlen : (loK n L 1).length + (emK n L 1 (64 + x)).length ≤ 1000 := by
            have := loK_len (n := n) HL.out.1 1 (by omega)
            have h2 : (emK n L 1 (64 + x)).length ≤ 64 := by
              unfold emK; split
              · simp
              · exact HL.out.1 _
            omega
          have hfz := (HM.out.1.gr HWF.out).hdr.frozen (130 + (64 + x))
          rw [show 130 + (64 + x) = 194 + x by omega] at hfz
          have hlt := (HM.out.1.gr HWF.out).hdr.lt
          clear hvb
          go_wp2_with (at_builtin; refine wpList_slA el30 .i64 (.tmp 40) (.tmp 43) (.slice na (loK n L 1).length ka) (.slice nb (emK n L 1 (64 + x)).length kb) (loK n L 1) (emK n L 1 (64 + x)) _ rfl rfl rfl rfl (HM.out.2.2.2.1.gr HWF.out) HU.out (by omega) (by omega) ?_; intro v2 w2 r2 k2 f2; have HR := Lib.hid (And.intro r2 (And.intro k2 f2)); have hc2 := ((HM.out.1.gr HWF.out).hdr.ch k2 (fun hm => HM.out.2.2.2.2.1 _ hm (mem_wfp.2 (.inl rfl)))).cell (i := 130 + (64 + x)) (by omega); have hf2 := ((HM.out.1.gr HWF.out).hdr.ch k2 (fun hm => HM.out.2.2.2.2.1 _ hm (mem_wfp.2 (.inl rfl)))).frozen (130 + (64 + x)); rw [show 130 + (64 + x) = 194 + x by omega] at hc2 hf2; clear r2 k2 f2)
          go_roundw
          case rel =>
            have hs := Loose.step (HM.out.1.gr HWF.out) (HM.out.2.1.more HWF.out) HM.out.2.2.1 HM.out.2.2.2.2.1 HM.out.2.2.2.2.2 hj HR.out.1 HR.out.2.1 HR.out.2.2
            rw [show 130 + (64 + x) = 194 + x by omega] at hs
            rw [← HJ.out, emK_at n L 1 (by omega), ← loK_step n L 1 (by omega), ← emK_step n L 1 (by omega)] at hs
            exact ⟨2, by omega, by omega, by go_num, fun _ => HQ.out, by omega, by omega, by omega, hs⟩
          case measure => simp [intOf]
        · have hq' : (n % 64 != 0) = true := by simpa using hq
          have HQ := Lib.hid hq
          clear hq
          go_upto_region 4 with fail
          go_quiet (fail)
          go_wp2_with fail
          go_meet
          case rel =>
            have hc := em_casc (L := L) (casc_cl n 1 (by omega) (fun h => HH.out.1 h) (fun h => HH.out.2.1 h) (fun h => HH.out.2.2.1 h) (fun h => HH.out.2.2.2 h) (fun _ => HQ.out) (by omega) (by omega) (by omega))
            rw [hc.1, hc.2]
            exact HLO.out.gr ((Gr.refl _).drewN _)
      · have hm := and12 n t0 t1
        by_cases hq : n % 4096 = 0
        · rw [hq] at hm
          have HQ := Lib.hid hq
          obtain ⟨x, hx⟩ := Int.eq_ofNat_of_zero_le (show 0 ≤ n / 4096 % 64 by omega)
          have hx2 : (x : Int) < 64 := by omega
          have h63 := and63 (n / 4096) (by omega) (by omega)
          rw [hx] at h63
          have HJ := Lib.hid (show cIdx n 2 = 128 + x by show 128 + (n / 4096 % 64).toNat = _; rw [hx]; rfl)
          have hj : 128 + x < 257 := by omega
          clear hq hx
          go_upto_region 4 with fail
          go_quiet (fail)
          have c0w := ((Gr.refl wr).drewN nq).cell_some c0
          clear c0
          generalize hWe : wr.drewN nq = W1 at *
          have HWE := Lib.hid hWe
          clear hWe
          go_upto_region 7 with fail
          go_quiet (fail)
          generalize hWf : W1.drewN nq = W2 at *
          have HWF : Hid (Gr wr W2) := Lib.hid (by rw [← hWf, ← HWE.out]; exact ((Gr.refl wr).drewN _).drewN _)
          clear hWf c0w
          have hc := (HM.out.1.gr HWF.out).ls hj
          rw [show 130 + (128 + x) = 258 + x by omega] at hc
          obtain ⟨nb, kb, hvb, _, _⟩ := ((HM.out.1.gr HWF.out).sl _ hj).len
          rw [hvb] at hc
          have HU : Hid (Sl 3 .i64 W2 (.slice nb (emK n L 2 (128 + x)).length kb) (emK n L 2 (128 + x))) := Lib.hid (hvb ▸ (HM.out.1.gr HWF.out).sl _ hj)
          have hlen : (loK n L 2).length + (emK n L 2 (128 + x)).length ≤ 1000 := by
            have := loK_len (n := n) HL.out.1 2 (by omega)
            have h2 : (emK n L 2 (128 + x)).length ≤ 64 := by
              unfold emK; split
              · simp
              · exact HL.out.1 _
            omega
          have hfz := (HM.out.1.gr HWF.out).hdr.frozen (130 + (128 + x))
          rw [show 130 + (128 + x) = 258 + x by omega] at hfz
          have hlt := (HM.out.1.gr HWF.out).hdr.lt
          clear hvb
          go_wp2_with (at_builtin; refine wpList_slA el30 .i64 (.tmp 40) (.tmp 43) (.slice na (loK n L 2).length ka) (.slice nb (emK n L 2 (128 + x)).length kb) (loK n L 2) (emK n L 2 (128 + x)) _ rfl rfl rfl rfl (HM.out.2.2.2.1.gr HWF.out) HU.out (by omega) (by omega) ?_; intro v2 w2 r2 k2 f2; have HR := Lib.hid (And.intro r2 (And.intro k2 f2)); have hc2 := ((HM.out.1.gr HWF.out).hdr.ch k2 (fun hm => HM.out.2.2.2.2.1 _ hm (mem_wfp.2 (.inl rfl)))).cell (i := 130 + (128 + x)) (by omega); have hf2 := ((HM.out.1.gr HWF.out).hdr.ch k2 (fun hm => HM.out.2.2.2.2.1 _ hm (mem_wfp.2 (.inl rfl)))).frozen (130 + (128 + x)); rw [show 130 + (128 + x) = 258 + x by omega] at hc2 hf2; clear r2 k2 f2)
          go_roundw
          case rel =>
            have hs := Loose.step (HM.out.1.gr HWF.out) (HM.out.2.1.more HWF.out) HM.out.2.2.1 HM.out.2.2.2.2.1 HM.out.2.2.2.2.2 hj HR.out.1 HR.out.2.1 HR.out.2.2
            rw [show 130 + (128 + x) = 258 + x by omega] at hs
            rw [← HJ.out, emK_at n L 2 (by omega), ← loK_step n L 2 (by omega), ← emK_step n L 2 (by omega)] at hs
            exact ⟨3, by omega, by omega, by go_num, fun _ => HH.out.1 (by omega), fun _ => HQ.out, by omega, by omega, hs⟩
          case measure => simp [intOf]
        · have hq' : (n % 4096 != 0) = true := by simpa using hq
          have HQ := Lib.hid hq
          clear hq
          go_upto_region 4 with fail
          go_quiet (fail)
          go_wp2_with fail
          go_meet
          case rel =>
            have hc := em_casc (L := L) (casc_cl n 2 (by omega) (fun h => HH.out.1 h) (fun h => HH.out.2.1 h) (fun h => HH.out.2.2.1 h) (fun h => HH.out.2.2.2 h) (by omega) (fun _ => HQ.out) (by omega) (by omega))
            rw [hc.1, hc.2]
            exact HLO.out.gr ((Gr.refl _).drewN _)
      · have hm := and18 n t0 t1
        by_cases hq : n % 262144 = 0
        · rw [hq] at hm
          have HQ := Lib.hid hq
          obtain ⟨x, hx⟩ := Int.eq_ofNat_of_zero_le (show 0 ≤ n / 262144 % 64 by omega)
          have hx2 : (x : Int) < 64 := by omega
          have h63 := and63 (n / 262144) (by omega) (by omega)
          rw [hx] at h63
          have HJ := Lib.hid (show cIdx n 3 = 192 + x by show 192 + (n / 262144 % 64).toNat = _; rw [hx]; rfl)
          have hj : 192 + x < 257 := by omega
          clear hq hx
          go_upto_region 4 with fail
          go_quiet (fail)
          have c0w := ((Gr.refl wr).drewN nq).cell_some c0
          clear c0
          generalize hWe : wr.drewN nq = W1 at *
          have HWE := Lib.hid hWe
          clear hWe
          go_upto_region 7 with fail
          go_quiet (fail)
          generalize hWf : W1.drewN nq = W2 at *
          have HWF : Hid (Gr wr W2) := Lib.hid (by rw [← hWf, ← HWE.out]; exact ((Gr.refl wr).drewN _).drewN _)
          clear hWf c0w
          have hc := (HM.out.1.gr HWF.out).ls hj
          rw [show 130 + (192 + x) = 322 + x by omega] at hc
          obtain ⟨nb, kb, hvb, _, _⟩ := ((HM.out.1.gr HWF.out).sl _ hj).len
          rw [hvb] at hc
          have HU : Hid (Sl 3 .i64 W2 (.slice nb (emK n L 3 (192 + x)).length kb) (emK n L 3 (192 + x))) := Lib.hid (hvb ▸ (HM.out.1.gr HWF.out).sl _ hj)
          have hlen : (loK n L 3).length + (emK n L 3 (192 + x)).length ≤ 1000 := by
            have := loK_len (n := n) HL.out.1 3 (by omega)
            have h2 : (emK n L 3 (192 + x)).length ≤ 64 := by
              unfold emK; split
              · simp
              · exact HL.out.1 _
            omega
          have hfz := (HM.out.1.gr HWF.out).hdr.frozen (130 + (192 + x))
          rw [show 130 + (192 + x) = 322 + x by omega] at hfz
          have hlt := (HM.out.1.gr HWF.out).hdr.lt
          clear hvb
          go_wp2_with (at_builtin; refine wpList_slA el30 .i64 (.tmp 40) (.tmp 43) (.slice na (loK n L 3).length ka) (.slice nb (emK n L 3 (192 + x)).length kb) (loK n L 3) (emK n L 3 (192 + x)) _ rfl rfl rfl rfl (HM.out.2.2.2.1.gr HWF.out) HU.out (by omega) (by omega) ?_; intro v2 w2 r2 k2 f2; have HR := Lib.hid (And.intro r2 (And.intro k2 f2)); have hc2 := ((HM.out.1.gr HWF.out).hdr.ch k2 (fun hm => HM.out.2.2.2.2.1 _ hm (mem_wfp.2 (.inl rfl)))).cell (i := 130 + (192 + x)) (by omega); have hf2 := ((HM.out.1.gr HWF.out).hdr.ch k2 (fun hm => HM.out.2.2.2.2.1 _ hm (mem_wfp.2 (.inl rfl)))).frozen (130 + (192 + x)); rw [show 130 + (192 + x) = 322 + x by omega] at hc2 hf2; clear r2 k2 f2)
          go_roundw
          case rel =>
            have hs := Loose.step (HM.out.1.gr HWF.out) (HM.out.2.1.more HWF.out) HM.out.2.2.1 HM.out.2.2.2.2.1 HM.out.2.2.2.2.2 hj HR.out.1 HR.out.2.1 HR.out.2.2
            rw [show 130 + (192 + x) = 322 + x by omega] at hs
            rw [← HJ.out, emK_at n L 3 (by omega), ← loK_step n L 3 (by omega), ← emK_step n L 3 (by omega)] at hs
            exact ⟨4, by omega, by omega, by go_num, fun _ => HH.out.1 (by omega), fun _ => HH.out.2.1 (by omega), fun _ => HQ.out, by omega, hs⟩
          case measure => simp [intOf]
        · have hq' : (n % 262144 != 0) = true := by simpa using hq
          have HQ := Lib.hid hq
          clear hq
          go_upto_region 4 with fail
          go_quiet (fail)
          go_wp2_with fail
          go_meet
          case rel =>
            have hc := em_casc (L := L) (casc_cl n 3 (by omega) (fun h => HH.out.1 h) (fun h => HH.out.2.1 h) (fun h => HH.out.2.2.1 h) (fun h => HH.out.2.2.2 h) (by omega) (by omega) (fun _ => HQ.out) (by omega))
            rw [hc.1, hc.2]
            exact HLO.out.gr ((Gr.refl _).drewN _)
      · have hm := and24 n t0 t1
        by_cases hq : n % 16777216 = 0
        · rw [hq] at hm
          have HQ := Lib.hid hq
          have HJ := Lib.hid (show cIdx n 4 = 256 from rfl)
          have hj : 256 < 257 := by omega
          clear hq
          go_upto_region 4 with fail
          go_quiet (fail)
          have c0w := ((Gr.refl wr).drewN nq).cell_some c0
          clear c0
          generalize hWe : wr.drewN nq = W1 at *
          have HWE := Lib.hid hWe
          clear hWe
          have HWF : Hid (Gr wr W1) := Lib.hid (by rw [← HWE.out]; exact (Gr.refl wr).drewN _)
          obtain ⟨W2, hW2⟩ : ∃ W2, W1 = W2 := ⟨_, rfl⟩
          subst hW2
          have hc := (HM.out.1.gr HWF.out).ls hj
          rw [show 130 + 256 = 386 by omega] at hc
          obtain ⟨nb, kb, hvb, _, _⟩ := ((HM.out.1.gr HWF.out).sl _ hj).len
          rw [hvb] at hc
          have HU : Hid (Sl 3 .i64 W1 (.slice nb (emK n L 4 256).length kb) (emK n L 4 256)) := Lib.hid (hvb ▸ (HM.out.1.gr HWF.out).sl _ hj)
          have hlen : (loK n L 4).length + (emK n L 4 256).length ≤ 1000 := by
            have := loK_len (n := n) HL.out.1 4 (by omega)
            have h2 : (emK n L 4 256).length ≤ 64 := by
              unfold emK; split
              · simp
              · exact HL.out.1 _
            omega
          have hfz := (HM.out.1.gr HWF.out).hdr.frozen (130 + 256)
          rw [show 130 + 256 = 386 by omega] at hfz
          have hlt := (HM.out.1.gr HWF.out).hdr.lt
          clear hvb
          go_wp2_with (at_builtin; refine wpList_slA el30 .i64 (.tmp 40) (.tmp 43) (.slice na (loK n L 4).length ka) (.slice nb (emK n L 4 256).length kb) (loK n L 4) (emK n L 4 256) _ rfl rfl rfl rfl (HM.out.2.2.2.1.gr HWF.out) HU.out (by omega) (by omega) ?_; intro v2 w2 r2 k2 f2; have HR := Lib.hid (And.intro r2 (And.intro k2 f2)); have hc2 := ((HM.out.1.gr HWF.out).hdr.ch k2 (fun hm => HM.out.2.2.2.2.1 _ hm (mem_wfp.2 (.inl rfl)))).cell (i := 130 + 256) (by omega); have hf2 := ((HM.out.1.gr HWF.out).hdr.ch k2 (fun hm => HM.out.2.2.2.2.1 _ hm (mem_wfp.2 (.inl rfl)))).frozen (130 + 256); rw [show 130 + 256 = 386 by omega] at hc2 hf2; clear r2 k2 f2)
          go_roundw
          case rel =>
            have hs := Loose.step (HM.out.1.gr HWF.out) (HM.out.2.1.more HWF.out) HM.out.2.2.1 HM.out.2.2.2.2.1 HM.out.2.2.2.2.2 hj HR.out.1 HR.out.2.1 HR.out.2.2
            rw [show 130 + 256 = 386 by omega] at hs
            rw [← HJ.out, emK_at n L 4 (by omega), ← loK_step n L 4 (by omega), ← emK_step n L 4 (by omega)] at hs
            exact ⟨5, by omega, by omega, by go_num, fun _ => HH.out.1 (by omega), fun _ => HH.out.2.1 (by omega), fun _ => HH.out.2.2.1 (by omega), fun _ => HQ.out, hs⟩
          case measure => simp [intOf]
        · have hq' : (n % 16777216 != 0) = true := by simpa using hq
          have HQ := Lib.hid hq
          clear hq
          go_upto_region 4 with fail
          go_quiet (fail)
          go_wp2_with fail
          go_meet
          case rel =>
            have hc := em_casc (L := L) (casc_cl n 4 (by omega) (fun h => HH.out.1 h) (fun h => HH.out.2.1 h) (fun h => HH.out.2.2.1 h) (fun h => HH.out.2.2.2 h) (by omega) (by omega) (by omega) (fun _ => HQ.out))
            rw [hc.1, hc.2]
            exact HLO.out.gr ((Gr.refl _).drewN _)
      · go_wp2_with fail
        go_meet
        case rel =>
          have hc := em_casc (L := L) (casc_cl n 5 (by omega) (fun h => HH.out.1 h) (fun h => HH.out.2.1 h) (fun h => HH.out.2.2.1 h) (fun h => HH.out.2.2.2 h) (by omega) (by omega) (by omega) (by omega))
          rw [hc.1, hc.2]
          exact HLO.out
  case rest =>
    refine hK1 _ _ ?_
    obtain ⟨V1, m1, ch1, f1, sl1, d1, b1⟩ := hcut
    obtain ⟨na, ka, rfl, _, _⟩ := sl1.len
    have hRz : ∀ x ∈ looseL n L, 0 ≤ x ∧ x < 64 := fun x hx => by
      obtain ⟨j, _, hx⟩ := loose_mem.1 hx
      exact HL.out.2.1 j x hx
    have hRl : (looseL n L).length ≤ 320 := by
      unfold looseL casc
      split
      · simp
      · split
        · simp; have := HL.out.1 (64 + (n / 64 % 64).toNat); omega
        · split
          · simp; have := HL.out.1 (64 + (n / 64 % 64).toNat); have := HL.out.1 (128 + (n / 4096 % 64).toNat); omega
          · split
            · simp; have := HL.out.1 (64 + (n / 64 % 64).toNat); have := HL.out.1 (128 + (n / 4096 % 64).toNat); have := HL.out.1 (192 + (n / 262144 % 64).toNat); omega
            · simp; have := HL.out.1 (64 + (n / 64 % 64).toNat); have := HL.out.1 (128 + (n / 4096 % 64).toNat); have := HL.out.1 (192 + (n / 262144 % 64).toNat); have := HL.out.1 256; omega
    have hEl : ∀ j, (emptyL n L j).length ≤ 64 := fun j => by
      unfold emptyL; split
      · simp
      · exact HL.out.1 j
    have HQ : Hid (cascL n s L = laidL n s (emptyL n L) (looseL n L)) := Lib.hid rfl
    have HE := Lib.hid (And.intro hRz hEl)
    generalize looseL n L = R at *
    generalize emptyL n L = E at *
    have HM := Lib.hid (And.intro m1 (And.intro ch1 (And.intro f1 (And.intro sl1 d1))))
    clear m1 ch1 f1 sl1 d1 b1 hRz hEl
    go_wp2_with fail
    go_loopw [49] (fun i wr => ∃ (k : Nat) (V' : Nat → Value), k ≤ R.length ∧ i = .int .i64 k ∧ WMem wr g s (laidL n s E (R.take k)) V' ∧ Ch (wfp g V1) wc wr ∧ Foot wc (wfp g V1) (wfp g V')) (fun i _ => R.length - (intOf i).toNat)
    case atStart => exact ⟨0, V1, by omega, rfl, by rw [List.take_zero, laid_nil]; exact HM.out.1, Ch.refl _ _, Foot.refl _ _⟩
    case round =>
      obtain ⟨k, V', hk, rfl, mk, chk, fk⟩ := hrel
      by_cases hlt : k < R.length
      · have hd : decide (k < R.length) = true := by simpa using hlt
        obtain ⟨bR, oR, cR, heR, _, _, hcR, _, hbR⟩ := HM.out.2.2.2.1.cells (by omega)
        cases heR
        have hx := hcR k hlt
        have hxz := HE.out.1 (R.getD k 0) (by simp [List.getD_eq_getElem?_getD, hlt])
        have hnot : bR ∉ wfp g V1 := fun hm => HM.out.2.2.2.2 bR (by simp [sb]) hm
        have hx2 := chk.cell hx hnot
        have HT := Lib.hid (show R.take (k + 1) = R.take k ++ [R.getD k 0] from take_snoc R k hlt)
        obtain ⟨p, hp⟩ := Int.eq_ofNat_of_zero_le hxz.1
        rw [hp] at hx2 HT
        have hp64 : p < 64 := by omega
        have hlen : (laidL n s E (R.take k) (hJ n (s.du p))).length ≤ 1000 := by
          unfold laidL
          rw [List.length_append]
          have h1 := HE.out.2 (hJ n (s.du p))
          have h2 := List.length_filter_le (fun x => decide (hJ n (s.du x.toNat) = hJ n (s.du p))) (R.take k)
          have h3 : (R.take k).length ≤ k := List.length_take_le _ _
          omega
        have CL := Lib.hid (wlay g s _ V' p wr mk hp64 HL.out.2.2.2 (HL.out.2.2.1 p) (by rw [HNow.out]; exact hlen))
        have hls := laid_step n s E (R.take k) (p : Int)
        rw [Int.toNat_natCast] at hls
        rw [HNow.out, ← hls] at CL
        have HK := Lib.hid (And.intro chk fk)
        have i1 : (k : Int) < (R.length : Int) := by omega
        clear mk chk fk hx hcR hxz hp hlen hnot hls
        go_wp2_with (go_at_call 36; refine (CL.out).mono ?_; rintro e w2 ⟨rfl, V2, m2, k2, f2⟩)
        go_roundw
        case rel => exact ⟨k + 1, V2, by omega, by go_num, by rw [HT.out]; exact m2, HK.out.1.foot k2 HK.out.2, HK.out.2.tr f2 HK.out.1.size⟩
        case measure => simp [intOf]; omega
      · obtain rfl : k = R.length := by omega
        have hd : decide (R.length < R.length) = false := by simp
        have HK := Lib.hid (And.intro mk (And.intro chk fk))
        clear mk chk fk
        go_wp2_with fail
        rw [Exit.noGoto_normal]
        go_end0
        refine ⟨rfl, ?_⟩
        rw [HQ.out]
        exact LayTo.step HM.out.2.1 HM.out.2.2.1 ⟨V', by have := HK.out.1; rwa [List.take_of_length_le (Nat.le_refl _)] at this, HK.out.2.1, HK.out.2.2⟩
end Go.Proofs.Ytbeoomjcipbjjaa
