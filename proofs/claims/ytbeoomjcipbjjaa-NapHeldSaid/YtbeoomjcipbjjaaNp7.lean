/- The walk of the law NapHeld of chapter 27 (nap): it returns true for every input, and changes nothing that was there. -/
import Derived.Test.YtbeoomjcipbjjaaNp6
namespace Go.Proofs.Ytbeoomjcipbjjaa
open Go.RowKit
set_option linter.unusedVariables false

/-- Behind t of L ticks towards the last one: place 5 naps till then. -/
structure HI (L t : Nat) (s : TS) (K : Nat → Int) : Prop where
  now : s.now = 18446744073709551615 - L + t
  far : ∀ p, p ≠ 5 → K p = 0
  five : K 5 = if 0 < L ∧ t = L then 0 else 1
  only : ∀ p, s.no p ≠ 0 → p = 5
  tim : t < L → s.no 5 ≠ 0 ∧ s.du 5 = 18446744073709551615
  dead : ¬ t < L → s.no 5 = 0
  last : s.last ≤ 1
theorem HI.due {L t : Nat} {s : TS} {K : Nat → Int} (h : HI L t s K) (ht : t < L) {l : List Int} (hd : IsDue s l) : l = if t + 1 = L then [5] else [] := by
  have hn := h.now
  obtain ⟨h1, h2⟩ := h.tim ht
  split
  · rename_i e
    refine hd.uniq ⟨by simp, fun x => ?_⟩
    constructor
    · intro hx
      simp at hx
      exact ⟨5, hx, by omega, h1, by omega⟩
    · rintro ⟨p, rfl, _, h3, _⟩
      have := h.only p h3
      subst this
      simp
  · rename_i e
    cases l with
    | nil => rfl
    | cons x r =>
      obtain ⟨p, _, _, h3, h4⟩ := (hd.2 x).1 (by simp)
      have := h.only p h3
      subst this
      omega
theorem HI.next {L t : Nat} {s : TS} {K : Nat → Int} (g : TG s) (h : HI L t s K) (ht : t < L) : HI L (t + 1) (turnT s) (tickK s K) := by
  have hn := h.now
  obtain ⟨h1, h2⟩ := h.tim ht
  refine ⟨?_, fun p hp => ?_, ?_, fun p hp => ?_, fun hlt => ?_, ?_, h.last⟩
  · show s.now + 1 = _
    omega
  · unfold tickK; split
    · rfl
    · exact h.far p hp
  · unfold tickK
    by_cases e : t + 1 = L
    · rw [if_pos ⟨h1, by omega⟩, if_pos ⟨by omega, e⟩]
    · rw [if_neg (by omega), if_neg (by omega), h.five, if_neg (by omega)]
  · rw [turn_no g] at hp
    split at hp
    · exact absurd rfl hp
    · exact h.only p hp
  · constructor
    · rw [turn_no g, if_neg (by omega)]; exact h1
    · show (if s.du 5 = s.now + 1 then 0 else s.du 5) = _
      rw [if_neg (by omega)]; exact h2
  · intro hlt
    rw [turn_no g, if_pos ⟨h1, by omega⟩]
theorem HI.cnt {K : Nat → Int} (h : ∀ p, p ≠ 5 → K p = 0) : cntK K 64 ≤ 1 := by
  have key : ∀ i, cntK K i ≤ if 5 < i then 1 else 0 := by
    intro i
    induction i with
    | zero => exact Nat.le_refl _
    | succ i ih =>
      show (if K i ≠ 0 then cntK K i + 1 else cntK K i) ≤ _
      by_cases e : i = 5
      · subst e
        rw [if_neg (by omega)] at ih
        show _ ≤ 1
        split <;> omega
      · rw [if_neg (by simp [h i e])]
        by_cases e2 : 5 < i
        · rw [if_pos e2] at ih; rw [if_pos (by omega)]; exact ih
        · rw [if_neg e2] at ih; omega
  have := key 64
  simpa using this
/-- The state behind Begin. -/
theorem HI.zero {L : Nat} (hL : L ≤ 255) {k : Int} (hk : (L : Int) ≤ k) (hk1 : 0 < k) (hk2 : k ≤ 18446744073709551615) :
    HI L 0 (begT (newS (18446744073709551615 - L)) 5 (addT (18446744073709551615 - L) k)) (updT (fun _ => 0) 5 1) := by
  have ha : addT (18446744073709551615 - L) k = 18446744073709551615 := by unfold addT; split <;> omega
  rw [ha]
  have hnw : (newS (18446744073709551615 - (L : Int))).now = 18446744073709551615 - (L : Int) := rfl
  refine ⟨by rw [begT_now, hnw]; omega, fun p hp => updT_ne _ _ hp, ?_, fun p => ?_, fun hlt => ?_, fun hlt => ?_, ?_⟩
  · rw [updT_same, if_neg (by omega)]
  · unfold begT
    split
    · intro e; exact absurd rfl e
    · show updT (fun _ => 0) 5 ((0 : Int) + 1) p ≠ 0 → _
      intro e
      exact Classical.byContradiction fun h => e (updT_ne _ _ h)
  · unfold begT
    rw [if_neg (by rw [hnw]; omega)]
    exact ⟨by show updT (fun _ => 0) 5 ((0 : Int) + 1) 5 ≠ 0; rw [updT_same]; omega, by show updT (fun _ => 0) 5 (18446744073709551615 : Int) 5 = _; rw [updT_same]⟩
  · unfold begT
    rw [if_pos (by rw [hnw]; omega)]
    rfl
  · have := begT_last (newS (18446744073709551615 - (L : Int))) 5 18446744073709551615
    have h0 : (newS (18446744073709551615 - (L : Int))).last = 0 := rfl
    omega
theorem HI.till {L : Nat} {s : TS} {K : Nat → Int} (h : HI L 0 s K) : tillV s K 5 = .tuple #[.int .u64 18446744073709551615, .bool true] := by
  have h5 : kdS K 5 = 1 := by
    have : kdS K ((5 : Nat) : Int) = K 5 := kdS_at K (by omega)
    have h2 := h.five
    rw [if_neg (by omega)] at h2
    rw [← h2]; exact this
  unfold tillV
  rw [h5, if_neg (by omega)]
  unfold tillS
  rw [show (5 : Int).toNat = 5 from rfl]
  by_cases hn : s.no 5 ≠ 0
  · rw [if_pos hn]
    by_cases hL : 0 < L
    · rw [(h.tim hL).2]
    · exact absurd (h.dead hL) hn
  · rw [if_neg hn]
/-- What the last naps answer. -/
theorem held_beg {K : Nat → Int} (h : ∀ p, p ≠ 5 → K p = 0) (s : TS) (hn : s.now = 18446744073709551615) : begS s K 6 2 1 = s ∧ begK K 6 2 1 = updT K 6 2 := by
  have hok : begOk K 6 2 1 = true := by
    unfold begOk
    have : kdS K ((6 : Nat) : Int) = K 6 := kdS_at K (by omega)
    rw [show kdS K 6 = 0 from this.trans (h 6 (by omega))]
    rfl
  unfold begS begK
  rw [hok]
  refine ⟨?_, rfl⟩
  rw [if_pos rfl]
  have ha : addT s.now 1 = 18446744073709551615 := by unfold addT; rw [hn]; rfl
  unfold begT
  rw [ha, if_pos (by omega)]
theorem held_kd {K : Nat → Int} {L : Nat} {s : TS} (h : HI L L s K) : kdS (updT K 6 2) 6 = 2 ∧ kdS (updT K 6 2) 5 = if 0 < L then 0 else 1 := by
  constructor
  · exact (kdS_at (updT K 6 2) (i := 6) (by omega)).trans (updT_same _ _ _)
  · refine (kdS_at (updT K 6 2) (i := 5) (by omega)).trans ?_
    rw [updT_ne _ _ (by omega), h.five]
    by_cases e : 0 < L <;> simp [e]
theorem held_begV {k : Int} (hk : 0 < k) : begV (fun _ => 0) 5 1 k = .tuple #[.bool true, .int .i64 0] ∧ begOk (fun _ => 0) 5 1 k = true := by
  have h : begOk (fun _ => 0) 5 1 k = true := by
    unfold begOk
    rw [show decide (k ≠ 0) = true by simp; omega]
    rfl
  refine ⟨?_, h⟩
  unfold begV
  rw [h]
  rfl
theorem held_beg0 : begV (fun _ => 0) 5 1 0 = .tuple #[.bool false, .int .i64 0] := rfl
set_option maxRecDepth 100000 in
set_option maxHeartbeats 2000000 in
theorem napHeld_walk (l m : Int) (w : World) (hl : 0 ≤ l ∧ l ≤ 255) (hm : 0 ≤ m ∧ m ≤ 18446744073709551615) :
    Calls Try.prog 8 #[.int .u8 l, .int .u64 m] w fun e w' => e = .returned (.bool true) ∧ Gr w w' := by
  obtain ⟨L, rfl⟩ := Int.eq_ofNat_of_zero_le hl.1
  have hL : L ≤ 255 := by omega
  obtain ⟨k, hk⟩ : ∃ k : Int, max m (L : Int) = k := ⟨_, rfl⟩
  have hk1 : (L : Int) ≤ k ∧ k ≤ 18446744073709551615 ∧ m ≤ k := by omega
  have HK := Lib.hid (And.intro hk (And.intro hk1 hL))
  have CN := Lib.hid (fun w => nnew (18446744073709551615 - L) w (by omega))
  have CW := Lib.hid (awake27)
  obtain ⟨hl0, hl1⟩ := hl
  obtain ⟨hm0, hm1⟩ := hm
  clear hk hk1
  go_enter Try.func8, Try.ntmps8
  go_upto_region 3 with (go_at_call 20; refine (CN.out _).mono ?_; rintro e w1 hn; obtain ⟨q, g, C, S, rfl, h1⟩ := NF.new hn; clear hn)
  have H1 := Lib.hid h1
  clear h1 CN
  go_upto_region 4 with fail
  rw [HK.out.1]
  have CB := Lib.hid (nbegin q g C S _ _ 5 1 k w1 H1.out.m (by have := HK.out; omega) (by show (0 : Int) < _; omega))
  by_cases h0 : k = 0
  · subst h0
    rw [held_beg0] at CB
    have e1 : begS (newS (18446744073709551615 - (L : Int))) (fun _ => 0) 5 1 0 = newS (18446744073709551615 - (L : Int)) := rfl
    have e2 : begK (fun _ => 0) 5 1 0 = (fun _ => 0) := rfl
    rw [e1, e2] at CB
    clear hL hl0 hl1 hm0 hm1
    go_wp2_with (first
      | (go_at_call 21; refine (CB.out).mono ?_; rintro e w2 ⟨rfl, hn⟩; obtain ⟨S2, h2⟩ := H1.out.to hn; have H2 := Lib.hid h2; clear h2 hn)
      | (go_at_call 24; refine (nlen q g C S2 _ _ _ H2.out.m).mono ?_; rw [show cntK (fun _ => 0) 64 = 0 from rfl]; rintro e w3 ⟨rfl, rfl⟩)
      | (go_at_call 25; refine (CW.out _).mono ?_; rintro e w8 ⟨rfl, g8⟩))
    go_ret
    exact ⟨rfl, H2.out.gr.tr g8⟩
  · have hk0 : 0 < k := by have := HK.out; omega
    have hd : decide (0 < k) = true := by simpa using hk0
    obtain ⟨hv, hok⟩ := held_begV hk0
    have e1 : begS (newS (18446744073709551615 - (L : Int))) (fun _ => 0) 5 1 k = begT (newS (18446744073709551615 - (L : Int))) 5 (addT (18446744073709551615 - (L : Int)) k) := by unfold begS; rw [hok, if_pos rfl]; rfl
    have e2 : begK (fun _ => 0) 5 1 k = updT (fun _ => 0) 5 1 := by unfold begK; rw [hok, if_pos rfl]; rfl
    rw [hv, e1, e2] at CB
    have Z := Lib.hid (HI.zero hL HK.out.2.1.1 hk0 HK.out.2.1.2.1)
    generalize begT (newS (18446744073709551615 - (L : Int))) 5 (addT (18446744073709551615 - (L : Int)) k) = s0 at *
    generalize updT (fun _ => (0 : Int)) 5 1 = K0 at *
    clear hv hok e1 e2 h0
    go_upto_region 5 with (go_at_call 21; refine (CB.out).mono ?_; rintro e w2 ⟨rfl, hn⟩; obtain ⟨S2, h2⟩ := H1.out.to hn; have H2 := Lib.hid h2; clear h2 hn)
    have CT := Lib.hid (ntill q g C S2 s0 K0 5 w2 H2.out.m)
    rw [Z.out.till] at CT
    clear CB H1
    go_wp2_with (go_at_call 30; refine (CT.out).mono ?_; rintro e w3 ⟨rfl, rfl⟩)
    go_loopw [12, 13] (fun t _ wr => ∃ (t' : Nat) (S : List Nat) (s : TS) (K : Nat → Int), t' ≤ L ∧ t = .int .i64 t' ∧ NF w wr q g C S s K ∧ HI L t' s K) (fun t _ _ => L - (intOf t).toNat)
    case atStart => exact ⟨0, S2, s0, K0, by omega, rfl, H2.out, Z.out⟩
    case round =>
      obtain ⟨t, S3, s, K, ht, rfl, hN, hI⟩ := hrel
      have HN := Lib.hid (And.intro hN hI)
      clear hN hI Z H2 CT
      by_cases hlt : t < L
      · have hI1 : (t : Int) < (L : Int) := by omega
        have CT := Lib.hid (ntick q g C S3 s K _ HN.out.1.m (by have := HN.out.2.now; omega))
        by_cases e : t + 1 = L
        · have q1 : ((t : Int) == (L : Int) - 1) = true := by simp; omega
          go_wp2_with (go_at_call 22; refine (CT.out).mono ?_; rintro e w4 hn; obtain ⟨v4, l4, S4, rfl, hd4, sc4, h4, fv4, _, _⟩ := HN.out.1.tick hn; obtain rfl := (HN.out.2.due hlt hd4).trans (if_pos e); obtain ⟨a4, c4, rfl, _, _⟩ := sc4.len; have H4 := Lib.hid h4; clear hn h4 hd4 sc4 fv4)
          go_roundw
          case rel => exact ⟨t + 1, S4, _, _, by omega, by go_num, H4.out, HN.out.2.next HN.out.1.m.wa.tg hlt⟩
          case measure => simp [intOf]; omega
        · have q1 : ((t : Int) == (L : Int) - 1) = false := by simp; omega
          go_wp2_with (go_at_call 22; refine (CT.out).mono ?_; rintro e w4 hn; obtain ⟨v4, l4, S4, rfl, hd4, sc4, h4, fv4, _, _⟩ := HN.out.1.tick hn; obtain rfl := (HN.out.2.due hlt hd4).trans (if_neg e); obtain ⟨a4, c4, rfl, _, _⟩ := sc4.len; have H4 := Lib.hid h4; clear hn h4 hd4 sc4 fv4)
          go_roundw
          case rel => exact ⟨t + 1, S4, _, _, by omega, by go_num, H4.out, HN.out.2.next HN.out.1.m.wa.tg hlt⟩
          case measure => simp [intOf]; omega
      · obtain rfl : t = L := by omega
        have hnow : s.now = 18446744073709551615 := by have := HN.out.2.now; omega
        have CL := Lib.hid (nclock q g C S3 s K _ HN.out.1.m)
        have CN := Lib.hid (nlen q g C S3 s K _ HN.out.1.m)
        rw [hnow] at CL
        have hcnt := HI.cnt HN.out.2.far
        obtain ⟨hb1, hb2⟩ := held_beg HN.out.2.far s hnow
        have CB := Lib.hid (nbegin q g C S3 s K 6 2 1 _ HN.out.1.m (by omega) (by have := HN.out.2.last; omega))
        rw [hb1, hb2] at CB
        obtain ⟨hk6, hk5⟩ := held_kd HN.out.2
        have HNOW := Lib.hid hnow
        have HKK := Lib.hid (And.intro hk6 hk5)
        generalize cntK K 64 = cn at *
        have hd2 : decide (1 < (cn : Int)) = false := by simp; omega
        obtain ⟨va, vb, hbv⟩ : ∃ (va : Bool) (vb : Int), begV K 6 2 1 = .tuple #[.bool va, .int .i64 vb] := ⟨_, _, rfl⟩
        rw [hbv] at CB
        clear hnow hb1 hb2 hk6 hk5 hbv hlt hcnt
        by_cases h5 : 0 < t
        · have hd3 : decide ((0 : Int) < (t : Int)) = true := by simpa using h5
          have H5 := Lib.hid h5
          go_wp2_with (first
            | (go_at_call 31; refine (CL.out).mono ?_; rintro e w4 ⟨rfl, rfl⟩)
            | (go_at_call 24; refine (CN.out).mono ?_; rintro e w4 ⟨rfl, rfl⟩)
            | (go_at_call 21; refine (CB.out).mono ?_; rintro e w4 ⟨rfl, hn⟩; obtain ⟨S4, h4⟩ := HN.out.1.to hn; have H4 := Lib.hid h4; clear h4 hn)
            | (go_at_call 22; refine (ntick_top q g C S4 s _ _ H4.out.m HNOW.out).mono ?_; rintro e w5 ⟨rfl, g5⟩; have H6 := Lib.hid (H4.out.more g5); clear g5)
            | (go_at_call 23; refine (nkind q g C S4 s _ 6 _ H6.out.m).mono ?_; rw [HKK.out.1]; rintro e w6 ⟨rfl, rfl⟩; have H7 := H6; clear H6)
            | (go_at_call 23; refine (nkind q g C S4 s _ 5 _ H7.out.m).mono ?_; rw [HKK.out.2, if_pos H5.out]; rintro e w6 ⟨rfl, rfl⟩)
            | (go_at_call 25; refine (CW.out _).mono ?_; rintro e w8 ⟨rfl, g8⟩))
          go_ret
          exact ⟨rfl, H7.out.gr.tr g8⟩
        · have hd3 : decide ((0 : Int) < (t : Int)) = false := by simp; omega
          have H5 := Lib.hid h5
          go_wp2_with (first
            | (go_at_call 31; refine (CL.out).mono ?_; rintro e w4 ⟨rfl, rfl⟩)
            | (go_at_call 24; refine (CN.out).mono ?_; rintro e w4 ⟨rfl, rfl⟩)
            | (go_at_call 21; refine (CB.out).mono ?_; rintro e w4 ⟨rfl, hn⟩; obtain ⟨S4, h4⟩ := HN.out.1.to hn; have H4 := Lib.hid h4; clear h4 hn)
            | (go_at_call 22; refine (ntick_top q g C S4 s _ _ H4.out.m HNOW.out).mono ?_; rintro e w5 ⟨rfl, g5⟩; have H6 := Lib.hid (H4.out.more g5); clear g5)
            | (go_at_call 23; refine (nkind q g C S4 s _ 6 _ H6.out.m).mono ?_; rw [HKK.out.1]; rintro e w6 ⟨rfl, rfl⟩; have H7 := H6; clear H6)
            | (go_at_call 23; refine (nkind q g C S4 s _ 5 _ H7.out.m).mono ?_; rw [HKK.out.2, if_neg H5.out]; rintro e w6 ⟨rfl, rfl⟩)
            | (go_at_call 25; refine (CW.out _).mono ?_; rintro e w8 ⟨rfl, g8⟩))
          go_ret
          exact ⟨rfl, H7.out.gr.tr g8⟩
end Go.Proofs.Ytbeoomjcipbjjaa
