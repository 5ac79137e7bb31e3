/- The plain law behind NapJust (chapter 27): which naps there are behind so many ticks. No program, no conditions. -/
import Derived.Test.YtbeoomjcipbjjaaNp5
namespace Go.Proofs.Ytbeoomjcipbjjaa
open Go.RowKit
set_option linter.unusedVariables false

theorem dueC_get (K : Nat → Int) : ∀ (l : List Int) (i : Nat), i < l.length → (dueC K l)[i * 2]? = some (.int .i64 (l.getD i 0)) ∧ (dueC K l)[i * 2 + 1]? = some (.int .i64 (K (l.getD i 0).toNat))
  | [], i, h => by simp at h
  | x :: r, 0, _ => ⟨rfl, rfl⟩
  | x :: r, i + 1, h => by
    have ih := dueC_get K r i (by simpa using h)
    have e : dueC K (x :: r) = [.int .i64 x, .int .i64 (K x.toNat)] ++ dueC K r := rfl
    rw [e, List.getElem?_append_right (by simp; omega), List.getElem?_append_right (by simp; omega)]
    simp only [List.length_cons, List.length_nil, List.getD_cons_succ]
    rw [show (i + 1) * 2 - (0 + 1 + 1) = i * 2 by omega, show (i + 1) * 2 + 1 - (0 + 1 + 1) = i * 2 + 1 by omega]
    exact ih
/-- Behind i of the other naps. -/
structure JI0 (b : Int) (i : Nat) (s : TS) (K : Nat → Int) : Prop where
  now : s.now = b
  last : s.last ≤ i
  tim : ∀ p, K p ≠ 0 → s.no p ≠ 0 ∧ K p = 2
  du : ∀ p, s.no p ≠ 0 → s.du p ≤ b + 3000
  zero : K 0 = 0
  big : ∀ p, i < p → K p = 0
theorem JI0.start (b : Int) : JI0 b 0 (newS b) (fun _ => 0) := ⟨rfl, Int.le_refl _, fun p h => absurd rfl h, fun p h => absurd rfl h, rfl, fun _ _ => rfl⟩
theorem addT_low {b t : Int} (hb : b ≤ 9223372036854775808) (ht : t ≤ 100000) : addT b t = b + t := by unfold addT; rw [if_neg (by omega)]
theorem begOk_at (K : Nat → Int) {p : Nat} (hp : p < 64) (h0 : K p = 0) {k t : Int} (hk : k = 1 ∨ k = 2) : begOk K p k t = decide (t ≠ 0) := by
  unfold begOk
  rw [show decide (0 ≤ (p : Int) ∧ (p : Int) < 64) = true by simp; omega, show decide (k = 1 ∨ k = 2) = true by simpa using hk, kdS_at K hp, h0]
  rfl
theorem beg_some {s : TS} {K : Nat → Int} {p : Nat} (hp : p < 64) (h0 : K p = 0) {k t : Int} (hk : k = 1 ∨ k = 2) (ht : 0 < t ∧ t ≤ 100000) (hb : s.now ≤ 9223372036854775808) :
    begS s K p k t = setT s p (s.now + t) ∧ begK K p k t = updT K p k := by
  unfold begS begK
  rw [begOk_at K hp h0 hk, show decide (t ≠ 0) = true by simp; omega, if_pos rfl, if_pos rfl, addT_low hb (by omega), Int.toNat_natCast]
  refine ⟨?_, rfl⟩
  unfold begT
  rw [if_neg (by omega)]
theorem beg_none {s : TS} {K : Nat → Int} {p : Nat} (hp : p < 64) (h0 : K p = 0) {k : Int} (hk : k = 1 ∨ k = 2) : begS s K p k 0 = s ∧ begK K p k 0 = K := by
  unfold begS begK
  rw [begOk_at K hp h0 hk]
  exact ⟨rfl, rfl⟩
theorem JI0.next {b : Int} {i : Nat} {s : TS} {K : Nat → Int} (g : TG s) (h : JI0 b i s K) (hi : i < 60) (hb : b ≤ 9223372036854775808) {t : Int} (ht : 0 ≤ t ∧ t < 3000) : JI0 b (i + 1) (begS s K ((i + 1 : Nat) : Int) 2 t) (begK K ((i + 1 : Nat) : Int) 2 t) := by
  have h0 := h.big (i + 1) (by omega)
  by_cases e : t = 0
  · subst e
    rw [(beg_none (s := s) (by omega) h0 (.inr rfl)).1, (beg_none (s := s) (by omega) h0 (.inr rfl)).2]
    exact ⟨h.now, by have := h.last; omega, h.tim, h.du, h.zero, fun p hp => h.big p (by omega)⟩
  · obtain ⟨e1, e2⟩ := beg_some (s := s) (t := t) (by omega) h0 (.inr rfl) (by omega) (by rw [h.now]; exact hb)
    rw [e1, e2]
    have g0 := g.last0
    refine ⟨h.now, by have := h.last; show s.last + 1 ≤ _; omega, fun p hp => ?_, fun p hp => ?_, ?_, fun p hp => ?_⟩
    · show updT s.no (i + 1) (s.last + 1) p ≠ 0 ∧ updT K (i + 1) 2 p = 2
      by_cases q : p = i + 1
      · subst q; rw [updT_same, updT_same]; exact ⟨by omega, rfl⟩
      · rw [updT_ne _ _ q] at hp
        rw [updT_ne _ _ q, updT_ne _ _ q]; exact h.tim p hp
    · have hp : updT s.no (i + 1) (s.last + 1) p ≠ 0 := hp
      show updT s.du (i + 1) (s.now + t) p ≤ _
      by_cases q : p = i + 1
      · subst q; rw [updT_same, h.now]; omega
      · rw [updT_ne _ _ q] at hp ⊢; exact h.du p hp
    · rw [updT_ne _ _ (by omega)]; exact h.zero
    · rw [updT_ne _ _ (by omega)]; exact h.big p (by omega)
/-- Behind T ticks: place 0 sleeps k of them. -/
structure JI (b k T : Int) (s : TS) (K : Nat → Int) : Prop where
  now : s.now = b + T
  tim : ∀ p, K p ≠ 0 → s.no p ≠ 0
  du : ∀ p, s.no p ≠ 0 → s.du p ≤ b + 3000
  zero : K 0 = if T < k then 1 else 0
  at_ : T < k → s.du 0 = b + k
theorem JI.start {b : Int} {i : Nat} {s : TS} {K : Nat → Int} (g : TG s) (h : JI0 b i s K) (hb : b ≤ 9223372036854775808) {k : Int} (hk : 0 < k ∧ k ≤ 3000) : JI b k 0 (begS s K 0 1 k) (begK K 0 1 k) := by
  obtain ⟨e1, e2⟩ := beg_some (s := s) (p := 0) (t := k) (by omega) h.zero (.inl rfl) (by omega) (by rw [h.now]; exact hb)
  have g0 := g.last0
  rw [show begS s K 0 1 k = _ from e1, show begK K 0 1 k = _ from e2]
  refine ⟨by show s.now = _; rw [h.now]; omega, fun p hp => ?_, fun p hp => ?_, ?_, fun _ => ?_⟩
  · show updT s.no 0 (s.last + 1) p ≠ 0
    by_cases q : p = 0
    · subst q; rw [updT_same]; omega
    · rw [updT_ne _ _ q] at hp
      rw [updT_ne _ _ q]; exact (h.tim p hp).1
  · have hp : updT s.no 0 (s.last + 1) p ≠ 0 := hp
    show updT s.du 0 (s.now + k) p ≤ _
    by_cases q : p = 0
    · subst q; rw [updT_same, h.now]; omega
    · rw [updT_ne _ _ q] at hp ⊢; exact h.du p hp
  · rw [updT_same, if_pos (by omega)]
  · show updT s.du 0 (s.now + k) 0 = _
    rw [updT_same, h.now]
theorem JI.rang {b k T : Int} {s : TS} {K : Nat → Int} (n : NK s K) (h : JI b k T s K) {l : List Int} (hd : IsDue s l) : (0 : Int) ∈ l ↔ T + 1 = k := by
  have hn := h.now
  rw [hd.2]
  constructor
  · rintro ⟨p, hp, _, h1, h2⟩
    obtain rfl : p = 0 := by omega
    have hz := h.zero
    have hk := n.tim 0 h1
    by_cases e : T < k
    · have := h.at_ e; omega
    · rw [if_neg e] at hz; exact absurd hz hk
  · intro e
    have hz := h.zero
    rw [if_pos (by omega)] at hz
    exact ⟨0, rfl, by omega, h.tim 0 (by omega), by have := h.at_ (by omega); omega⟩
theorem JI.next {b k T : Int} {s : TS} {K : Nat → Int} (n : NK s K) (h : JI b k T s K) (hT : 0 ≤ T) : JI b k (T + 1) (turnT s) (tickK s K) := by
  have hn := h.now
  have hz := h.zero
  refine ⟨by show s.now + 1 = _; omega, fun p hp => ?_, fun p hp => ?_, ?_, fun hlt => ?_⟩
  · unfold tickK at hp
    split at hp
    · exact absurd rfl hp
    · rename_i hne
      rw [turn_no n.tg, if_neg hne]; exact h.tim p hp
  · rw [turn_no n.tg] at hp
    split at hp
    · exact absurd rfl hp
    · rename_i hne
      have hd : ¬ s.du p = s.now + 1 := fun e => hne ⟨hp, e⟩
      show (if s.du p = s.now + 1 then 0 else s.du p) ≤ _
      rw [if_neg hd]; exact h.du p hp
  · unfold tickK
    by_cases e : T < k
    · rw [if_pos e] at hz
      have h1 := h.tim 0 (by omega)
      have h2 := h.at_ e
      by_cases e2 : T + 1 < k
      · rw [if_neg (by omega), if_pos e2, hz]
      · rw [if_pos ⟨h1, by omega⟩, if_neg e2]
    · rw [if_neg e] at hz
      rw [hz, show (if T + 1 < k then (1 : Int) else 0) = 0 from if_neg (by omega)]
      split <;> rfl
  · have h2 := h.at_ (by omega)
    show (if s.du 0 = s.now + 1 then 0 else s.du 0) = _
    rw [if_neg (by omega)]; exact h2
theorem JI.done {b k : Int} {s : TS} {K : Nat → Int} (n : NK s K) (h : JI b k 3001 s K) : cntK K 64 = 0 := by
  have h0 : ∀ p, K p = 0 := fun p => Classical.byContradiction fun e => by
    have h1 := h.tim p e
    have h2 := h.du p h1
    have h3 := n.tg.late p h1
    have := h.now
    omega
  have key : ∀ i, cntK K i = 0 := by
    intro i
    induction i with
    | zero => rfl
    | succ i ih =>
      show (if K i ≠ 0 then cntK K i + 1 else cntK K i) = 0
      rw [if_neg (by simp [h0 i])]; exact ih
  exact key 64
/-- Has place 0 rung among the first i? -/
def rgB (l : List Int) (i : Nat) : Bool := decide ((0 : Int) ∈ l.take i)
theorem rgB_zero (l : List Int) : rgB l 0 = false := by unfold rgB; simp
theorem rgB_step (l : List Int) {i : Nat} (hi : i < l.length) : rgB l (i + 1) = (rgB l i || decide (l.getD i 0 = 0)) := by
  unfold rgB
  rw [take_snoc l i hi]
  simp only [List.mem_append, List.mem_singleton, Bool.decide_or]
  congr 1
  rw [Bool.eq_iff_iff]; simp; omega
theorem rgB_end (l : List Int) : rgB l l.length = decide ((0 : Int) ∈ l) := by unfold rgB; rw [List.take_length]
end Go.Proofs.Ytbeoomjcipbjjaa
