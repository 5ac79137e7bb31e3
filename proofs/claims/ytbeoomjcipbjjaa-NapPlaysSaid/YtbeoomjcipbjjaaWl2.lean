/- The timer wheel as plain numbers and lists: what each operation leaves. No program, no conditions. -/
import Derived.Test.YtbeoomjcipbjjaaWl1
namespace Go.Proofs.Ytbeoomjcipbjjaa
set_option linter.unusedVariables false

def updT {α : Type} (f : Nat → α) (i : Nat) (x : α) : Nat → α := fun j => if j = i then x else f j
theorem updT_same {α : Type} (f : Nat → α) (i : Nat) (x : α) : updT f i x i = x := by simp [updT]
theorem updT_ne {α : Type} (f : Nat → α) {i j : Nat} (x : α) (h : j ≠ i) : updT f i x j = f j := by simp [updT, h]
def newS (n : Int) : TS := ⟨n, 0, fun _ => 0, fun _ => 0⟩
theorem newS_tg {n : Int} (h : 0 ≤ n ∧ n ≤ 18446744073709551615) : TG (newS n) := ⟨h.1, h.2, Int.le_refl _, by show (0 : Int) ≤ _; omega, fun _ => ⟨Int.le_refl _, Int.le_refl _⟩, fun _ => ⟨Int.le_refl _, by show (0 : Int) ≤ _; omega⟩, fun _ _ => rfl, fun _ h => absurd rfl h, fun _ _ _ h => absurd rfl h, fun _ _ => rfl⟩
theorem newS_li (n : Int) : LI n (newS n) (fun _ => []) := ⟨fun _ _ h => by simp at h, fun _ _ h => absurd rfl h, fun _ => by simp⟩

/-- A timer is set. -/
def setT (s : TS) (p : Nat) (a : Int) : TS := ⟨s.now, s.last + 1, updT s.du p a, updT s.no p (s.last + 1)⟩
theorem TG.set {s : TS} (t : TG s) {p : Nat} {a : Int} (hp : p < 64) (h0 : s.no p = 0) (ha : s.now < a ∧ a ≤ 18446744073709551615) (hl : s.last < 18446744073709551615) : TG (setT s p a) := by
  have l0 := t.last0
  have n0 := t.now0
  refine ⟨t.now0, t.nowM, ?_, ?_, fun q => ?_, fun q => ?_, fun q => ?_, fun q => ?_, fun q r => ?_, fun q hq => ?_⟩
  · show 0 ≤ s.last + 1; omega
  · show s.last + 1 ≤ _; omega
  · show 0 ≤ updT s.no p (s.last + 1) q ∧ updT s.no p (s.last + 1) q ≤ s.last + 1
    have := t.no0 q
    unfold updT; split <;> omega
  · show 0 ≤ updT s.du p a q ∧ updT s.du p a q ≤ _
    have := t.du0 q
    unfold updT; split <;> omega
  · show updT s.no p (s.last + 1) q = 0 → updT s.du p a q = 0
    unfold updT; split
    · omega
    · exact t.zero q
  · show updT s.no p (s.last + 1) q ≠ 0 → s.now < updT s.du p a q
    unfold updT; split
    · intro _; exact ha.1
    · exact t.late q
  · show updT s.no p (s.last + 1) q = updT s.no p (s.last + 1) r → updT s.no p (s.last + 1) q ≠ 0 → q = r
    have h1 := t.no0 q
    have h2 := t.no0 r
    unfold updT
    split <;> split
    · omega
    · omega
    · omega
    · exact t.one q r
  · show updT s.no p (s.last + 1) q = 0
    rw [updT_ne _ _ (by omega)]
    exact t.big q hq
def addL (L : Nat → List Int) (j : Nat) (x : Int) : Nat → List Int := fun i => if i = j then L i ++ [x] else L i
theorem LI.set {n : Int} {s : TS} {L : Nat → List Int} (h : LI n s L) {p : Nat} {a : Int} (hp : p < 64) (h0 : s.no p = 0) (hl : 0 ≤ s.last) : LI n (setT s p a) (addL L (hJ n a) p) := by
  have hn : ∀ j, (p : Int) ∉ L j := fun j hm => by
    obtain ⟨q, hq, _, h1, _⟩ := h.mem j _ hm
    obtain rfl : p = q := by omega
    exact h1 h0
  have e1 : ∀ q, q ≠ p → (setT s p a).no q = s.no q ∧ (setT s p a).du q = s.du q := fun q hq => ⟨updT_ne _ _ hq, updT_ne _ _ hq⟩
  have e2 : (setT s p a).no p = s.last + 1 ∧ (setT s p a).du p = a := ⟨updT_same _ _ _, updT_same _ _ _⟩
  refine ⟨fun j x hx => ?_, fun q hq hq0 => ?_, fun j => ?_⟩
  · have hx' : x ∈ L j ∨ (j = hJ n a ∧ x = p) := by
      unfold addL at hx
      split at hx
      · rename_i hj
        rcases List.mem_append.1 hx with hx | hx
        · exact .inl hx
        · exact .inr ⟨hj, by simpa using hx⟩
      · exact .inl hx
    rcases hx' with hx' | ⟨rfl, rfl⟩
    · obtain ⟨q, rfl, h1, h2, h3⟩ := h.mem j x hx'
      have hqp : q ≠ p := fun e => h2 (e ▸ h0)
      exact ⟨q, rfl, h1, by rw [(e1 q hqp).1]; exact h2, by rw [(e1 q hqp).2]; exact h3⟩
    · exact ⟨p, rfl, hp, by rw [e2.1]; omega, by rw [e2.2]⟩
  · by_cases hqp : q = p
    · subst hqp
      rw [e2.2]
      unfold addL
      rw [if_pos rfl]
      simp
    · rw [(e1 q hqp).2]
      rw [(e1 q hqp).1] at hq0
      have := h.all q hq hq0
      unfold addL
      split
      · exact List.mem_append.2 (.inl this)
      · exact this
  · unfold addL
    split
    · rw [List.nodup_append]
      exact ⟨h.nodup j, by simp, fun x hx y hy e => by
        simp at hy
        subst hy e
        exact hn j hx⟩
    · exact h.nodup j

/-- A timer is none any more. -/
def canT (s : TS) (p : Nat) : TS := ⟨s.now, s.last, updT s.du p 0, updT s.no p 0⟩
theorem TG.can {s : TS} (t : TG s) (p : Nat) : TG (canT s p) := by
  refine ⟨t.now0, t.nowM, t.last0, t.lastM, fun q => ?_, fun q => ?_, fun q => ?_, fun q => ?_, fun q r => ?_, fun q hq => ?_⟩
  · show 0 ≤ updT s.no p 0 q ∧ updT s.no p 0 q ≤ s.last
    have := t.no0 q
    have := t.last0
    unfold updT; split <;> omega
  · show 0 ≤ updT s.du p 0 q ∧ updT s.du p 0 q ≤ _
    have := t.du0 q
    unfold updT; split <;> omega
  · show updT s.no p 0 q = 0 → updT s.du p 0 q = 0
    unfold updT; split
    · intro _; rfl
    · exact t.zero q
  · show updT s.no p 0 q ≠ 0 → s.now < updT s.du p 0 q
    unfold updT; split
    · intro h; exact absurd rfl h
    · exact t.late q
  · show updT s.no p 0 q = updT s.no p 0 r → updT s.no p 0 q ≠ 0 → q = r
    unfold updT
    split <;> split
    · omega
    · intro _ h; exact absurd rfl h
    · intro h1 h2; exact absurd h1 h2
    · exact t.one q r
  · show updT s.no p 0 q = 0
    unfold updT; split
    · rfl
    · exact t.big q hq
def delL (L : Nat → List Int) (j : Nat) (x : Int) : Nat → List Int := fun i => if i = j then (L i).filter (fun y => !decide (y = x)) else L i
theorem LI.can {n : Int} {s : TS} {L : Nat → List Int} (h : LI n s L) (p : Nat) : LI n (canT s p) (delL L (hJ n (s.du p)) p) := by
  have e1 : ∀ q, q ≠ p → (canT s p).no q = s.no q ∧ (canT s p).du q = s.du q := fun q hq => ⟨updT_ne _ _ hq, updT_ne _ _ hq⟩
  refine ⟨fun j x hx => ?_, fun q hq hq0 => ?_, fun j => ?_⟩
  · have hx' : x ∈ L j ∧ (j = hJ n (s.du p) → x ≠ p) := by
      unfold delL at hx
      split at hx
      · rw [List.mem_filter] at hx
        exact ⟨hx.1, fun _ => by simpa using hx.2⟩
      · rename_i hj
        exact ⟨hx, fun e => absurd e hj⟩
    obtain ⟨q, rfl, h1, h2, h3⟩ := h.mem j x hx'.1
    have hqp : q ≠ p := fun e => by subst e; exact hx'.2 h3.symm rfl
    exact ⟨q, rfl, h1, by rw [(e1 q hqp).1]; exact h2, by rw [(e1 q hqp).2]; exact h3⟩
  · have hqp : q ≠ p := fun e => by subst e; exact hq0 (updT_same _ _ _)
    rw [(e1 q hqp).1] at hq0
    rw [(e1 q hqp).2]
    have := h.all q hq hq0
    unfold delL
    split
    · rw [List.mem_filter]
      exact ⟨this, by simp; omega⟩
    · exact this
  · unfold delL
    split
    · exact (h.nodup j).filter _
    · exact h.nodup j

/-- One tick. -/
def turnT (s : TS) : TS := ⟨s.now + 1, s.last, fun p => if s.du p = s.now + 1 then 0 else s.du p, fun p => if s.du p = s.now + 1 then 0 else s.no p⟩
theorem TG.turn {s : TS} (t : TG s) (hn : s.now < 18446744073709551615) : TG (turnT s) := by
  have n0 := t.now0
  refine ⟨?_, ?_, t.last0, t.lastM, fun q => ?_, fun q => ?_, fun q => ?_, fun q => ?_, fun q r => ?_, fun q hq => ?_⟩
  · show 0 ≤ s.now + 1; omega
  · show s.now + 1 ≤ _; omega
  · show 0 ≤ (if _ then _ else s.no q) ∧ (if _ then _ else s.no q) ≤ s.last
    have := t.no0 q
    have := t.last0
    split <;> omega
  · show 0 ≤ (if _ then _ else s.du q) ∧ (if _ then _ else s.du q) ≤ _
    have := t.du0 q
    split <;> omega
  · show (if _ then _ else s.no q) = 0 → (if _ then _ else s.du q) = 0
    split
    · intro _; rfl
    · exact t.zero q
  · show (if _ then _ else s.no q) ≠ 0 → s.now + 1 < (if _ then _ else s.du q)
    split
    · intro h; exact absurd rfl h
    · intro h
      have := t.late q h
      omega
  · show (if _ then _ else s.no q) = (if _ then _ else s.no r) → (if _ then _ else s.no q) ≠ 0 → q = r
    split <;> split
    · intro _ h; exact absurd rfl h
    · intro _ h; exact absurd rfl h
    · intro h1 h2; exact absurd h1 h2
    · exact t.one q r
  · show (if _ then _ else s.no q) = 0
    split
    · rfl
    · exact t.big q hq
def nilL (L : Nat → List Int) (j : Nat) : Nat → List Int := fun i => if i = j then [] else L i
theorem LI.due {s : TS} {L : Nat → List Int} (h : LI (s.now + 1) s L) (t : TG s) (x : Int) : x ∈ L ((s.now + 1) % 64).toNat ↔ ∃ p : Nat, x = p ∧ p < 64 ∧ s.no p ≠ 0 ∧ s.du p = s.now + 1 := by
  have n0 := t.now0
  constructor
  · intro hx
    obtain ⟨p, rfl, h1, h2, h3⟩ := h.mem _ x hx
    exact ⟨p, rfl, h1, h2, hJ_low _ _ (by omega) h3⟩
  · rintro ⟨p, rfl, h1, h2, h3⟩
    have := h.all p h1 h2
    rwa [h3, hJ_now] at this
theorem LI.turn {s : TS} {L : Nat → List Int} (h : LI (s.now + 1) s L) (t : TG s) : LI (s.now + 1) (turnT s) (nilL L ((s.now + 1) % 64).toNat) := by
  have n0 := t.now0
  refine ⟨fun j x hx => ?_, fun q hq hq0 => ?_, fun j => ?_⟩
  · have hx' : x ∈ L j ∧ j ≠ ((s.now + 1) % 64).toNat := by
      unfold nilL at hx
      split at hx
      · simp at hx
      · rename_i hj; exact ⟨hx, hj⟩
    obtain ⟨p, rfl, h1, h2, h3⟩ := h.mem j x hx'.1
    have hd : s.du p ≠ s.now + 1 := fun e => hx'.2 (by rw [← h3, e, hJ_now])
    exact ⟨p, rfl, h1, by show (if _ then _ else s.no p) ≠ 0; rw [if_neg hd]; exact h2, by show hJ _ (if _ then _ else s.du p) = j; rw [if_neg hd]; exact h3⟩
  · have hd : s.du q ≠ s.now + 1 := fun e => hq0 (by show (if _ then _ else s.no q) = 0; rw [if_pos e])
    have hq0' : s.no q ≠ 0 := by
      have : (turnT s).no q = s.no q := by show (if _ then _ else s.no q) = _; rw [if_neg hd]
      rwa [this] at hq0
    rw [show (turnT s).du q = s.du q by show (if _ then _ else s.du q) = _; rw [if_neg hd]]
    unfold nilL
    rw [if_neg (fun e => hd (hJ_low _ _ (by omega) e))]
    exact h.all q hq hq0'
  · unfold nilL
    split
    · simp
    · exact h.nodup j

/-- Ticks in which nothing rings. -/
def advT (s : TS) (k : Int) : TS := ⟨s.now + k, s.last, s.du, s.no⟩
def Quiet (s : TS) (k : Int) : Prop := ∀ p, s.no p ≠ 0 → s.now + k < s.du p
theorem TG.adv {s : TS} (t : TG s) {k : Int} (hk : 0 ≤ k) (hM : s.now + k ≤ 18446744073709551615) (q : Quiet s k) : TG (advT s k) :=
  ⟨by have := t.now0; show 0 ≤ s.now + k; omega, hM, t.last0, t.lastM, t.no0, t.du0, t.zero, q, t.one, t.big⟩
theorem Quiet.step {s : TS} {k : Int} (t : TG s) (h0 : 0 ≤ s.now + k) (q : Quiet s k) {l : List Int} (hl : IsDue (advT s k) l) (hn : l = []) : Quiet s (k + 1) ∧ turnT (advT s k) = advT s (k + 1) := by
  have hne : ∀ p, s.no p ≠ 0 → s.du p ≠ s.now + k + 1 := fun p hp e => by
    have hp64 : p < 64 := by
      refine Classical.byContradiction fun h => hp (t.big p (by omega))
    have := (hl.2 p).2 ⟨p, rfl, hp64, hp, e⟩
    rw [hn] at this
    simp at this
  refine ⟨fun p hp => by have := q p hp; have := hne p hp; omega, ?_⟩
  have hd : ∀ p, s.du p ≠ s.now + k + 1 := fun p e => by
    by_cases hp : s.no p = 0
    · have := t.zero p hp; omega
    · exact hne p hp e
  unfold turnT advT
  congr 1
  · show s.now + k + 1 = s.now + (k + 1); omega
  · funext p; exact if_neg (hd p)
  · funext p; exact if_neg (hd p)
/-- How a Skip of n ticks ends: what rang, how many ticks, and the state behind it. -/
def SkipEnd (s : TS) (n : Int) (l : List Int) (x : Int) (s' : TS) : Prop :=
  (∃ k, 0 ≤ k ∧ k < n ∧ Quiet s k ∧ s.now + k < 18446744073709551615 ∧ IsDue (advT s k) l ∧ l ≠ [] ∧ x = k + 1 ∧ s' = turnT (advT s k)) ∨
  (0 ≤ x ∧ x ≤ n ∧ Quiet s x ∧ (x = n ∨ s.now + x = 18446744073709551615) ∧ s.now + x ≤ 18446744073709551615 ∧ l = [] ∧ s' = advT s x)
theorem due_some {s : TS} {l : List Int} (h : IsDue s l) (hn : l ≠ []) : ∃ p, s.no p ≠ 0 ∧ s.du p = s.now + 1 := by
  cases l with
  | nil => exact absurd rfl hn
  | cons x r =>
    obtain ⟨p, _, _, h1, h2⟩ := (h.2 x).1 (by simp)
    exact ⟨p, h1, h2⟩
theorem SkipEnd.uniq {s : TS} {n : Int} {l l' : List Int} {x x' : Int} {s1 s2 : TS} (h : SkipEnd s n l x s1) (h' : SkipEnd s n l' x' s2) : l = l' ∧ x = x' ∧ s1 = s2 := by
  rcases h with ⟨k, a0, a1, a2, a3, a4, a5, rfl, rfl⟩ | ⟨a0, a1, a2, a3, a4, rfl, rfl⟩ <;> rcases h' with ⟨k', b0, b1, b2, b3, b4, b5, rfl, rfl⟩ | ⟨b0, b1, b2, b3, b4, rfl, rfl⟩
  · obtain ⟨p, hp, hp2⟩ := due_some a4 a5
    obtain ⟨q, hq, hq2⟩ := due_some b4 b5
    have e1 := b2 p hp
    have e2 := a2 q hq
    have f1 : s.du p = s.now + k + 1 := hp2
    have f2 : s.du q = s.now + k' + 1 := hq2
    obtain rfl : k = k' := by omega
    exact ⟨a4.uniq b4, rfl, rfl⟩
  · obtain ⟨p, hp, hp2⟩ := due_some a4 a5
    have e1 := b2 p hp
    have f1 : s.du p = s.now + k + 1 := hp2
    omega
  · obtain ⟨p, hp, hp2⟩ := due_some b4 b5
    have e1 := a2 p hp
    have f1 : s.du p = s.now + k' + 1 := hp2
    omega
  · obtain rfl : x = x' := by omega
    exact ⟨rfl, rfl, rfl⟩
end Go.Proofs.Ytbeoomjcipbjjaa
