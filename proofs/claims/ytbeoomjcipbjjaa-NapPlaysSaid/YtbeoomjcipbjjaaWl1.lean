/- The timer wheel as plain numbers and lists: where a timer stands, what a cascade lays anew, what a turn rings. No program, no conditions. -/
namespace Go.Proofs.Ytbeoomjcipbjjaa
set_option linter.unusedVariables false

/-- The time, the last number, and each place's timer: when it is due, and its number (0: none). -/
structure TS where
  now : Int
  last : Int
  du : Nat → Int
  no : Nat → Int
def topT : Int := 18446744073709551615
/-- What always holds. -/
structure TG (s : TS) : Prop where
  now0 : 0 ≤ s.now
  nowM : s.now ≤ 18446744073709551615
  last0 : 0 ≤ s.last
  lastM : s.last ≤ 18446744073709551615
  no0 : ∀ p, 0 ≤ s.no p ∧ s.no p ≤ s.last
  du0 : ∀ p, 0 ≤ s.du p ∧ s.du p ≤ 18446744073709551615
  zero : ∀ p, s.no p = 0 → s.du p = 0
  late : ∀ p, s.no p ≠ 0 → s.now < s.du p
  one : ∀ p q, s.no p = s.no q → s.no p ≠ 0 → p = q
  big : ∀ p, 64 ≤ p → s.no p = 0

/-- The list in which a timer stands that is due at a, the time being n: 64 * level + slot; 256: far. -/
def hJ (n a : Int) : Nat :=
  if a / 64 = n / 64 then (a % 64).toNat
  else if a / 4096 = n / 4096 then 64 + (a / 64 % 64).toNat
  else if a / 262144 = n / 262144 then 128 + (a / 4096 % 64).toNat
  else if a / 16777216 = n / 16777216 then 192 + (a / 262144 % 64).toNat
  else 256
theorem hJ_lt (n a : Int) : hJ n a < 257 := by unfold hJ; split <;> (try split) <;> (try split) <;> (try split) <;> omega
/-- The lists whose time has come. -/
def casc (n : Int) : List Nat :=
  if n % 64 ≠ 0 then [] else (64 + (n / 64 % 64).toNat) :: (if n % 4096 ≠ 0 then [] else (128 + (n / 4096 % 64).toNat) :: (if n % 262144 ≠ 0 then [] else (192 + (n / 262144 % 64).toNat) :: (if n % 16777216 ≠ 0 then [] else [256])))
theorem home_step (m a : Int) (h : m + 1 ≤ a) : hJ m a ∈ casc (m + 1) ∨ hJ (m + 1) a = hJ m a := by
  by_cases h1 : (m + 1) % 64 ≠ 0
  · right
    unfold hJ
    rw [show (m + 1) / 64 = m / 64 by omega, show (m + 1) / 4096 = m / 4096 by omega, show (m + 1) / 262144 = m / 262144 by omega, show (m + 1) / 16777216 = m / 16777216 by omega]
  · have n1 : ¬ a / 64 = m / 64 := by omega
    by_cases h2 : (m + 1) % 4096 ≠ 0
    · unfold casc hJ
      rw [if_neg n1, if_neg h1, if_pos h2, show (m + 1) / 4096 = m / 4096 by omega, show (m + 1) / 262144 = m / 262144 by omega, show (m + 1) / 16777216 = m / 16777216 by omega]
      by_cases e : a / 64 = (m + 1) / 64
      · left
        rw [if_pos (by omega), e]
        simp
      · right
        rw [if_neg e]
    · have n2 : ¬ a / 4096 = m / 4096 := by omega
      by_cases h3 : (m + 1) % 262144 ≠ 0
      · unfold casc hJ
        rw [if_neg n1, if_neg n2, if_neg h1, if_neg h2, if_pos h3, show (m + 1) / 262144 = m / 262144 by omega, show (m + 1) / 16777216 = m / 16777216 by omega]
        by_cases e : a / 4096 = (m + 1) / 4096
        · left
          rw [if_pos (by omega), e]
          simp
        · right
          rw [if_neg (show ¬ a / 64 = (m + 1) / 64 by omega), if_neg e]
      · have n3 : ¬ a / 262144 = m / 262144 := by omega
        by_cases h4 : (m + 1) % 16777216 ≠ 0
        · unfold casc hJ
          rw [if_neg n1, if_neg n2, if_neg n3, if_neg h1, if_neg h2, if_neg h3, if_pos h4, show (m + 1) / 16777216 = m / 16777216 by omega]
          by_cases e : a / 262144 = (m + 1) / 262144
          · left
            rw [if_pos (by omega), e]
            simp
          · right
            rw [if_neg (show ¬ a / 64 = (m + 1) / 64 by omega), if_neg (show ¬ a / 4096 = (m + 1) / 4096 by omega), if_neg e]
        · have n4 : ¬ a / 16777216 = m / 16777216 := by omega
          unfold casc hJ
          rw [if_neg n1, if_neg n2, if_neg n3, if_neg n4, if_neg h1, if_neg h2, if_neg h3, if_neg h4]
          left; simp
theorem casc_nodup (n : Int) : (casc n).Nodup := by
  unfold casc
  split
  · simp
  · split
    · simp
    · split
      · simp; omega
      · split
        · simp; omega
        · simp; omega
theorem casc_lt (n : Int) : ∀ j ∈ casc n, 64 ≤ j ∧ j < 257 := by
  unfold casc
  intro j hj
  split at hj
  · simp at hj
  · split at hj
    · simp at hj; omega
    · split at hj
      · simp at hj; omega
      · split at hj
        · simp at hj; omega
        · simp at hj; omega
/-- Who stands in the lowest level's list of the time is due now. -/
theorem hJ_low (n a : Int) (hn : 0 ≤ n) (h : hJ n a = (n % 64).toNat) : a = n := by
  unfold hJ at h
  split at h
  · omega
  · split at h
    · omega
    · split at h
      · omega
      · split at h <;> omega
theorem hJ_now (n : Int) : hJ n n = (n % 64).toNat := by unfold hJ; rw [if_pos rfl]

/-- In which list each timer stands, once. -/
structure LI (n : Int) (s : TS) (L : Nat → List Int) : Prop where
  mem : ∀ j, ∀ x ∈ L j, ∃ p : Nat, x = p ∧ p < 64 ∧ s.no p ≠ 0 ∧ hJ n (s.du p) = j
  all : ∀ p : Nat, p < 64 → s.no p ≠ 0 → (p : Int) ∈ L (hJ n (s.du p))
  nodup : ∀ j, (L j).Nodup
/-- The lists behind a cascade: the ones whose time has come are empty, and all that stood in them is laid anew. -/
def looseL (n : Int) (L : Nat → List Int) : List Int := (casc n).flatMap L
def emptyL (n : Int) (L : Nat → List Int) : Nat → List Int := fun j => if j ∈ casc n then [] else L j
def laidL (n : Int) (s : TS) (L : Nat → List Int) (R : List Int) : Nat → List Int := fun j => L j ++ R.filter fun x => decide (hJ n (s.du x.toNat) = j)
def cascL (n : Int) (s : TS) (L : Nat → List Int) : Nat → List Int := laidL n s (emptyL n L) (looseL n L)
theorem loose_mem {n : Int} {L : Nat → List Int} {x : Int} : x ∈ looseL n L ↔ ∃ j ∈ casc n, x ∈ L j := by simp [looseL, List.mem_flatMap]
theorem LI.casc {s : TS} {L : Nat → List Int} {m : Int} (h : LI m s L) (hl : ∀ p, s.no p ≠ 0 → m < s.du p) : LI (m + 1) s (cascL (m + 1) s L) := by
  refine ⟨fun j x hx => ?_, fun p hp h0 => ?_, fun j => ?_⟩
  · rcases List.mem_append.1 hx with hx | hx
    · unfold emptyL at hx
      split at hx
      · simp at hx
      · rename_i hj
        obtain ⟨p, rfl, h1, h2, h3⟩ := h.mem j x hx
        rcases home_step m (s.du p) (by have := hl p h2; omega) with h4 | h4
        · rw [h3] at h4; exact absurd h4 hj
        · exact ⟨p, rfl, h1, h2, by rw [h4, h3]⟩
    · rw [List.mem_filter] at hx
      obtain ⟨hx, hj⟩ := hx
      obtain ⟨j', _, hx⟩ := loose_mem.1 hx
      obtain ⟨p, rfl, h1, h2, h3⟩ := h.mem j' x hx
      exact ⟨p, rfl, h1, h2, by simpa using hj⟩
  · have hm := h.all p hp h0
    rcases home_step m (s.du p) (by have := hl p h0; omega) with h4 | h4
    · refine List.mem_append.2 (.inr (List.mem_filter.2 ⟨loose_mem.2 ⟨_, h4, hm⟩, by simp⟩))
    · by_cases h5 : hJ m (s.du p) ∈ Ytbeoomjcipbjjaa.casc (m + 1)
      · refine List.mem_append.2 (.inr (List.mem_filter.2 ⟨loose_mem.2 ⟨_, h5, hm⟩, by simp⟩))
      · refine List.mem_append.2 (.inl ?_)
        unfold emptyL
        rw [h4, if_neg h5]
        exact hm
  · unfold cascL laidL
    rw [List.nodup_append]
    refine ⟨?_, ?_, ?_⟩
    · unfold emptyL; split
      · simp
      · exact h.nodup j
    · refine List.Pairwise.filter _ ?_
      unfold looseL
      rw [List.pairwise_flatMap]
      refine ⟨fun j' _ => h.nodup j', (casc_nodup (m + 1)).imp fun {a b} hab x hx y hy e => ?_⟩
      subst e
      obtain ⟨p, hp, _, _, h1⟩ := h.mem a x hx
      obtain ⟨q, hq, _, _, h2⟩ := h.mem b x hy
      obtain rfl : p = q := by omega
      exact hab (h1.symm.trans h2)
    · intro x hx y hy e
      subst e
      unfold emptyL at hx
      split at hx
      · simp at hx
      · rename_i hj
        rw [List.mem_filter] at hy
        obtain ⟨j', hj', hy⟩ := loose_mem.1 hy.1
        obtain ⟨p, hp, _, _, h1⟩ := h.mem j x hx
        obtain ⟨q, hq, _, _, h2⟩ := h.mem j' x hy
        obtain rfl : p = q := by omega
        rw [h1] at h2
        subst h2
        exact hj hj'

/-- What rings in the turn from the time s.now: in the order of the numbers. -/
def IsDue (s : TS) (l : List Int) : Prop := l.Pairwise (fun x y => s.no x.toNat < s.no y.toNat) ∧ ∀ x : Int, x ∈ l ↔ ∃ p : Nat, x = p ∧ p < 64 ∧ s.no p ≠ 0 ∧ s.du p = s.now + 1
/-- Rings a timer ahead of another one? -/
def aheadT (s : TS) (x y : Nat) : Prop := s.du x < s.du y ∨ (s.du x = s.du y ∧ s.no x < s.no y)
def IsAll (s : TS) (l : List Int) : Prop := l.Pairwise (fun x y => aheadT s x.toNat y.toNat) ∧ ∀ x : Int, x ∈ l ↔ ∃ p : Nat, x = p ∧ p < 64 ∧ s.no p ≠ 0
/-- Two rows of the same elements, both in one strict order, are one. -/
theorem sorted_one (R : Int → Int → Prop) (hirr : ∀ x, ¬ R x x) (has : ∀ x y, R x y → ¬ R y x) : ∀ l l' : List Int, l.Pairwise R → l'.Pairwise R → (∀ x, x ∈ l ↔ x ∈ l') → l = l'
  | [], [], _, _, _ => rfl
  | [], y :: r, _, _, h => by have := (h y).2 (by simp); simp at this
  | x :: r, [], _, _, h => by have := (h x).1 (by simp); simp at this
  | x :: r, y :: t, h1, h2, h => by
    rw [List.pairwise_cons] at h1 h2
    have e : x = y := by
      rcases List.mem_cons.1 ((h x).1 (by simp)) with h3 | h3
      · exact h3
      · rcases List.mem_cons.1 ((h y).2 (by simp)) with h4 | h4
        · exact h4.symm
        · exact absurd (h1.1 y h4) (has _ _ (h2.1 x h3))
    subst e
    rw [sorted_one R hirr has r t h1.2 h2.2 fun z => ?_]
    constructor
    · intro hz
      rcases List.mem_cons.1 ((h z).1 (List.mem_cons_of_mem _ hz)) with h3 | h3
      · subst h3; exact absurd (h1.1 z hz) (hirr z)
      · exact h3
    · intro hz
      rcases List.mem_cons.1 ((h z).2 (List.mem_cons_of_mem _ hz)) with h3 | h3
      · subst h3; exact absurd (h2.1 z hz) (hirr z)
      · exact h3
theorem IsDue.uniq {s : TS} {l l' : List Int} (h : IsDue s l) (h' : IsDue s l') : l = l' :=
  sorted_one (fun x y => s.no x.toNat < s.no y.toNat) (fun x => by omega) (fun x y => by omega) l l' h.1 h'.1 (fun x => (h.2 x).trans (h'.2 x).symm)
theorem IsAll.uniq {s : TS} {l l' : List Int} (h : IsAll s l) (h' : IsAll s l') : l = l' :=
  sorted_one (fun x y => aheadT s x.toNat y.toNat) (fun x => by unfold aheadT; omega) (fun x y => by unfold aheadT; omega) l l' h.1 h'.1 (fun x => (h.2 x).trans (h'.2 x).symm)
/-- A list of different places is not long. -/
theorem nodup_le : ∀ (n : Nat) (l : List Int), l.Nodup → (∀ x ∈ l, 0 ≤ x ∧ x < n) → l.length ≤ n
  | 0, l, _, h => by
    cases l with
    | nil => simp
    | cons x r => have := h x (by simp); omega
  | n + 1, l, hn, h => by
    have h1 := nodup_le n (l.erase (n : Int)) (hn.erase _) (fun x hx => by
      rw [hn.mem_erase_iff] at hx
      have := h x hx.2
      have := hx.1
      omega)
    by_cases hm : (n : Int) ∈ l
    · have := List.length_erase_of_mem hm; omega
    · rw [List.erase_of_not_mem hm] at h1; omega
theorem LI.len {n : Int} {s : TS} {L : Nat → List Int} (h : LI n s L) (j : Nat) : (L j).length ≤ 64 := nodup_le 64 _ (h.nodup j) (fun x hx => by
  obtain ⟨p, rfl, h1, _⟩ := h.mem j x hx; omega)
theorem IsDue.len {s : TS} {l : List Int} (h : IsDue s l) : l.length ≤ 64 := nodup_le 64 _ (h.1.imp fun {a b} hab => by rintro rfl; omega) (fun x hx => by
  obtain ⟨p, rfl, h1, _⟩ := (h.2 x).1 hx; omega)
theorem IsAll.len {s : TS} {l : List Int} (h : IsAll s l) : l.length ≤ 64 := nodup_le 64 _ (h.1.imp fun {a b} hab => by rintro rfl; unfold aheadT at hab; omega) (fun x hx => by
  obtain ⟨p, rfl, h1, _⟩ := (h.2 x).1 hx; omega)
end Go.Proofs.Ytbeoomjcipbjjaa
