/- Naps as plain numbers and lists (chapter 27): what the program keeps, what the document keeps, and how both go together. No program, no conditions. -/
import Derived.Test.YtbeoomjcipbjjaaWl2
namespace Go.Proofs.Ytbeoomjcipbjjaa
set_option linter.unusedVariables false

/-- A nap of the document's row. -/
structure NE where
  pl : Nat
  kd : Int
  ti : Int
  nv : Bool
/-- What always holds of the program's timers and kinds. -/
structure NK (s : TS) (K : Nat → Int) : Prop where
  tg : TG s
  kb : ∀ p, K p = 0 ∨ K p = 1 ∨ K p = 2
  big : ∀ p, 64 ≤ p → K p = 0
  tim : ∀ p, s.no p ≠ 0 → K p ≠ 0
/-- The program's state and the document's row. -/
structure NR (s : TS) (K : Nat → Int) (D : List NE) : Prop where
  nk : NK s K
  mem : ∀ x ∈ D, x.pl < 64 ∧ K x.pl = x.kd ∧ x.kd ≠ 0 ∧ (0 ≤ x.ti ∧ x.ti ≤ 18446744073709551615) ∧ (x.nv = true → s.no x.pl = 0 ∧ x.ti = 18446744073709551615 ∧ s.now = 18446744073709551615) ∧ (x.nv = false → s.no x.pl ≠ 0 ∧ s.du x.pl = x.ti)
  all : ∀ p, K p ≠ 0 → ∃ x ∈ D, x.pl = p
  ord : D.Pairwise (fun x y => x.pl ≠ y.pl ∧ (x.nv = false → y.nv = false → s.no x.pl < s.no y.pl))
/-- The time at which a nap ends. -/
def addT (n t : Int) : Int := if 18446744073709551615 < n + t then 18446744073709551615 else n + t
def begT (s : TS) (p : Nat) (a : Int) : TS := if a ≤ s.now then s else setT s p a
theorem NK.new {n : Int} (h : 0 ≤ n ∧ n ≤ 18446744073709551615) : NK (newS n) (fun _ => 0) := ⟨newS_tg h, fun _ => .inl rfl, fun _ _ => rfl, fun _ h => absurd rfl h⟩
theorem NR.new {n : Int} (h : 0 ≤ n ∧ n ≤ 18446744073709551615) : NR (newS n) (fun _ => 0) [] := ⟨NK.new h, by simp, fun _ h => absurd rfl h, List.Pairwise.nil⟩
theorem NK.no0 {s : TS} {K : Nat → Int} (h : NK s K) {p : Nat} (h0 : K p = 0) : s.no p = 0 := Classical.byContradiction fun e => h.tim p e h0
theorem addT_b {n t : Int} (hn : 0 ≤ n ∧ n ≤ 18446744073709551615) (ht : 0 ≤ t) : n ≤ addT n t ∧ addT n t ≤ 18446744073709551615 := by unfold addT; split <;> omega
theorem addT_eq {n t : Int} (hn : 0 ≤ n ∧ n ≤ 18446744073709551615) (ht : 0 < t) : addT n t ≤ n ↔ n = 18446744073709551615 := by unfold addT; split <;> omega
theorem begT_now (s : TS) (p : Nat) (a : Int) : (begT s p a).now = s.now := by unfold begT; split <;> rfl
theorem begT_last (s : TS) (p : Nat) (a : Int) : (begT s p a).last ≤ s.last + 1 := by
  unfold begT; split
  · omega
  · exact Int.le_refl _
theorem NK.begin {s : TS} {K : Nat → Int} (h : NK s K) {p : Nat} {kd a : Int} (hp : p < 64) (hk : kd = 1 ∨ kd = 2) (h0 : K p = 0) (ha : s.now ≤ a ∧ a ≤ 18446744073709551615) (hl : s.last < 18446744073709551615) : NK (begT s p a) (updT K p kd) := by
  refine ⟨?_, fun q => ?_, fun q hq => ?_, fun q => ?_⟩
  · unfold begT
    split
    · exact h.tg
    · exact h.tg.set hp (h.no0 h0) ⟨by omega, ha.2⟩ hl
  · unfold updT
    split
    · exact .inr hk
    · exact h.kb q
  · rw [updT_ne _ _ (by omega)]; exact h.big q hq
  · unfold begT updT
    by_cases e : q = p
    · rw [if_pos e]; omega
    · rw [if_neg e]
      split
      · exact h.tim q
      · show updT s.no p (s.last + 1) q ≠ 0 → _
        rw [updT_ne _ _ e]; exact h.tim q
theorem NR.begin {s : TS} {K : Nat → Int} {D : List NE} (h : NR s K D) {p : Nat} {kd t : Int} (hp : p < 64) (hk : kd = 1 ∨ kd = 2) (h0 : K p = 0) (ht : 0 < t) (hl : s.last < 18446744073709551615) :
    NR (begT s p (addT s.now t)) (updT K p kd) (D ++ [⟨p, kd, addT s.now t, decide (addT s.now t = s.now)⟩]) := by
  have hb : 0 ≤ s.now ∧ s.now ≤ 18446744073709551615 := ⟨h.nk.tg.now0, h.nk.tg.nowM⟩
  have ha := addT_b (t := t) hb (by omega)
  have hne : ∀ x ∈ D, x.pl ≠ p := fun x hx e => by
    obtain ⟨_, h2, h3, _⟩ := h.mem x hx
    rw [e] at h2; omega
  have hq : ∀ q, q ≠ p → (begT s p (addT s.now t)).no q = s.no q ∧ (begT s p (addT s.now t)).du q = s.du q := fun q e => by
    unfold begT; split
    · exact ⟨rfl, rfl⟩
    · exact ⟨updT_ne _ _ e, updT_ne _ _ e⟩
  refine ⟨h.nk.begin hp hk h0 ha hl, fun x hx => ?_, fun q hq0 => ?_, ?_⟩
  · rcases List.mem_append.1 hx with hx | hx
    · obtain ⟨m1, m2, m3, m4, m5, m6⟩ := h.mem x hx
      have e := hne x hx
      rw [updT_ne _ _ e, (hq _ e).1, (hq _ e).2, begT_now]
      exact ⟨m1, m2, m3, m4, m5, m6⟩
    · simp at hx
      subst hx
      rw [updT_same, begT_now]
      refine ⟨hp, rfl, by show kd ≠ 0; omega, ⟨by show 0 ≤ addT s.now t; omega, ha.2⟩, fun e => ?_, fun e => ?_⟩
      · simp only [decide_eq_true_eq] at e
        have hm := (addT_eq hb ht).1 (by omega)
        refine ⟨?_, ?_, hm⟩
        · unfold begT; rw [if_pos (by omega)]; exact h.nk.no0 h0
        · show addT s.now t = _; omega
      · simp only [decide_eq_false_iff_not] at e
        unfold begT; rw [if_neg (by omega)]
        refine ⟨?_, ?_⟩
        · show updT s.no p (s.last + 1) p ≠ 0
          rw [updT_same]; have := h.nk.tg.last0; omega
        · exact updT_same _ _ _
  · by_cases e : q = p
    · exact ⟨_, List.mem_append_right _ (List.mem_singleton.2 rfl), e.symm⟩
    · rw [updT_ne _ _ e] at hq0
      obtain ⟨x, hx, hxp⟩ := h.all q hq0
      exact ⟨x, List.mem_append_left _ hx, hxp⟩
  · rw [List.pairwise_append]
    refine ⟨?_, by simp, fun x hx y hy => ?_⟩
    · refine h.ord.imp_of_mem fun {x y} hx hy hxy => ?_
      rw [(hq _ (hne x hx)).1, (hq _ (hne y hy)).1]
      exact hxy
    · simp at hy
      subst hy
      refine ⟨hne x hx, fun h1 h2 => ?_⟩
      rw [(hq _ (hne x hx)).1]
      simp only [decide_eq_false_iff_not] at h2
      unfold begT; rw [if_neg (by omega)]
      show s.no x.pl < updT s.no p (s.last + 1) p
      rw [updT_same]
      have := (h.nk.tg.no0 x.pl).2
      omega
/-- A nap is ended. -/
def canN (s : TS) (p : Nat) : TS := if s.no p ≠ 0 then canT s p else s
theorem canN_last (s : TS) (p : Nat) : (canN s p).last = s.last := by unfold canN; split <;> rfl
theorem canN_now (s : TS) (p : Nat) : (canN s p).now = s.now := by unfold canN; split <;> rfl
theorem canN_no (s : TS) (p : Nat) : (canN s p).no p = 0 := by
  unfold canN; split
  · exact updT_same _ _ _
  · rename_i h; simpa using h
theorem NK.cancel {s : TS} {K : Nat → Int} (h : NK s K) (p : Nat) : NK (canN s p) (updT K p 0) := by
  refine ⟨?_, fun q => ?_, fun q hq => ?_, fun q hq => ?_⟩
  · unfold canN; split
    · exact h.tg.can p
    · exact h.tg
  · unfold updT; split
    · exact .inl rfl
    · exact h.kb q
  · unfold updT; split
    · rfl
    · exact h.big q hq
  · by_cases e : q = p
    · subst e; exact absurd (canN_no s q) hq
    · rw [updT_ne _ _ e]
      refine h.tim q fun h1 => hq ?_
      unfold canN; split
      · show updT s.no p 0 q = 0; rw [updT_ne _ _ e]; exact h1
      · exact h1
theorem NR.cancel {s : TS} {K : Nat → Int} {D : List NE} (h : NR s K D) (p : Nat) : NR (canN s p) (updT K p 0) (D.filter fun x => !decide (x.pl = p)) := by
  have hq : ∀ q, q ≠ p → (canN s p).no q = s.no q ∧ (canN s p).du q = s.du q := fun q e => by
    unfold canN; split
    · exact ⟨updT_ne _ _ e, updT_ne _ _ e⟩
    · exact ⟨rfl, rfl⟩
  refine ⟨h.nk.cancel p, fun x hx => ?_, fun q hq0 => ?_, ?_⟩
  · rw [List.mem_filter] at hx
    have e : x.pl ≠ p := by simpa using hx.2
    rw [updT_ne _ _ e, (hq _ e).1, (hq _ e).2, canN_now]
    exact h.mem x hx.1
  · by_cases e : q = p
    · subst e; exact absurd (updT_same K q 0) hq0
    · rw [updT_ne _ _ e] at hq0
      obtain ⟨x, hx, hxp⟩ := h.all q hq0
      exact ⟨x, List.mem_filter.2 ⟨hx, by simp; omega⟩, hxp⟩
  · refine (h.ord.filter _).imp_of_mem fun {x y} hx hy hxy => ?_
    rw [List.mem_filter] at hx hy
    rw [(hq _ (by simpa using hx.2)).1, (hq _ (by simpa using hy.2)).1]
    exact hxy
theorem cut_filter {s : TS} : ∀ {D : List NE} {i : Nat} {x : NE} (h : D.Pairwise (fun x y => x.pl ≠ y.pl ∧ (x.nv = false → y.nv = false → s.no x.pl < s.no y.pl))) (hi : D[i]? = some x), D.take i ++ D.drop (i + 1) = D.filter fun y => !decide (y.pl = x.pl)
  | [], i, x, h, hi => by simp at hi
  | y :: r, 0, x, h, hi => by
    simp at hi
    subst hi
    rw [List.pairwise_cons] at h
    simp only [List.take_zero, List.nil_append, List.drop_succ_cons, List.drop_zero]
    rw [List.filter_cons_of_neg (by simp)]
    symm
    rw [List.filter_eq_self]
    intro z hz
    have := (h.1 z hz).1
    simp; omega
  | y :: r, i + 1, x, h, hi => by
    rw [List.pairwise_cons] at h
    simp only [List.getElem?_cons_succ] at hi
    have hx : x ∈ r := List.mem_of_getElem? hi
    have := (h.1 x hx).1
    rw [List.filter_cons_of_pos (by simpa using this), ← cut_filter h.2 hi]
    rfl
/-- Which naps end with the tick at s.now. -/
def dueE (s : TS) (x : NE) : Bool := decide (x.ti = s.now + 1) && !x.nv
def tickK (s : TS) (K : Nat → Int) : Nat → Int := fun p => if s.no p ≠ 0 ∧ s.du p = s.now + 1 then 0 else K p
theorem dueE_iff {s : TS} {K : Nat → Int} {D : List NE} (h : NR s K D) (hM : s.now < 18446744073709551615) {x : NE} (hx : x ∈ D) : dueE s x = true ↔ s.no x.pl ≠ 0 ∧ s.du x.pl = s.now + 1 := by
  obtain ⟨m1, m2, m3, m4, m5, m6⟩ := h.mem x hx
  have hnv : x.nv = false := by
    cases e : x.nv
    · rfl
    · have := (m5 e).2.2; omega
  unfold dueE
  rw [hnv]
  have := m6 hnv
  simp only [Bool.not_false, Bool.and_true, decide_eq_true_eq]
  omega
theorem NR.due {s : TS} {K : Nat → Int} {D : List NE} (h : NR s K D) (hM : s.now < 18446744073709551615) : IsDue s ((D.filter (dueE s)).map fun x => (x.pl : Int)) := by
  constructor
  · rw [List.pairwise_map]
    refine (h.ord.filter _).imp_of_mem fun {x y} hx hy hxy => ?_
    rw [List.mem_filter] at hx hy
    simp only [Int.toNat_natCast]
    refine hxy.2 ?_ ?_
    · have := hx.2; unfold dueE at this; simp at this; exact this.2
    · have := hy.2; unfold dueE at this; simp at this; exact this.2
  · intro z
    simp only [List.mem_map, List.mem_filter]
    constructor
    · rintro ⟨x, ⟨hx, hd⟩, rfl⟩
      have := (dueE_iff h hM hx).1 hd
      exact ⟨x.pl, rfl, (h.mem x hx).1, this.1, this.2⟩
    · rintro ⟨p, rfl, hp, h1, h2⟩
      obtain ⟨x, hx, rfl⟩ := h.all p (h.nk.tim p h1)
      exact ⟨x, ⟨hx, (dueE_iff h hM hx).2 ⟨h1, h2⟩⟩, rfl⟩
theorem turn_no {s : TS} (t : TG s) (p : Nat) : (turnT s).no p = if s.no p ≠ 0 ∧ s.du p = s.now + 1 then 0 else s.no p := by
  show (if s.du p = s.now + 1 then 0 else s.no p) = _
  by_cases h : s.du p = s.now + 1
  · rw [if_pos h]
    by_cases h2 : s.no p = 0
    · rw [if_neg (by simp [h2])]; exact h2.symm
    · rw [if_pos ⟨h2, h⟩]
  · rw [if_neg h, if_neg (by simp [h])]
theorem NK.tick {s : TS} {K : Nat → Int} (h : NK s K) (hM : s.now < 18446744073709551615) : NK (turnT s) (tickK s K) := by
  refine ⟨h.tg.turn hM, fun p => ?_, fun p hp => ?_, fun p => ?_⟩
  · unfold tickK; split
    · exact .inl rfl
    · exact h.kb p
  · unfold tickK; split
    · rfl
    · exact h.big p hp
  · rw [turn_no h.tg]
    unfold tickK; split
    · intro e; exact absurd rfl e
    · exact h.tim p
theorem NR.tick {s : TS} {K : Nat → Int} {D : List NE} (h : NR s K D) (hM : s.now < 18446744073709551615) : NR (turnT s) (tickK s K) (D.filter fun x => !dueE s x) := by
  have key : ∀ x ∈ D, (!dueE s x) = true → (turnT s).no x.pl = s.no x.pl ∧ (turnT s).du x.pl = s.du x.pl ∧ tickK s K x.pl = K x.pl := fun x hx hd => by
    have hn : ¬ (s.no x.pl ≠ 0 ∧ s.du x.pl = s.now + 1) := fun e => by rw [(dueE_iff h hM hx).2 e] at hd; simp at hd
    refine ⟨?_, ?_, ?_⟩
    · rw [turn_no h.nk.tg, if_neg hn]
    · show (if s.du x.pl = s.now + 1 then 0 else s.du x.pl) = _
      by_cases e : s.du x.pl = s.now + 1
      · have h0 : s.no x.pl = 0 := Classical.byContradiction fun e2 => hn ⟨e2, e⟩
        have := h.nk.tg.zero _ h0
        rw [if_pos e, this]
      · rw [if_neg e]
    · unfold tickK; rw [if_neg hn]
  refine ⟨h.nk.tick hM, fun x hx => ?_, fun p hp => ?_, ?_⟩
  · rw [List.mem_filter] at hx
    obtain ⟨k1, k2, k3⟩ := key x hx.1 hx.2
    obtain ⟨m1, m2, m3, m4, m5, m6⟩ := h.mem x hx.1
    rw [k1, k2, k3]
    exact ⟨m1, m2, m3, m4, fun e => by have := (m5 e).2.2; omega, m6⟩
  · unfold tickK at hp
    split at hp
    · exact absurd rfl hp
    · rename_i hn
      obtain ⟨x, hx, rfl⟩ := h.all p hp
      refine ⟨x, List.mem_filter.2 ⟨hx, ?_⟩, rfl⟩
      cases e : dueE s x
      · rfl
      · exact absurd ((dueE_iff h hM hx).1 e) hn
  · refine (h.ord.filter _).imp_of_mem fun {x y} hx hy hxy => ?_
    rw [List.mem_filter] at hx hy
    rw [(key x hx.1 hx.2).1, (key y hy.1 hy.2).1]
    exact hxy
/-- How many nap. -/
def cntK (K : Nat → Int) : Nat → Nat
  | 0 => 0
  | i + 1 => if K i ≠ 0 then cntK K i + 1 else cntK K i
theorem cntK_le (K : Nat → Int) : ∀ i, cntK K i ≤ i
  | 0 => Nat.le_refl _
  | i + 1 => by have := cntK_le K i; unfold cntK; split <;> omega
theorem cntK_range (K : Nat → Int) : ∀ i, cntK K i = ((List.range i).filter fun p => decide (K p ≠ 0)).length
  | 0 => rfl
  | i + 1 => by
    rw [List.range_succ, List.filter_append, List.length_append, ← cntK_range K i]
    show (if K i ≠ 0 then cntK K i + 1 else cntK K i) = _
    by_cases h : K i = 0
    · rw [if_neg (by simpa using h)]; simp [h]
    · rw [if_pos h]; simp [h]
theorem nodup_len : ∀ l l' : List Nat, l.Nodup → l'.Nodup → (∀ x, x ∈ l ↔ x ∈ l') → l.length = l'.length
  | [], l', _, _, h => by
    cases l' with
    | nil => rfl
    | cons y r => have := (h y).2 (by simp); simp at this
  | x :: r, l', h1, h2, h => by
    rw [List.nodup_cons] at h1
    have hx : x ∈ l' := (h x).1 (by simp)
    have := nodup_len r (l'.erase x) h1.2 (h2.erase _) (fun y => by
      rw [h2.mem_erase_iff]
      constructor
      · intro hy
        exact ⟨fun e => h1.1 (e ▸ hy), (h y).1 (List.mem_cons_of_mem _ hy)⟩
      · rintro ⟨hy, hy2⟩
        rcases List.mem_cons.1 ((h y).2 hy2) with e | e
        · exact absurd e hy
        · exact e)
    rw [List.length_erase_of_mem hx] at this
    have hp : 0 < l'.length := List.length_pos_of_mem hx
    simp only [List.length_cons]
    omega
theorem NR.len {s : TS} {K : Nat → Int} {D : List NE} (h : NR s K D) : cntK K 64 = D.length := by
  rw [cntK_range, ← List.length_map (f := NE.pl)]
  refine nodup_len _ _ (List.Pairwise.filter _ List.nodup_range) ?_ fun p => ?_
  · unfold List.Nodup
    rw [List.pairwise_map]
    exact h.ord.imp fun hxy => hxy.1
  · simp only [List.mem_filter, List.mem_range, List.mem_map, decide_eq_true_eq]
    constructor
    · rintro ⟨_, hp⟩
      obtain ⟨x, hx, e⟩ := h.all p hp
      exact ⟨x, hx, e⟩
    · rintro ⟨x, hx, rfl⟩
      obtain ⟨m1, m2, m3, _⟩ := h.mem x hx
      exact ⟨m1, by rw [m2]; exact m3⟩
theorem NR.le64 {s : TS} {K : Nat → Int} {D : List NE} (h : NR s K D) : D.length ≤ 64 := by rw [← h.len]; exact cntK_le K 64
/-- What a place's nap tells. -/
theorem NR.at_ {s : TS} {K : Nat → Int} {D : List NE} (h : NR s K D) {i : Nat} {x : NE} (hi : D[i]? = some x) :
    K x.pl = x.kd ∧ x.kd ≠ 0 ∧ (if s.no x.pl ≠ 0 then s.du x.pl else 18446744073709551615) = x.ti := by
  obtain ⟨m1, m2, m3, m4, m5, m6⟩ := h.mem x (List.mem_of_getElem? hi)
  refine ⟨m2, m3, ?_⟩
  cases e : x.nv
  · rw [if_pos (m6 e).1]; exact (m6 e).2
  · rw [if_neg (by simpa using (m5 e).1)]; exact (m5 e).2.1.symm
theorem NR.not_at {s : TS} {K : Nat → Int} {D : List NE} (h : NR s K D) {p : Nat} (hn : ∀ x ∈ D, x.pl ≠ p) : K p = 0 := Classical.byContradiction fun e => by
  obtain ⟨x, hx, e2⟩ := h.all p e
  exact hn x hx e2
end Go.Proofs.Ytbeoomjcipbjjaa
