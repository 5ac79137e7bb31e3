/- Plain laws of chapter 25 (gift): one level has changed; one wait has ended. -/
import Derived.Test.YtkkobbomipcpoaaGiS
namespace Go.Proofs.Ytkkobbomipcpoaa
set_option linter.unusedVariables false
set_option linter.unusedSectionVars false
theorem effF_congr {s s' : GS} (hn : s'.n = s.n) (hx : s'.next = s.next) (hl : s'.lev = s.lev) : effF s' = effF s := by
  funext t
  unfold effF GS.gv
  rw [hn, hx, hl]
theorem reach_step {f : Int → Int} {i x : Int} (h : ∃ j, it f (f i) j = x) : ∃ j, it f i j = x := by
  obtain ⟨j, e⟩ := h
  refine ⟨j + 1, ?_⟩
  rw [show j + 1 = 1 + j by omega, it_add]
  exact e
theorem it_step (f : Int → Int) (i : Int) (j : Nat) : it f i (j + 1) = it f (f i) j := by rw [show j + 1 = 1 + j by omega, it_add]; rfl
section
variable {s s' : GS} {t0 : Nat} {l : Int} (hn : s'.n = s.n) (hx : s'.next = s.next) (hl : s'.lev = upd s.lev t0 l) (ok : s.Ok) (ok' : s'.Ok) (ht : t0 < s.n)
include hn hx hl ok ok' ht
theorem lev_off {y : Nat} (hy : y < s.n) (hr : ∀ j, it s.next t0 j ≠ (y : Int)) : effF s y = effF s' y := by
  have hg : ∀ i, s'.gv y i = s.gv y i := fun i => by unfold GS.gv; rw [hn, hx]
  have ne : ∀ i, s.gv y i = true → i ≠ t0 := fun i hi e => by
    subst e
    obtain ⟨j, e⟩ := (gv_iff hy).1 hi
    exact hr j e
  apply Int.le_antisymm
  · refine le_eff (by omega) fun i hi hgi => ?_
    rw [hg] at hgi
    rw [hl, upd, if_neg (ne i hgi)]
    exact eff_le (by omega) hgi
  · refine le_eff hy fun i hi hgi => ?_
    have := eff_le (s := s') (t := y) (i := i) (by omega) (by rw [hg]; exact hgi)
    rw [hl, upd, if_neg (ne i hgi)] at this
    exact this
theorem lev_bet (hle : l ≤ s.lev t0) {y : Nat} (hy : y < s.n) (hr : ∃ j, it s.next t0 j = (y : Int)) : effF s' y = min (effF s y) l := by
  have hg : ∀ i, s'.gv y i = s.gv y i := fun i => by unfold GS.gv; rw [hn, hx]
  have h0 : s.gv y t0 = true := (gv_iff hy).2 hr
  apply Int.le_antisymm
  · have h1 := eff_le (s := s') (t := y) (i := t0) (by omega) (by rw [hg]; exact h0)
    rw [hl, upd, if_pos rfl] at h1
    have h2 : effF s' y ≤ effF s y := le_eff hy fun i hi hgi => by
      by_cases hi0 : i = t0
      · rw [hi0]; omega
      · have := eff_le (s := s') (t := y) (i := i) (by omega) (by rw [hg]; exact hgi)
        rw [hl, upd, if_neg hi0] at this
        exact this
    omega
  · refine le_eff (by omega) fun i hi hgi => ?_
    rw [hg] at hgi
    have := eff_le (s := s) (t := y) (i := i) (by omega) hgi
    rw [hl, upd]
    split <;> omega
theorem levels_better (hle : l ≤ s.lev t0) {k : Nat} (h : Walked s'.n s'.next (betU (s'.lev t0)) (betP (s'.lev t0)) (fillF (lst s.n (effF s))) t0 k) : lst s'.n (stW (betU (s'.lev t0)) (fillF (lst s.n (effF s))) (road s'.next t0 k)) = s'.all := by
  have hg0 : s'.lev t0 = l := by rw [hl, upd, if_pos rfl]
  rw [hg0] at h ⊢
  rw [all_effF]
  refine lst_congr fun x hxn => ?_
  rw [hn] at hxn
  have hm : ∀ j, 0 ≤ it s'.next t0 j → 0 ≤ it s'.next t0 (j + 1) → fillF (lst s.n (effF s)) (it s'.next t0 (j + 1)).toNat ≤ fillF (lst s.n (effF s)) (it s'.next t0 j).toNat := by
    intro j h1 h2
    rw [hx] at h1 h2 ⊢
    have hb : it s.next t0 j < (s.n : Int) := by
      refine Classical.byContradiction fun hn => ?_
      have : it s.next t0 (j + 1) = -1 := s.next_out _ (by omega)
      omega
    have hb2 := (s.next_bd ok (it s.next t0 j)).2
    obtain ⟨a, ha⟩ := Int.eq_ofNat_of_zero_le h1
    obtain ⟨b, hb'⟩ := Int.eq_ofNat_of_zero_le h2
    have e : s.next (a : Int) = (b : Int) := by rw [← ha]; exact hb'
    have hbn : b < s.n := by have : s.next (it s.next t0 j) = (b : Int) := hb'; omega
    rw [ha, hb', Int.toNat_natCast, Int.toNat_natCast, fill_eff ok hbn, fill_eff ok (by omega)]
    exact eff_next hbn (by omega) e
  have hb := bet_all s'.next_out h hm (x := x) (by omega)
  rw [fill_eff ok hxn, hx] at hb
  rw [hx]
  by_cases hr : ∃ j, it s.next t0 j = (x : Int)
  · rw [hb.1 hr, lev_bet hn hx hl ok ok' ht hle hxn hr]
  · rw [hb.2 hr]
    exact lev_off hn hx hl ok ok' ht hxn fun j e => hr ⟨j, e⟩
theorem levels_worse (hop : Open s.next) {k : Nat} (h : Walked s'.n s'.next (worU s') (worP s') (fillF (lst s.n (effF s))) t0 k) : lst s'.n (stW (worU s') (fillF (lst s.n (effF s))) (road s'.next t0 k)) = s'.all := by
  rw [all_effF]
  refine lst_congr fun x hxn => ?_
  refine wor_all ok' (by rw [hx]; exact hop) (by omega) h (fun y hy hr => ?_) (fun j y hj hy => ?_) hxn
  · rw [fill_eff ok (by omega)]
    exact lev_off hn hx hl ok ok' ht (by omega) (by rw [hx] at hr; exact hr)
  · rw [fill_eff ok (by omega), ← due_eff ok (show y < s.n by omega), hn]
    refine dueN_congr ?_ _ (fun i _ => by rw [hx]) (fun i hi _ => fill_eff ok hi)
    rw [hl, upd, if_neg]
    intro e
    subst e
    rw [hx] at hj
    exact hop _ (by omega) j hj
end
/- One wait has ended: t0 waited for a lock of o's. -/
section
variable {s s' : GS} {t0 o : Nat} (hn : s'.n = s.n) (hx : ∀ x, s'.next x = if x = (t0 : Int) then -1 else s.next x) (hl : s'.lev = s.lev) (ok : s.Ok) (ok' : s'.Ok) (ht : t0 < s.n) (ho : o < s.n) (hto : s.next t0 = (o : Int)) (hop : Open s.next)
include hn hx hl ok ok' ht ho hto hop
theorem free_open : Open s'.next := by
  refine hop.turn s.next_neg (-1) (fun x => ?_) (fun k => ?_)
  · rw [hx]
    split
    · exact .inr rfl
    · exact .inl rfl
  · rw [it_one _ _ s.next_neg, hx, if_neg (by omega)]
theorem free_reach {x : Int} (hx0 : 0 ≤ x) : ∀ i : Int, (∃ j, it s.next i j = x) ↔ (∃ j, it s'.next i j = x) ∨ ((∃ j, it s'.next i j = (t0 : Int)) ∧ ∃ j, it s.next o j = x) := by
  have fwd : ∀ j (i : Int), it s.next i j = x → (∃ j, it s'.next i j = x) ∨ ((∃ j, it s'.next i j = (t0 : Int)) ∧ ∃ j, it s.next o j = x) := by
    intro j
    induction j with
    | zero => intro i h; exact .inl ⟨0, h⟩
    | succ j ih =>
      intro i h
      rw [it_step] at h
      by_cases hi : i = (t0 : Int)
      · subst hi
        rw [hto] at h
        exact .inr ⟨⟨0, rfl⟩, j, h⟩
      · have e : s'.next i = s.next i := by rw [hx, if_neg hi]
        rcases ih _ h with h | ⟨h1, h2⟩
        · exact .inl (reach_step (by rw [e]; exact h))
        · exact .inr ⟨reach_step (by rw [e]; exact h1), h2⟩
  have bwd : ∀ (y : Int), 0 ≤ y → ∀ j (i : Int), it s'.next i j = y → ∃ j, it s.next i j = y := by
    intro y hy j
    induction j with
    | zero => intro i h; exact ⟨0, h⟩
    | succ j ih =>
      intro i h
      rw [it_step] at h
      by_cases hi : i = (t0 : Int)
      · rw [hx, if_pos hi] at h
        rw [it_one _ _ s'.next_neg] at h
        omega
      · have e : s'.next i = s.next i := by rw [hx, if_neg hi]
        rw [e] at h
        exact reach_step (ih _ h)
  intro i
  constructor
  · rintro ⟨j, h⟩; exact fwd j i h
  · rintro (⟨j, h⟩ | ⟨⟨j, h⟩, q, h2⟩)
    · exact bwd x hx0 j i h
    · obtain ⟨a, ha⟩ := bwd t0 (by omega) j i h
      refine ⟨a + (q + 1), ?_⟩
      rw [it_add, ha, it_step, hto]
      exact h2
theorem free_not : ¬ ∃ j, it s.next o j = (t0 : Int) := by
  rintro ⟨j, h⟩
  refine hop t0 (by omega) j ?_
  rw [it_step, hto]
  exact h
theorem free_not' : ¬ ∃ j, it s'.next o j = (t0 : Int) := fun h => free_not hn hx hl ok ok' ht ho hto hop ((free_reach hn hx hl ok ok' ht ho hto hop (by omega) o).2 (.inl h))
theorem free_same {x : Int} (hx0 : 0 ≤ x) : (∃ j, it s.next o j = x) ↔ ∃ j, it s'.next o j = x := by
  rw [free_reach hn hx hl ok ok' ht ho hto hop hx0 o]
  constructor
  · rintro (h | ⟨h, _⟩)
    · exact h
    · exact absurd h (free_not' hn hx hl ok ok' ht ho hto hop)
  · exact .inl
theorem free_gv {x i : Nat} (hxn : x < s.n) : s.gv x i = true ↔ s'.gv x i = true ∨ (s'.gv t0 i = true ∧ ∃ j, it s.next o j = (x : Int)) := by
  rw [gv_iff hxn, gv_iff (s := s') (by omega), gv_iff (s := s') (by omega)]
  exact free_reach hn hx hl ok ok' ht ho hto hop (by omega) i
theorem free_on {x : Nat} (hxn : x < s.n) (hr : ∃ j, it s.next o j = (x : Int)) : effF s x = min (effF s' x) (effF s' t0) := by
  apply Int.le_antisymm
  · have h1 : effF s x ≤ effF s' x := le_eff (by omega) fun i hi hg => by rw [hl]; exact eff_le (by omega) ((free_gv hn hx hl ok ok' ht ho hto hop hxn).2 (.inl hg))
    have h2 : effF s x ≤ effF s' t0 := le_eff (by omega) fun i hi hg => by rw [hl]; exact eff_le (by omega) ((free_gv hn hx hl ok ok' ht ho hto hop hxn).2 (.inr ⟨hg, hr⟩))
    omega
  · refine le_eff hxn fun i hi hg => ?_
    rcases (free_gv hn hx hl ok ok' ht ho hto hop hxn).1 hg with h | ⟨h, _⟩
    · have := eff_le (s := s') (t := x) (i := i) (by omega) h
      rw [hl] at this; omega
    · have := eff_le (s := s') (t := t0) (i := i) (by omega) h
      rw [hl] at this; omega
theorem free_off {x : Nat} (hxn : x < s.n) (hr : ¬ ∃ j, it s.next o j = (x : Int)) : effF s x = effF s' x := by
  have hg : ∀ i, s.gv x i = true ↔ s'.gv x i = true := fun i => by
    rw [free_gv hn hx hl ok ok' ht ho hto hop hxn]
    exact ⟨fun h => h.elim id fun h => absurd h.2 hr, .inl⟩
  apply Int.le_antisymm
  · refine le_eff (by omega) fun i hi hgi => ?_
    rw [hl]
    exact eff_le (by omega) ((hg i).2 hgi)
  · refine le_eff hxn fun i hi hgi => ?_
    have := eff_le (s := s') (t := x) (i := i) (by omega) ((hg i).1 hgi)
    rw [hl] at this
    exact this
/-- Along the road of o the levels get better. -/
theorem free_mono : ∀ j, 0 ≤ it s.next o j → 0 ≤ it s.next o (j + 1) → effF s' (it s.next o (j + 1)).toNat ≤ effF s' (it s.next o j).toNat ∧ (it s.next o (j + 1)).toNat < s.n ∧ (it s.next o j).toNat < s.n := by
  intro j h1 h2
  have hb : it s.next o j < (s.n : Int) := by
    refine Classical.byContradiction fun hn => ?_
    have : it s.next o (j + 1) = -1 := s.next_out _ (by omega)
    omega
  have hb2 : s.next (it s.next o j) < (s.n : Int) := (s.next_bd ok _).2
  have hne : it s.next o j ≠ (t0 : Int) := fun e => free_not hn hx hl ok ok' ht ho hto hop ⟨j, e⟩
  obtain ⟨a, ha⟩ := Int.eq_ofNat_of_zero_le h1
  obtain ⟨b, hb'⟩ := Int.eq_ofNat_of_zero_le h2
  have e : s.next (a : Int) = (b : Int) := by rw [← ha]; exact hb'
  have e' : s'.next (a : Int) = (b : Int) := by rw [hx, if_neg (by rw [← ha]; exact hne)]; exact e
  have hbn : b < s.n := by have : s.next (it s.next o j) = (b : Int) := hb'; omega
  rw [ha, hb', Int.toNat_natCast, Int.toNat_natCast]
  exact ⟨eff_next (s := s') (by omega) (by omega) e', hbn, by omega⟩
theorem free_le {x : Nat} (hr : ∃ j, it s.next o j = (x : Int)) : effF s' x ≤ effF s' o := by
  obtain ⟨j, e⟩ := hr
  have hend : ∀ i, 0 ≤ it s.next o (i + 1) → 0 ≤ it s.next o i := fun i hi => by
    refine Classical.byContradiction fun hn => ?_
    have : it s.next o (i + 1) = -1 := s.next_out _ (by omega)
    omega
  have main : ∀ j, 0 ≤ it s.next o j → effF s' (it s.next o j).toNat ≤ effF s' o := by
    intro j
    induction j with
    | zero => intro _; exact Int.le_refl _
    | succ j ih =>
      intro h
      have h1 := hend j h
      have := (free_mono hn hx hl ok ok' ht ho hto hop j h1 h).1
      have := ih h1
      omega
  have := main j (by rw [e]; omega)
  rw [e, Int.toNat_natCast] at this
  exact this
theorem waits_better {sl : GS} (hsn : sl.n = s.n) (hsx : sl.next = s.next) (hsl : sl.lev o = effF s' t0) {k : Nat} (h : Walked sl.n sl.next (betU (sl.lev o)) (betP (sl.lev o)) (fillF (lst s'.n (effF s'))) o k) : lst sl.n (stW (betU (sl.lev o)) (fillF (lst s'.n (effF s'))) (road sl.next o k)) = s.all := by
  rw [hsn, hsx, hsl] at h ⊢
  rw [all_effF]
  refine lst_congr fun x hxn => ?_
  have hb := bet_all s.next_out h (fun j h1 h2 => by
    have := free_mono hn hx hl ok ok' ht ho hto hop j h1 h2
    rw [fill_eff ok' (by omega), fill_eff ok' (by omega)]
    exact this.1) (x := x) hxn
  rw [fill_eff ok' (by omega)] at hb
  by_cases hr : ∃ j, it s.next o j = (x : Int)
  · rw [hb.1 hr, free_on hn hx hl ok ok' ht ho hto hop hxn hr]
  · rw [hb.2 hr, free_off hn hx hl ok ok' ht ho hto hop hxn hr]
theorem waits_same (hge : effF s' o ≤ effF s' t0) : s'.all = s.all := by
  rw [all_effF, all_effF, hn]
  refine lst_congr fun x hxn => ?_
  by_cases hr : ∃ j, it s.next o j = (x : Int)
  · have := free_le hn hx hl ok ok' ht ho hto hop hr
    rw [free_on hn hx hl ok ok' ht ho hto hop hxn hr]
    omega
  · rw [free_off hn hx hl ok ok' ht ho hto hop hxn hr]
theorem waits_worse {k : Nat} (h : Walked s'.n s'.next (worU s') (worP s') (fillF (lst s.n (effF s))) o k) : lst s'.n (stW (worU s') (fillF (lst s.n (effF s))) (road s'.next o k)) = s'.all := by
  rw [all_effF]
  refine lst_congr fun x hxn => ?_
  have hop' := free_open hn hx hl ok ok' ht ho hto hop
  refine wor_all ok' hop' (by omega) h (fun y hy hr => ?_) (fun j y hj hy => ?_) hxn
  · rw [fill_eff ok (by omega)]
    exact free_off hn hx hl ok ok' ht ho hto hop (by omega) fun hr' => by
      obtain ⟨j, e⟩ := (free_same hn hx hl ok ok' ht ho hto hop (by omega)).1 hr'
      exact hr j e
  · rw [fill_eff ok (by omega), ← due_eff ok (show y < s.n by omega), hn]
    have hyo : (y : Int) ≠ (o : Int) := fun e => hop' o (by omega) j (by rw [hj, e])
    refine dueN_congr (by rw [hl]) _ (fun i _ => ?_) (fun i hi _ => fill_eff ok hi)
    rw [hx]
    split
    · rename_i hi
      rw [hi, hto]
      exact ⟨fun h => by omega, fun h => absurd h.symm hyo⟩
    · exact Iff.rfl
end
end Go.Proofs.Ytkkobbomipcpoaa
