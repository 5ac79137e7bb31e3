/- Plain laws of chapter 25 (gift): effective levels, and what the walks make of them where one level or one wait has changed. -/
import Derived.Test.YtkkobbomipcpoaaGiQ
import Derived.Test.YtkkobbomipcpoaaWebO
namespace Go.Proofs.Ytkkobbomipcpoaa
set_option linter.unusedVariables false
/-- A thread's effective level. -/
def effF (s : GS) (t : Nat) : Int := bestN (s.gv t) s.lev (s.lev t) s.n
theorem all_effF (s : GS) : s.all = lst s.n (effF s) := rfl
section
variable {s : GS}
theorem gv_iff {t i : Nat} (ht : t < s.n) : s.gv t i = true ↔ ∃ j, it s.next i j = (t : Int) := gives_iff s.next_out i (by omega)
theorem gv_self (t : Nat) : s.gv t t = true := gives_self _ _ _
theorem eff_le {t i : Nat} (hi : i < s.n) (hg : s.gv t i = true) : effF s t ≤ s.lev i := bestN_mem _ _ _ _ i hi hg
theorem le_eff {t : Nat} {x : Int} (ht : t < s.n) (h : ∀ i, i < s.n → s.gv t i = true → x ≤ s.lev i) : x ≤ effF s t := le_bestN _ _ _ _ (h t ht (gv_self t)) _ h
theorem eff_bd (ok : s.Ok) {t : Nat} (ht : t < s.n) : 0 ≤ effF s t ∧ effF s t ≤ 7 := by
  have h1 := eff_le ht (gv_self t)
  have h2 := ok.lev t
  exact ⟨le_eff ht fun i _ _ => (ok.lev i).1, by omega⟩
theorem fill_eff (ok : s.Ok) {t : Nat} (ht : t < s.n) : fillF (lst s.n (effF s)) t = effF s t := by
  unfold fillF
  rw [lst_length, if_pos ht, lst_getD _ _ _ ht]
  have := eff_bd ok ht
  omega
theorem eff_next {t i : Nat} (ht : t < s.n) (hi : i < s.n) (h : s.next i = (t : Int)) : effF s t ≤ effF s i := by
  refine le_eff hi fun k hk hg => eff_le hk ?_
  obtain ⟨j, hj⟩ := (gv_iff hi).1 hg
  exact (gv_iff ht).2 ⟨j + 1, by show s.next (it s.next k j) = _; rw [hj, h]⟩
/-- What is due. -/
theorem dueN_lev (f : Nat → Int) (t : Nat) : ∀ (k : Nat), dueN s f t k ≤ s.lev t
  | 0 => Int.le_refl _
  | k + 1 => by have := dueN_lev f t k; unfold dueN; split <;> omega
theorem dueN_le (f : Nat → Int) (t : Nat) : ∀ (k i : Nat), i < k → s.next i = (t : Int) → dueN s f t k ≤ f i
  | k + 1, i, hi, hn => by
    unfold dueN
    by_cases h : i = k
    · subst h; rw [if_pos hn]; omega
    · have := dueN_le f t k i (by omega) hn
      split <;> omega
theorem le_dueN (f : Nat → Int) (t : Nat) (x : Int) (h0 : x ≤ s.lev t) : ∀ (k : Nat), (∀ (i : Nat), i < k → s.next i = (t : Int) → x ≤ f i) → x ≤ dueN s f t k
  | 0, _ => h0
  | k + 1, h => by
    have := le_dueN f t x h0 k (fun i hi => h i (by omega))
    unfold dueN
    split
    · rename_i hn; have := h k (by omega) hn; omega
    · exact this
theorem dueN_congr {s' : GS} {f f' : Nat → Int} {t : Nat} (hl : s.lev t = s'.lev t) : ∀ (k : Nat), (∀ (i : Nat), i < k → (s.next i = (t : Int) ↔ s'.next i = (t : Int))) → (∀ (i : Nat), i < k → s.next i = (t : Int) → f i = f' i) → dueN s f t k = dueN s' f' t k
  | 0, _, _ => hl
  | k + 1, h1, h2 => by
    have ih := dueN_congr hl k (fun i hi => h1 i (by omega)) (fun i hi => h2 i (by omega))
    unfold dueN
    by_cases hn : s.next k = (t : Int)
    · rw [if_pos hn, if_pos ((h1 k (by omega)).1 hn), ih, h2 k (by omega) hn]
    · rw [if_neg hn, if_neg (fun h => hn ((h1 k (by omega)).2 h)), ih]
theorem due_eff (ok : s.Ok) {t : Nat} (ht : t < s.n) : dueN s (effF s) t s.n = effF s t := by
  apply Int.le_antisymm
  · refine le_eff ht fun i hi hg => ?_
    obtain ⟨j, hj⟩ := (gv_iff ht).1 hg
    cases j with
    | zero =>
      have : i = t := by have : (i : Int) = (t : Int) := hj; omega
      subst this
      exact dueN_lev _ _ _
    | succ j =>
      have hn : s.next (it s.next i j) = (t : Int) := hj
      have hb : 0 ≤ it s.next i j ∧ it s.next i j < (s.n : Int) := Classical.byContradiction fun h => by
        rw [s.next_out _ h] at hn; omega
      obtain ⟨q, hq⟩ := Int.eq_ofNat_of_zero_le hb.1
      have hqn : q < s.n := by omega
      rw [hq] at hn
      have h1 := dueN_le (effF s) t s.n q hqn hn
      have h2 := eff_le (s := s) (t := q) hi ((gv_iff hqn).2 ⟨j, hq⟩)
      omega
  · refine le_dueN _ _ _ (eff_le ht (gv_self t)) _ fun i hi hn => eff_next ht hi hn
end
section
variable {n : Nat} {nx : Int → Int} {f0 : Nat → Int} {t : Int}
/-- A walk that makes better: all that is reached from t, and is worse, gets what is given. -/
theorem bet_all {g : Int} {k : Nat} (hnx : ∀ x, ¬ (0 ≤ x ∧ x < (n : Int)) → nx x = -1) (h : Walked n nx (betU g) (betP g) f0 t k) (hm : ∀ j, 0 ≤ it nx t j → 0 ≤ it nx t (j + 1) → f0 (it nx t (j + 1)).toNat ≤ f0 (it nx t j).toNat) {x : Nat} (hx : x < n) :
    ((∃ j, it nx t j = (x : Int)) → stW (betU g) f0 (road nx t k) x = min (f0 x) g) ∧ ((¬ ∃ j, it nx t j = (x : Int)) → stW (betU g) f0 (road nx t k) x = f0 x) := by
  have hpos : ∀ y ∈ road nx t k, 0 ≤ y := fun y hy => by obtain ⟨j, hj, rfl⟩ := mem_road.1 hy; exact (h.no.bd hj).1
  have hst : ∀ j (y : Nat), j ≤ k → stW (betU g) f0 (road nx t j) y = if (y : Int) ∈ road nx t j then g else f0 y := fun j y hj => stW_bet _ _ fun z hz => by
    obtain ⟨i, hi, rfl⟩ := mem_road.1 hz
    exact (h.no.bd (show i < k by omega)).1
  rw [hst k x (Nat.le_refl _)]
  refine ⟨fun he => ?_, fun he => ?_⟩
  · by_cases hr : (x : Int) ∈ road nx t k
    · obtain ⟨j, hj, e⟩ := mem_road.1 hr
      rw [if_pos hr]
      have h1 := of_decide_eq_true (h.on j hj)
      rw [hst j _ (by omega), e, Int.toNat_natCast] at h1
      split at h1
      · omega
      · omega
    · rw [if_neg hr]
      obtain ⟨j, e⟩ := he
      have hjk : k ≤ j := Nat.le_of_not_lt fun hl => hr (mem_road.2 ⟨j, hl, e⟩)
      rcases h.stop with hs | hs
      · exfalso
        rcases (Full.mk hs h.no).closed hnx j with hc | hc
        · rw [e] at hc; omega
        · rw [e] at hc; exact hr hc
      · have h1 := of_decide_eq_false hs
        have hend : ∀ i, 0 ≤ it nx t (i + 1) → 0 ≤ it nx t i := fun i hi => by
          refine Classical.byContradiction fun hn => ?_
          have : it nx t (i + 1) = -1 := hnx _ (by omega)
          omega
        have hall : ∀ d, 0 ≤ it nx t (k + d) → 0 ≤ it nx t k ∧ f0 (it nx t (k + d)).toNat ≤ f0 (it nx t k).toNat := by
          intro d
          induction d with
          | zero => intro h; exact ⟨h, Int.le_refl _⟩
          | succ d ih =>
            intro h
            have h2 := hend (k + d) h
            have h3 := ih h2
            have h4 := hm (k + d) h2 h
            exact ⟨h3.1, Int.le_trans h4 h3.2⟩
        have h2 := hall (j - k) (by rw [show k + (j - k) = j by omega, e]; omega)
        rw [show k + (j - k) = j by omega, e, Int.toNat_natCast] at h2
        rw [hst k _ (Nat.le_refl _)] at h1
        split at h1
        · rename_i hmem
          exfalso
          rw [Int.toNat_of_nonneg h2.1] at hmem
          rcases (Full.mk (.inr hmem) h.no).closed hnx j with hc | hc
          · rw [e] at hc; omega
          · rw [e] at hc; exact hr hc
        · omega
  · rw [if_neg (fun hr => he (by obtain ⟨j, _, e⟩ := mem_road.1 hr; exact ⟨j, e⟩))]
/-- A walk that makes worse, in a graph without a ring: it yields the effective levels, if the levels were right beside the road, and due along it. -/
theorem wor_all {s : GS} (ok : s.Ok) (hop : Open s.next) {t0 k : Nat} (ht0 : t0 < s.n) {f0 : Nat → Int} (h : Walked s.n s.next (worU s) (worP s) f0 t0 k)
    (h1 : ∀ y : Nat, y < s.n → (∀ j, it s.next t0 j ≠ (y : Int)) → f0 y = effF s y)
    (h2 : ∀ j (y : Nat), it s.next t0 (j + 1) = (y : Int) → y < s.n → dueN s f0 y s.n = f0 y) {x : Nat} (hx : x < s.n) : stW (worU s) f0 (road s.next t0 k) x = effF s x := by
  have inj : ∀ a b, a < b → 0 ≤ it s.next t0 a → it s.next t0 b ≠ it s.next t0 a := fun a b hab ha e => by
    refine hop (it s.next t0 a) (by omega) (b - a - 1) ?_
    rw [← it_add, show a + (b - a - 1 + 1) = b by omega]
    exact e
  have key : ∀ q, q ≤ k → ∀ y : Nat, y < s.n → ((∀ j, q ≤ j → it s.next t0 j ≠ (y : Int)) → stW (worU s) f0 (road s.next t0 q) y = effF s y) ∧ ((∃ j, q ≤ j ∧ it s.next t0 j = (y : Int)) → stW (worU s) f0 (road s.next t0 q) y = f0 y) := by
    intro q
    induction q with
    | zero =>
      intro _ y hy
      exact ⟨fun hn => h1 y hy fun j => hn j (by omega), fun _ => rfl⟩
    | succ q ih =>
      intro hq y hy
      have hb := h.no.bd (show q < k by omega)
      obtain ⟨z, hz⟩ := Int.eq_ofNat_of_zero_le hb.1
      have hzn : z < s.n := by omega
      have ih' := ih (by omega)
      have hdue : dueN s (stW (worU s) f0 (road s.next t0 q)) z s.n = effF s z := by
        rw [← due_eff ok hzn]
        refine dueN_congr rfl _ (fun _ _ => Iff.rfl) fun i hi hn => (ih' i hi).1 fun j hj e => ?_
        have e2 : it s.next t0 (j + 1) = it s.next t0 q := by show s.next (it s.next t0 j) = _; rw [e, hn, hz]
        exact inj q (j + 1) (by omega) hb.1 e2
      rw [road_succ, hz, stW_snoc]
      unfold upd
      by_cases hyz : y = z
      · subst hyz
        rw [if_pos rfl]
        refine ⟨fun _ => hdue, fun ⟨j, hj, e⟩ => ?_⟩
        exact absurd (e.trans hz.symm) (inj q j (by omega) hb.1)
      · rw [if_neg hyz]
        refine ⟨fun hn => (ih' y hy).1 fun j hj e => ?_, fun ⟨j, hj, e⟩ => (ih' y hy).2 ⟨j, by omega, e⟩⟩
        by_cases hjq : j = q
        · subst hjq; rw [hz] at e; omega
        · exact hn j (by omega) e
  have hk := key k (Nat.le_refl _)
  by_cases hd : ∃ j, k ≤ j ∧ it s.next t0 j = (x : Int)
  · rw [(hk x hx).2 hd]
    obtain ⟨j, hj, e⟩ := hd
    rcases h.stop with hs | hs
    · exfalso
      rcases (Full.mk hs h.no).closed s.next_out j with hc | hc
      · rw [e] at hc; omega
      · obtain ⟨i, hi, e2⟩ := mem_road.1 hc
        exact inj i j (by omega) (by rw [e2, e]; omega) e2.symm
    · have h3 := of_decide_eq_false hs
      simp only [ne_eq, Classical.not_not] at h3
      have hend : ∀ i, 0 ≤ it s.next t0 (i + 1) → 0 ≤ it s.next t0 i ∧ it s.next t0 i < (s.n : Int) := fun i hi => by
        refine Classical.byContradiction fun hn => ?_
        have : it s.next t0 (i + 1) = -1 := s.next_out _ hn
        omega
      have main : ∀ d (y : Nat), it s.next t0 (k + d) = (y : Int) → y < s.n → f0 y = effF s y := by
        intro d
        induction d with
        | zero =>
          intro y hy hyn
          have hy' : it s.next t0 k = (y : Int) := hy
          rw [hy', Int.toNat_natCast] at h3
          rw [← (hk y hyn).2 ⟨k, Nat.le_refl _, hy'⟩, ← h3, ← due_eff ok hyn]
          refine dueN_congr rfl _ (fun _ _ => Iff.rfl) fun i hi hn => (hk i hi).1 fun j hj e => ?_
          have e2 : it s.next t0 (j + 1) = it s.next t0 k := by show s.next (it s.next t0 j) = _; rw [e, hn, hy']
          exact inj k (j + 1) (by omega) (by rw [hy']; omega) e2
        | succ d ih =>
          intro y hy hyn
          have hb := hend (k + d) (by rw [show k + d + 1 = k + (d + 1) by omega, hy]; omega)
          rw [← h2 (k + d) y hy hyn, ← due_eff ok hyn]
          refine dueN_congr rfl _ (fun _ _ => Iff.rfl) fun i hi hn => ?_
          by_cases hr : ∃ j, it s.next t0 j = (i : Int)
          · obtain ⟨j, hj⟩ := hr
            have e2 : it s.next t0 (j + 1) = it s.next t0 (k + (d + 1)) := by show s.next (it s.next t0 j) = _; rw [hj, hn, hy]
            have hjd : j = k + d := by
              rcases Nat.lt_trichotomy (j + 1) (k + (d + 1)) with hl | hl | hl
              · exact absurd e2.symm (inj (j + 1) (k + (d + 1)) hl (by rw [e2, hy]; omega))
              · omega
              · exact absurd e2 (inj (k + (d + 1)) (j + 1) hl (by rw [hy]; omega))
            subst hjd
            exact ih i hj hi
          · exact h1 i hi fun j hj => hr ⟨j, hj⟩
      have := main (j - k) x (by rw [show k + (j - k) = j by omega]; exact e) hx
      exact this
  · exact (hk x hx).1 fun j hj e => hd ⟨j, hj, e⟩
end
end Go.Proofs.Ytkkobbomipcpoaa
