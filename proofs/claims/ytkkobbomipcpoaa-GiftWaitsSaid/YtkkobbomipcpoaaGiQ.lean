/- Plain notions of chapter 25 (gift): a walk along a road that sets levels as it goes, and where it stops. -/
import Derived.Test.YtkkobbomipcpoaaGiF
namespace Go.Proofs.Ytkkobbomipcpoaa
set_option linter.unusedVariables false
theorem rev_ind {α : Type} {C : List α → Prop} (h0 : C []) (h1 : ∀ zs x, C zs → C (zs ++ [x])) (zs : List α) : C zs := by
  have : ∀ l : List α, C l.reverse := by
    intro l
    induction l with
    | nil => exact h0
    | cons x l ih => rw [List.reverse_cons]; exact h1 _ _ ih
  simpa using this zs.reverse
/-- The levels behind a walk through zs, where U says what is set. -/
def stW (U : (Nat → Int) → Nat → Int) (f0 : Nat → Int) (zs : List Int) : Nat → Int := zs.foldl (fun f x => upd f x.toNat (U f x.toNat)) f0
theorem stW_snoc (U : (Nat → Int) → Nat → Int) (f0 : Nat → Int) (zs : List Int) (x : Nat) : stW U f0 (zs ++ [(x : Int)]) = upd (stW U f0 zs) x (U (stW U f0 zs) x) := by simp [stW]
/-- A walk goes through k threads, and no further: P says where it goes on. -/
structure Walked (n : Nat) (nx : Int → Int) (U : (Nat → Int) → Nat → Int) (P : (Nat → Int) → Nat → Bool) (f0 : Nat → Int) (t : Int) (k : Nat) : Prop where
  no : NoEnd n nx t k
  on : ∀ j, j < k → P (stW U f0 (road nx t j)) (it nx t j).toNat = true
  stop : End n nx t k ∨ P (stW U f0 (road nx t k)) (it nx t k).toNat = false
section
variable {n : Nat} {nx : Int → Int} {U : (Nat → Int) → Nat → Int} {P : (Nat → Int) → Nat → Bool} {f0 : Nat → Int} {t : Int}
theorem Walked.uniq {k k' : Nat} (h : Walked n nx U P f0 t k) (h' : Walked n nx U P f0 t k') : k = k' := by
  have key : ∀ {a b : Nat}, Walked n nx U P f0 t a → Walked n nx U P f0 t b → ¬ a < b := fun {a b} h1 h2 hl => by
    rcases h1.stop with e | e
    · exact h2.no a hl e
    · have := h2.on a hl
      rw [e] at this
      cases this
  have := key h h'
  have := key h' h
  omega
/-- The threads of a list at which the walk went on. -/
def accZ (U : (Nat → Int) → Nat → Int) (P : (Nat → Int) → Nat → Bool) (f0 : Nat → Int) (zs : List Int) : List Int := zs.foldl (fun acc x => if P (stW U f0 acc) x.toNat then acc ++ [x] else acc) []
theorem accZ_snoc (zs : List Int) (x : Int) : accZ U P f0 (zs ++ [x]) = if P (stW U f0 (accZ U P f0 zs)) x.toNat then accZ U P f0 zs ++ [x] else accZ U P f0 zs := by
  unfold accZ
  rw [List.foldl_append]
  rfl
theorem accZ_sub : ∀ (zs : List Int) (x : Int), x ∈ accZ U P f0 zs → x ∈ zs := by
  intro zs
  induction zs using rev_ind with
  | h0 => intro x h; simp [accZ] at h
  | h1 zs y ih =>
    intro x h
    rw [accZ_snoc] at h
    split at h
    · rcases List.mem_append.1 h with h | h
      · exact List.mem_append_left _ (ih x h)
      · exact List.mem_append_right _ h
    · exact List.mem_append_left _ (ih x h)
theorem accZ_len : ∀ (zs : List Int), (accZ U P f0 zs).length ≤ zs.length := by
  intro zs
  induction zs using rev_ind with
  | h0 => simp [accZ]
  | h1 zs y ih =>
    rw [accZ_snoc]
    split <;> simp <;> omega
theorem accZ_road {k : Nat} (h : ∀ j, j < k → P (stW U f0 (accZ U P f0 (road nx t j))) (it nx t j).toNat = true) : ∀ j, j ≤ k → accZ U P f0 (road nx t j) = road nx t j
  | 0, _ => rfl
  | j + 1, hj => by
    have ih := accZ_road h j (by omega)
    rw [road_succ, accZ_snoc, h j (by omega), ih]
    rfl
/-- What a road with such a function value ends in. -/
theorem walked_of {k : Nat} (hno : NoEnd n nx t k) (hon : ∀ j, j < k → P (stW U f0 (accZ U P f0 (road nx t j))) (it nx t j).toNat = true)
    (hend : End n nx t k ∨ ¬ End n nx t k ∧ P (stW U f0 (accZ U P f0 (road nx t k))) (it nx t k).toNat = false) : Walked n nx U P f0 t k := by
  have hr := accZ_road hon
  refine ⟨hno, fun j hj => ?_, ?_⟩
  · have := hon j hj
    rwa [hr j (by omega)] at this
  · rcases hend with h | ⟨_, h⟩
    · exact .inl h
    · rw [hr k (Nat.le_refl _)] at h
      exact .inr h
end
/-- What a thread must have. -/
def dueN (s : GS) (f : Nat → Int) (t : Nat) : Nat → Int
  | 0 => s.lev t
  | k + 1 => if s.next k = t then min (dueN s f t k) (f k) else dueN s f t k
def fillF (eff : List Int) (i : Nat) : Int := if i < eff.length then min (max (eff.getD i 0) 0) 8 else 8
/-- The walks of the document: what gets better, what gets worse. -/
def betU (g : Int) (_f : Nat → Int) (_x : Nat) : Int := g
def betP (g : Int) (f : Nat → Int) (x : Nat) : Bool := decide (g < f x)
def worU (s : GS) (f : Nat → Int) (x : Nat) : Int := dueN s f x s.n
def worP (s : GS) (f : Nat → Int) (x : Nat) : Bool := decide (dueN s f x s.n ≠ f x)
theorem stW_bet {g : Int} {f0 : Nat → Int} : ∀ (zs : List Int) (x : Nat), (∀ y ∈ zs, 0 ≤ y) → stW (betU g) f0 zs x = if (x : Int) ∈ zs then g else f0 x := by
  intro zs
  induction zs using rev_ind with
  | h0 => intro x _; simp [stW]
  | h1 zs y ih =>
    intro x h
    obtain ⟨y, rfl⟩ := Int.eq_ofNat_of_zero_le (h y (by simp))
    rw [stW_snoc]
    unfold upd
    by_cases hx : x = y
    · simp [hx, betU]
    · have : (x : Int) ≠ (y : Int) := by omega
      rw [if_neg hx, ih x (fun z hz => h z (by simp [hz]))]
      simp [this]
end Go.Proofs.Ytkkobbomipcpoaa
