/- What each call of both shelves says of the words that went. -/
import Derived.Test.YtfppmdnpjihcpaaShelfPlaysW
namespace Go.Proofs.Ytfppmdnpjihcpaa
open Go.RowKit LinesP
set_option linter.unusedVariables false
/-- What a call of the kind j does to the words: x is the word that is pushed, r the one that went. -/
inductive Went (j : Nat) (x : Int) (ws : List Int) : Int → Bool → List Int → Prop
  | add (h : j < 2) (r : Int) : Went j x ws r false (ws ++ [x])
  | keep (r : Int) : Went j x ws r false ws
  | top (h : 2 ≤ j) (h5 : j ≠ 5) (r : Int) (ws' : List Int) (hw : ws = r :: ws') : Went j x ws r true ws'
  | bot (h : j = 5) (r : Int) (ws' : List Int) (hw : ws = ws' ++ [r]) : Went j x ws r true ws'
theorem does_went (B : Nat) (w : World) (g h cap : Nat) (ws : List Int) (cl on : Bool) (b : Both B w g h cap ws cl on) (hB : B ≤ w.heap.size) (j : Nat) (hj : j < 6) (x : Int) :
    ∃ r went ws' cl' on', Went j x ws r went ws' ∧ Calls Try.prog 20 #[.pointer (some ⟨g, 0, none⟩), .pointer (some ⟨h, 0, none⟩), .agg #[.int .u8 j, .int .u64 x]] w (DoesTo B w g h cap r went ws' cl' on') := by
  have hon : on = true → 0 < ws.length ∧ cl = true := by
    obtain ⟨v, c, v2, l, rfl, rfl, d, _⟩ := b
    intro h
    exact ⟨(l.on0 g cap v ws w c h).2, (l.on0 g cap v ws w c h).1⟩
  have h6 : j = 0 ∨ j = 1 ∨ j = 2 ∨ j = 3 ∨ j = 4 ∨ j = 5 := by omega
  have hpush : ∀ j, j < 2 → Went j x ws 0 false (pushL cap ws cl x) := by
    intro j hj
    unfold pushL
    split
    · exact .keep 0
    · split
      · exact .keep 0
      · exact .add hj 0
  have hsn : ∀ j, 2 ≤ j → j ≠ 5 → Went j x ws (snR ws) (snE ws == 0) ws.tail := by
    intro j h2 h5
    cases ws with
    | nil => exact .keep _
    | cons z zs => exact .top h2 h5 z zs rfl
  rcases h6 with rfl | rfl | rfl | rfl | rfl | rfl
  · exact ⟨_, _, _, _, _, hpush 0 (by omega), does_push B w g h cap ws cl on b hB (0 : Nat) x (by omega) (by omega)⟩
  · exact ⟨_, _, _, _, _, hpush 1 (by omega), does_push B w g h cap ws cl on b hB (1 : Nat) x (by omega) (by omega)⟩
  · refine ⟨_, _, _, _, _, ?_, does_take B w g h cap ws cl on b hB (2 : Nat) x (by omega) (by omega)⟩
    unfold tkR tkE tkL
    cases tkH ws on
    · simpa using hsn 2 (by omega) (by omega)
    · exact .keep 0
  · exact ⟨_, _, _, _, _, hsn 3 (by omega) (by omega), does_snatch B w g h cap ws cl on b hB (3 : Nat) x (by omega) (by omega)⟩
  · exact ⟨_, _, _, _, _, .keep 0, does_claim B w g h cap ws cl on b hB (4 : Nat) x (by omega) (by omega)⟩
  · refine ⟨_, _, _, _, _, ?_, does_settle B w g h cap ws cl on b hB (5 : Nat) x (by omega) (by omega)⟩
    unfold stR stE stL
    cases on
    · cases cl <;> exact .keep _
    · obtain ⟨h0, rfl⟩ := hon rfl
      obtain ⟨zs, z, h1, h2, h3⟩ := last_split h0
      simp only [if_true, h2, h3]
      exact .bot rfl z zs h1
/-- What is known of the words: they stand in order, above the last one that went from the top, none is gone. -/
structure Once (n top : Nat) (gn : Nat → Bool) (ws : List Int) : Prop where
  ord : ws.Pairwise (· < ·)
  bd : ∀ z ∈ ws, (top : Int) < z ∧ z ≤ n ∧ gn z.toNat = false
  le : top ≤ n
  gone : ∀ k, gn k = true → k ≤ n
theorem Once.add {n top : Nat} {gn : Nat → Bool} {ws : List Int} (o : Once n top gn ws) : Once (n + 1) top gn (ws ++ [(n : Int) + 1]) := by
  refine ⟨?_, ?_, by have := o.le; omega, fun k hk => by have := o.gone k hk; omega⟩
  · rw [List.pairwise_append]
    refine ⟨o.ord, by simp, fun a ha b hb => ?_⟩
    simp at hb
    have := o.bd a ha
    omega
  · intro z hz
    simp only [List.mem_append, List.mem_singleton] at hz
    rcases hz with hz | rfl
    · have := o.bd z hz
      exact ⟨this.1, by omega, this.2.2⟩
    · have hl := o.le
      refine ⟨by omega, by omega, ?_⟩
      cases h : gn ((n : Int) + 1).toNat
      · rfl
      · have := o.gone _ h; omega
theorem Once.top {n top r : Nat} {gn : Nat → Bool} {ws : List Int} (o : Once n top gn ((r : Int) :: ws)) : top < r ∧ r ≤ n ∧ gn r = false ∧ Once n r (upd gn r true) ws := by
  have h0 := o.bd r (by simp)
  have hp := List.pairwise_cons.1 o.ord
  refine ⟨by omega, by omega, by simpa using h0.2.2, hp.2, fun z hz => ?_, by omega, fun k hk => ?_⟩
  · have h1 := hp.1 z hz
    have h2 := o.bd z (by simp [hz])
    refine ⟨h1, h2.2.1, ?_⟩
    unfold upd
    rw [if_neg (by omega)]
    exact h2.2.2
  · unfold upd at hk
    split at hk
    · omega
    · exact o.gone k hk
theorem Once.bot {n top r : Nat} {gn : Nat → Bool} {ws : List Int} (o : Once n top gn (ws ++ [(r : Int)])) : 0 < r ∧ r ≤ n ∧ gn r = false ∧ Once n top (upd gn r true) ws := by
  have h0 := o.bd r (by simp)
  have hp := List.pairwise_append.1 o.ord
  refine ⟨by omega, by omega, by simpa using h0.2.2, hp.1, fun z hz => ?_, o.le, fun k hk => ?_⟩
  · have h1 := hp.2.2 z hz r (by simp)
    have h2 := o.bd z (by simp [hz])
    refine ⟨h2.1, h2.2.1, ?_⟩
    unfold upd
    rw [if_neg (by omega)]
    exact h2.2.2
  · unfold upd at hk
    split at hk
    · omega
    · exact o.gone k hk
end Go.Proofs.Ytfppmdnpjihcpaa
