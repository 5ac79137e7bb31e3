/- The shelf and the document's, each call as one contract in the same words. -/
import Derived.Test.YtfppmdnpjihcpaaShelfRef
namespace Go.Proofs.Ytfppmdnpjihcpaa
open Go.RowKit LinesP
set_option linter.unusedVariables false

def pushE (cap : Nat) (ws : List Int) (cl : Bool) : Int := if cl then 14 else if ws.length = cap then 6 else 0
def pushL (cap : Nat) (ws : List Int) (cl : Bool) (x : Int) : List Int := if cl then ws else if ws.length = cap then ws else ws ++ [x]
def snE (ws : List Int) : Int := if ws.isEmpty then 7 else 0
def snR (ws : List Int) : Int := ws.headD 0
def snOn (ws : List Int) (on : Bool) : Bool := on && !ws.tail.isEmpty
def tkH (ws : List Int) (on : Bool) : Bool := decide (ws.length = 1) && on
def tkE (ws : List Int) (on : Bool) : Int := if tkH ws on then 7 else snE ws
def tkR (ws : List Int) (on : Bool) : Int := if tkH ws on then 0 else snR ws
def tkL (ws : List Int) (on : Bool) : List Int := if tkH ws on then ws else ws.tail
def tkOn (ws : List Int) (on : Bool) : Bool := if tkH ws on then on else snOn ws on
def clE (cl : Bool) : Int := if cl then 14 else 0
def clB (ws : List Int) (cl : Bool) : Bool := if cl then false else decide (0 < ws.length)
def clOn (ws : List Int) (cl on : Bool) : Bool := if cl then on else decide (0 < ws.length)
def stE (cl on : Bool) : Int := if cl then (if on then 0 else 7) else 14
def stR (ws : List Int) (on : Bool) : Int := if on then ws.getLastD 0 else 0
def stL (ws : List Int) (on : Bool) : List Int := if on then ws.dropLast else ws

theorem last_split {ws : List Int} (h : 0 < ws.length) : ∃ zs z, ws = zs ++ [z] ∧ ws.getLastD 0 = z ∧ ws.dropLast = zs := by
  have hne : ws ≠ [] := by intro h'; simp [h'] at h
  refine ⟨ws.dropLast, ws.getLast hne, (List.dropLast_concat_getLast hne).symm, ?_, rfl⟩
  rw [List.getLastD_eq_getLast?, List.getLast?_eq_some_getLast hne]
  rfl
section
variable (g cap : Nat) (v : Value) (ws : List Int) (w : World) (c : Cl) (l : ShelfAt w g cap v ws c)
include l
theorem ShelfAt.on0 (h : c.isOn = true) : c.is = true ∧ 0 < ws.length := by
  cases c with
  | on X => exact ⟨rfl, (l.on X rfl).2⟩
  | _ => simp [Cl.isOn] at h
theorem upush (x : Int) : Calls Try.prog 37 #[.pointer (some ⟨g, 0, none⟩), .int .u64 x] w fun e w' => e = .returned (.int .i64 (pushE cap ws c.is)) ∧ ShelfTo w g cap (shFoot g v c) (pushL cap ws c.is x) c.is c.isOn w' := by
  unfold pushE pushL
  cases hc : c.is
  · have : c = .no := by cases c <;> simp_all [Cl.is]
    subst this
    by_cases hl : ws.length = cap
    · rw [if_neg (by simp), if_pos hl, if_neg (by simp), if_pos hl]
      exact (spush_full g cap v ws w l hl x).mono fun e w' ⟨h1, h2⟩ => ⟨h1, l.same h2⟩
    · rw [if_neg (by simp), if_neg hl, if_neg (by simp), if_neg hl]
      exact spush_ok g cap v ws w l (by have := l.len; omega) x
  · rw [if_pos rfl, if_pos rfl]
    exact (spush_state g cap v ws w c hc l x).mono fun e w' ⟨h1, h2⟩ => ⟨h1, by have := l.same h2; rwa [hc] at this⟩
theorem usnatch : Calls Try.prog 57 #[.pointer (some ⟨g, 0, none⟩)] w fun e w' => e = .returned (.tuple #[.int .u64 (snR ws), .int .i64 (snE ws)]) ∧ ShelfTo w g cap (shFoot g v c) ws.tail c.is (snOn ws c.isOn) w' := by
  cases ws with
  | nil =>
    have h0 : c.isOn = false := by
      cases h : c.isOn
      · rfl
      · have := l.on0 g cap v [] w c h; simp at this
    exact (snatch_none g cap v w c l).mono fun e w' ⟨h1, h2⟩ => ⟨h1, by have := l.same h2; simpa [snOn, h0] using this⟩
  | cons z zs => exact snatch_some g cap v w c z zs l
theorem held_tkH : c.held ws.length = tkH ws c.isOn := by
  cases c <;> simp [Cl.held, tkH, Cl.isOn]
theorem utake : Calls Try.prog 56 #[.pointer (some ⟨g, 0, none⟩)] w fun e w' => e = .returned (.tuple #[.int .u64 (tkR ws c.isOn), .int .i64 (tkE ws c.isOn)]) ∧ ShelfTo w g cap (shFoot g v c) (tkL ws c.isOn) c.is (tkOn ws c.isOn) w' := by
  have hh := held_tkH g cap v ws w c l
  unfold tkR tkE tkL tkOn
  cases h : tkH ws c.isOn
  · rw [if_neg (by simp), if_neg (by simp), if_neg (by simp), if_neg (by simp)]
    rw [h] at hh
    cases ws with
    | nil =>
      have h0 : c.isOn = false := by
        cases h : c.isOn
        · rfl
        · have := l.on0 g cap v [] w c h; simp at this
      exact (stake_none g cap v w c l).mono fun e w' ⟨h1, h2⟩ => ⟨h1, by have := l.same h2; simpa [snOn, h0] using this⟩
    | cons z zs => exact stake_some g cap v w c z zs l hh
  · rw [if_pos rfl, if_pos rfl, if_pos rfl, if_pos rfl]
    rw [h] at hh
    exact (stake_held g cap v ws w c l hh).mono fun e w' ⟨h1, h2⟩ => ⟨h1, l.same h2⟩
theorem uclaim : Calls Try.prog 58 #[.pointer (some ⟨g, 0, none⟩)] w fun e w' => e = .returned (.tuple #[.bool (clB ws c.is), .int .i64 (clE c.is)]) ∧ ShelfTo w g cap (shFoot g v c) ws true (clOn ws c.is c.isOn) w' := by
  unfold clB clE clOn
  cases hc : c.is
  · have : c = .no := by cases c <;> simp_all [Cl.is]
    subst this
    rw [if_neg (by simp), if_neg (by simp), if_neg (by simp)]
    by_cases h0 : 0 < ws.length
    · rw [decide_eq_true h0]
      exact claim_some g cap v ws w l h0
    · obtain rfl : ws = [] := List.eq_nil_of_length_eq_zero (by omega)
      exact claim_none g cap v w l
  · rw [if_pos rfl, if_pos rfl, if_pos rfl]
    exact (claim_state g cap v ws w c hc l).mono fun e w' ⟨h1, h2⟩ => ⟨h1, by have := l.same h2; rwa [hc] at this⟩
theorem usettle : Calls Try.prog 59 #[.pointer (some ⟨g, 0, none⟩)] w fun e w' => e = .returned (.tuple #[.int .u64 (stR ws c.isOn), .int .i64 (stE c.is c.isOn)]) ∧ ShelfTo w g cap (shFoot g v c) (stL ws c.isOn) false false w' := by
  cases c with
  | no => exact (settle_state g cap v ws w l).mono fun e w' ⟨h1, h2⟩ => ⟨h1, l.same h2⟩
  | nought => exact settle_nought g cap v ws w l
  | on X =>
    obtain ⟨zs, z, h1, h2, h3⟩ := last_split (l.on X rfl).2
    simp only [stR, stE, stL, Cl.isOn, Cl.is, if_true, h2, h3]
    subst h1
    exact settle_on g cap v w X z zs l
end
section
variable (g cap : Nat) (v : Value) (ws : List Int) (w : World) (cl on : Bool) (l : DocS w g cap v ws cl on) (hco : on = true → cl = true)
include l
theorem vpush (x : Int) : Calls Try.prog 38 #[.pointer (some ⟨g, 0, none⟩), .int .u64 x] w fun e w' => e = .returned (.int .i64 (pushE cap ws cl)) ∧ DocTo w g cap (dsFoot g v) (pushL cap ws cl x) cl on w' := by
  unfold pushE pushL
  cases cl
  · by_cases hl : ws.length = cap
    · rw [if_neg (by simp), if_pos hl, if_neg (by simp), if_pos hl]
      exact (dpush_full g cap v ws w on l hl x).mono fun e w' ⟨h1, h2⟩ => ⟨h1, l.same h2⟩
    · rw [if_neg (by simp), if_neg hl, if_neg (by simp), if_neg hl]
      exact dpush_ok g cap v ws w on l (by have := l.len; omega) x
  · rw [if_pos rfl, if_pos rfl]
    exact (dpush_state g cap v ws w on l x).mono fun e w' ⟨h1, h2⟩ => ⟨h1, l.same h2⟩
theorem vsnatch : Calls Try.prog 64 #[.pointer (some ⟨g, 0, none⟩)] w fun e w' => e = .returned (.tuple #[.int .u64 (snR ws), .int .i64 (snE ws)]) ∧ DocTo w g cap (dsFoot g v) ws.tail cl (snOn ws on) w' := by
  cases ws with
  | nil =>
    have h0 : on = false := by
      cases on
      · rfl
      · have := l.on rfl; simp at this
    subst h0
    exact (dsnatch_none g cap v w cl false l).mono fun e w' ⟨h1, h2⟩ => ⟨h1, by have := l.same h2; simpa [snOn] using this⟩
  | cons z zs => exact dsnatch_some g cap v w cl on z zs l
theorem vtake : Calls Try.prog 63 #[.pointer (some ⟨g, 0, none⟩)] w fun e w' => e = .returned (.tuple #[.int .u64 (tkR ws on), .int .i64 (tkE ws on)]) ∧ DocTo w g cap (dsFoot g v) (tkL ws on) cl (tkOn ws on) w' := by
  unfold tkR tkE tkL tkOn
  cases h : tkH ws on
  · rw [if_neg (by simp), if_neg (by simp), if_neg (by simp), if_neg (by simp)]
    exact dtake_of g cap v ws w cl on l h _ _ _ (vsnatch g cap v ws w cl on l)
  · rw [if_pos rfl, if_pos rfl, if_pos rfl, if_pos rfl]
    simp only [tkH, Bool.and_eq_true, decide_eq_true_eq] at h
    obtain ⟨h1, rfl⟩ := h
    match ws, h1 with
    | [z], _ => exact (dtake_held g cap v w cl z l).mono fun e w' ⟨h1, h2⟩ => ⟨h1, l.same h2⟩
theorem vclaim : Calls Try.prog 65 #[.pointer (some ⟨g, 0, none⟩)] w fun e w' => e = .returned (.tuple #[.bool (clB ws cl), .int .i64 (clE cl)]) ∧ DocTo w g cap (dsFoot g v) ws true (clOn ws cl on) w' := by
  unfold clB clE clOn
  cases cl
  · rw [if_neg (by simp), if_neg (by simp), if_neg (by simp)]
    exact dclaim_ok g cap v ws w on l
  · rw [if_pos rfl, if_pos rfl, if_pos rfl]
    exact (dclaim_state g cap v ws w on l).mono fun e w' ⟨h1, h2⟩ => ⟨h1, l.same h2⟩
include hco in
theorem vsettle : Calls Try.prog 66 #[.pointer (some ⟨g, 0, none⟩)] w fun e w' => e = .returned (.tuple #[.int .u64 (stR ws on), .int .i64 (stE cl on)]) ∧ DocTo w g cap (dsFoot g v) (stL ws on) false false w' := by
  cases cl
  · have h0 : on = false := by cases on <;> simp_all
    subst h0
    exact (dsettle_state g cap v ws w false l).mono fun e w' ⟨h1, h2⟩ => ⟨h1, l.same h2⟩
  · cases on
    · exact dsettle_nought g cap v ws w l
    · obtain ⟨zs, z, h1, h2, h3⟩ := last_split (l.on rfl)
      simp only [stR, stE, stL, if_true, h2, h3]
      subst h1
      exact dsettle_on g cap v w z zs l
end
/-- Both shelves, alike, in blocks from B on. -/
def Both (B : Nat) (w : World) (g h cap : Nat) (ws : List Int) (cl on : Bool) : Prop :=
  ∃ v c v2, ShelfAt w g cap v ws c ∧ c.is = cl ∧ c.isOn = on ∧ DocS w h cap v2 ws cl on ∧ Disj (shFoot g v c) (dsFoot h v2) ∧ (∀ k ∈ shFoot g v c, B ≤ k) ∧ ∀ k ∈ dsFoot h v2, B ≤ k
theorem Both.gr {B : Nat} {w w' : World} {g h cap : Nat} {ws : List Int} {cl on : Bool} (b : Both B w g h cap ws cl on) (k : Gr w w') : Both B w' g h cap ws cl on := by
  obtain ⟨v, c, v2, h1, h2, h3, h4, h5⟩ := b
  exact ⟨v, c, v2, h1.gr k, h2, h3, h4.gr k, h5⟩
/-- Blocks of marks are as they were. -/
def Marks (w w' : World) : Prop := ∀ G cs, Blk w G 4 cs → Blk w' G 4 cs
theorem ShelfAt.marks {w w' : World} {g cap : Nat} {v : Value} {ws : List Int} {c : Cl} (l : ShelfAt w g cap v ws c) (k : Ch (shFoot g v c) w w') : Marks w w' := by
  intro G cs hG
  refine hG.ch k fun hm => ?_
  simp only [shFoot, List.mem_cons, List.mem_append] at hm
  rcases hm with rfl | hm | hm
  · have := l.hdr; unfold Blk at this hG; rw [this] at hG; simp at hG
  · exact l.words.ne hG (by decide) hm
  · cases c with
    | on X => simp [Cl.bs] at hm; subst hm; have := (l.on G rfl).1; unfold Blk at this hG; rw [this] at hG; simp at hG
    | _ => simp [Cl.bs] at hm
theorem DocS.marks {w w' : World} {g cap : Nat} {v : Value} {ws : List Int} {cl on : Bool} (l : DocS w g cap v ws cl on) (k : Ch (dsFoot g v) w w') : Marks w w' := by
  intro G cs hG
  refine hG.ch k fun hm => ?_
  simp only [dsFoot, List.mem_cons] at hm
  rcases hm with rfl | hm
  · have := l.hdr; unfold Blk at this hG; rw [this] at hG; simp at hG
  · exact l.words.ne hG (by decide) hm
/-- Both have made a step: first the one, then the other. -/
theorem Both.step {B : Nat} {w w1 w2 : World} {g h cap : Nat} {ws : List Int} {v v2 : Value} {c : Cl} {cl on : Bool} (d0 : DocS w h cap v2 ws cl on) (l0 : ShelfAt w g cap v ws c) (dj : Disj (shFoot g v c) (dsFoot h v2)) (b1 : ∀ k ∈ shFoot g v c, B ≤ k) (b2 : ∀ k ∈ dsFoot h v2, B ≤ k) (hB : B ≤ w.heap.size)
    {ws' : List Int} {cl' on' : Bool} (t1 : ShelfTo w g cap (shFoot g v c) ws' cl' on' w1) (t2 : DocTo w1 h cap (dsFoot h v2) ws' cl' on' w2) : Both B w2 g h cap ws' cl' on' ∧ Below B w w2 ∧ Marks w w2 := by
  obtain ⟨v', c', s1, s2, s3, k1, f1⟩ := t1
  obtain ⟨v2', d1, k2, f2⟩ := t2
  have hin := d0.inn
  have dj1 : Disj (shFoot g v' c') (dsFoot h v2) := dj.foot hin f1
  have hsz := k1.size
  refine ⟨⟨v', c', v2', s1.ch k2 dj1, s2, s3, d1, (dj1.symm.foot s1.inn f2).symm, fun k hk => ?_, fun k hk => ?_⟩, ?_, fun G cs hG => (d0.ch k1 dj.symm).marks k2 G cs (l0.marks k1 G cs hG)⟩
  · rcases f1 k hk with h | h
    · exact b1 k h
    · omega
  · rcases f2 k hk with h | h
    · exact b2 k h
    · omega
  · refine ⟨k2.os.trans k1.os, k2.tape.trans k1.tape, k2.output.trans k1.output, Nat.le_trans k1.size k2.size, fun k hk => ?_⟩
    rw [k2.block k (by omega) (fun hm => by have := b2 k hm; omega), k1.block k (by omega) (fun hm => by have := b1 k hm; omega)]
end Go.Proofs.Ytfppmdnpjihcpaa
