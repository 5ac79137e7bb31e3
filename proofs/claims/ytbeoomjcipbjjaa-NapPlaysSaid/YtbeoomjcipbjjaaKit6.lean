/- Slices of integers wherever they lie, and the blocks that a structure takes up. No program, no conditions. -/
import Derived.Test.YtbeoomjcipbjjaaKit5
import Derived.ArgAppend
import Derived.Laws.EntriesVeiled
import Derived.Deep.RegionHeld3
import Derived.Deep.CutBlock
namespace Go.Proofs.Ytbeoomjcipbjjaa
open Go.RowKit

/-- S' lies in S, but for blocks that are new in w. -/
def Foot (w : World) (S S' : List Nat) : Prop := ∀ k ∈ S', k ∈ S ∨ w.heap.size ≤ k
/-- All blocks of S are there. -/
def In (w : World) (S : List Nat) : Prop := ∀ k ∈ S, k < w.heap.size
def Disj (S T : List Nat) : Prop := ∀ k ∈ S, k ∉ T
section
variable {w w' w'' : World} {S S' T U : List Nat}
theorem Foot.refl (w : World) (S : List Nat) : Foot w S S := fun _ h => .inl h
theorem Foot.tr (h : Foot w S S') (k : Foot w' S' T) (hs : w.heap.size ≤ w'.heap.size) : Foot w S T := fun x hx => by
  rcases k x hx with h1 | h1
  · exact h x h1
  · exact .inr (by omega)
theorem In.mono (h : In w S) (hs : w.heap.size ≤ w'.heap.size) : In w' S := fun k hk => by have := h k hk; omega
theorem Disj.symm (h : Disj S T) : Disj T S := fun k hk hS => h k hS hk
theorem Disj.foot (h : Disj S T) (hT : In w T) (f : Foot w S S') : Disj S' T := fun k hk hT' => by
  rcases f k hk with h1 | h1
  · exact h k h1 hT'
  · have := hT k hT'; omega
theorem Ch.foot (h : Ch S w w') (k : Ch S' w' w'') (f : Foot w S S') : Ch S w w'' := h.tr k f
theorem Gr.new (h : Gr w w') (k : Ch T w' w'') (f : Foot w [] T) : Gr w w'' := h.chs k (fun x hx => by rcases f x hx with h1 | h1 <;> simp_all)
end

/-- The block that a slice lies in. -/
def sb : Value → List Nat | .slice (some a) _ _ => [a.block] | _ => []
/-- A slice of integers: nil, or a part of a block whose cells are known, with its spare cells. -/
def Sl (e : TypeId) (k : IntKind) (w : World) (v : Value) (zs : List Int) : Prop :=
  ∃ a cp, v = .slice a zs.length cp ∧ zs.length ≤ cp ∧ cp ≤ 9223372036854775807 ∧
    ((a = none ∧ cp = 0) ∨ ∃ b off cur, a = some ⟨b, off, none⟩ ∧ Blk w b e cur ∧ off + cp ≤ cur.size ∧ ∀ i x, zs[i]? = some x → cur[off + i]? = some (.int k x))
section
variable {w w' : World} {e : TypeId} {k : IntKind} {v : Value} {zs : List Int} {S : List Nat}
theorem Sl.nil (e : TypeId) (k : IntKind) (w : World) : Sl e k w (.slice none 0 0) [] := ⟨none, 0, rfl, by simp, by omega, .inl ⟨rfl, rfl⟩⟩
theorem Sl.ch (h : Sl e k w v zs) (c : Ch S w w') (hS : Disj (sb v) S) : Sl e k w' v zs := by
  obtain ⟨a, cp, rfl, h1, h2, h3⟩ := h
  refine ⟨a, cp, rfl, h1, h2, ?_⟩
  rcases h3 with h3 | ⟨b, off, cur, rfl, h5, h6⟩
  · exact .inl h3
  · exact .inr ⟨b, off, cur, rfl, h5.ch c (hS b (by simp [sb])), h6⟩
theorem Sl.gr (h : Sl e k w v zs) (c : Gr w w') : Sl e k w' v zs := h.ch (c.ch []) (fun _ _ => by simp)
theorem Sl.inn (h : Sl e k w v zs) : In w (sb v) := by
  obtain ⟨a, cp, rfl, h1, h2, h3⟩ := h
  rcases h3 with ⟨rfl, _⟩ | ⟨b', off, cur, rfl, h5, h6⟩
  · intro b hb; simp [sb] at hb
  · intro b hb; simp [sb] at hb; subst hb; exact h5.lt
theorem Sl.ne {A : Nat} {t : TypeId} {cs : Array Value} (h : Sl e k w v zs) (hA : Blk w A t cs) (ht : t ≠ e) : A ∉ sb v := by
  obtain ⟨a, cp, rfl, h1, h2, h3⟩ := h
  rcases h3 with ⟨rfl, _⟩ | ⟨b', off, cur, rfl, h5, h6⟩
  · simp [sb]
  · intro hb
    simp [sb] at hb
    subst hb
    unfold Blk at hA h5
    rw [hA] at h5
    cases h5
    exact ht rfl
theorem Sl.len (h : Sl e k w v zs) : ∃ a cp, v = .slice a zs.length cp ∧ zs.length ≤ cp ∧ cp ≤ 9223372036854775807 := by
  obtain ⟨a, cp, h1, h2, h3, _⟩ := h
  exact ⟨a, cp, h1, h2, h3⟩
/-- An owned row is such a slice. -/
theorem Sl.of_own {B : Nat} (h : w.ownsRow B e 1 v zs.length (intCells k zs)) : Sl e k w v zs := by
  rcases h.2 with ⟨rfl, hn⟩ | ⟨g, cap, cur, rfl, hb, hg, hn, hc, hs, ht⟩
  · exact ⟨none, 0, by rw [hn], by omega, by omega, .inl ⟨rfl, rfl⟩⟩
  · refine ⟨_, cap, rfl, hn, by unfold maxLen at hc; omega, .inr ⟨g, 0, cur, rfl, hg, ?_, fun i x hx => ?_⟩⟩
    · omega
    · rw [Nat.zero_add, ← Array.getElem?_toList]
      have hl : (intCells k zs)[i]? = some (.int k x) := by simp [intCells, hx]
      rw [← ht, List.getElem?_take] at hl
      split at hl
      · exact hl
      · cases hl
theorem own_sb {B : Nat} {size n : Nat} {xs : List Value} (h : w.ownsRow B e size v n xs) : ∀ b ∈ sb v, B ≤ b := by
  rcases h.2 with ⟨rfl, hn⟩ | ⟨g, cap, cur, rfl, hb, hg, hn, hc, hs, ht⟩
  · simp [sb]
  · simpa [sb] using hb
/-- A slice that has elements: its cells. -/
theorem Sl.cells (h : Sl e k w v zs) (h0 : 0 < zs.length) : ∃ b off cp, v = .slice (some ⟨b, off, none⟩) zs.length cp ∧ zs.length ≤ cp ∧ cp ≤ 9223372036854775807 ∧ (∀ i, i < zs.length → w.cell? ⟨b, off + i, none⟩ = some (.int k (zs.getD i 0))) ∧ (∀ j, w.frozen? ⟨b, j, none⟩ = false) ∧ b < w.heap.size := by
  obtain ⟨a, cp, rfl, h1, h2, h3⟩ := h
  rcases h3 with ⟨rfl, h3⟩ | ⟨b, off, cur, rfl, h5, h6, h7⟩
  · omega
  · refine ⟨b, off, cp, rfl, h1, h2, fun i hi => ?_, h5.frozen, h5.lt⟩
    rw [h5.cell]
    exact h7 i _ (by simp [hi])
/-- A part of it. -/
theorem Sl.row (h : Sl e k w v zs) : ∃ a cp, v = .slice a zs.length cp ∧ zs.length ≤ cp ∧ cp ≤ 9223372036854775807 ∧ RowAt k w a zs := by
  obtain ⟨a, cp, rfl, h1, h2, h3⟩ := h
  refine ⟨a, cp, rfl, h1, h2, ?_⟩
  rcases h3 with ⟨rfl, h3⟩ | ⟨b, off, cur, rfl, h5, h6, h7⟩
  · exact .inl (List.eq_nil_of_length_eq_zero (by omega))
  · refine .inr ⟨b, off, rfl, fun i hi => ?_⟩
    rw [h5.cell]
    exact h7 i _ (by simp [hi])
/-- One element is stored. -/
theorem Sl.st {b off cp : Nat} (h : Sl e k w (.slice (some ⟨b, off, none⟩) zs.length cp) zs) (i : Nat) (hi : i < zs.length) (x : Int) : Sl e k (w.setCell ⟨b, off + i, none⟩ (.int k x)) (.slice (some ⟨b, off, none⟩) (zs.set i x).length cp) (zs.set i x) := by
  obtain ⟨a, cp', he, h1, h2, h3⟩ := h
  injection he with e1 e2 e3
  subst e1 e3
  rcases h3 with ⟨h3, _⟩ | ⟨b', off', cur, h3, h5, h6, h7⟩
  · cases h3
  · injection h3 with h3
    injection h3 with h3 h4
    subst h3 h4
    refine ⟨_, cp, rfl, by simpa using h1, h2, .inr ⟨b, off, cur.setIfInBounds (off + i) (.int k x), rfl, h5.st _ _, by simpa using h6, fun j y hj => ?_⟩⟩
    rw [List.getElem?_set] at hj
    rw [Array.getElem?_setIfInBounds]
    by_cases hji : i = j
    · subst hji
      rw [if_pos rfl, if_pos hi] at hj
      rw [if_pos rfl, if_pos (by omega)]
      cases hj
      rfl
    · rw [if_neg hji] at hj
      rw [if_neg (by omega)]
      exact h7 j y hj
end
/-- append(s, x), of one element: 'w' is the world ahead of the one-element slice that is laid for x. -/
theorem wpList_sl1 {P : Program} {t e : TypeId} {z0 : Value} {bytes : Nat} (E : Elem P t e z0 1 bytes) (k : IntKind) {ops : Array Oper} {rest : List Oper} {o : Oper} {a : Act} {Q : Exit → Act → World → Prop} (s x : Operand) (v : Value) (ws : List Int) (z : Int) (c : Nat) (w : World)
    (hgd : o.guard = none) (ho : o.op = .call { callee := .builtin .append, args := #[s, x], argTypes := #[t, t] })
    (hs : a.eval s = v) (hx : a.eval x = .slice (some ⟨w.heap.size, 0, none⟩) 1 c) (hw : Sl e k w v ws) (hl : (ws.length + 1) * bytes ≤ 140737488355328) (hl1 : ws.length < 9223372036854775807)
    (h : ∀ v' w', Sl e k w' v' (ws ++ [z]) → Ch (sb v) w w' → Foot w (sb v) (sb v') → wpList P ops Q rest (a.put o.dst v') w') :
    wpList P ops Q (o :: rest) a (w.alloc (.cells #[.int k z] e)) := by
  obtain ⟨ao, cp, rfl, h1, h2, h3⟩ := hw
  obtain ⟨i, hi, hz, hs1, hs2⟩ := info_parts E.info
  have hnew : ∀ j u, [Value.int k z][j]? = some u → (w.alloc (.cells #[.int k z] e)).cell? ((⟨w.heap.size, 0, none⟩ : Addr).add j) = some u := by
    intro j u hu
    have hadd : (⟨w.heap.size, 0, none⟩ : Addr).add j = ⟨w.heap.size, j, none⟩ := by unfold Addr.add; split <;> simp_all
    rw [hadd, World.cell?_alloc_new]
    simpa using hu
  have hgrow : cp < ws.length + 1 → ∀ v' w', w'.ownsRow (w.alloc (.cells #[.int k z] e)).heap.size e 1 v' (ws.length + 1) (intCells k ws ++ [.int k z]) → (w.alloc (.cells #[.int k z] e)).grownBy w' none → wpList P ops Q rest (a.put o.dst v') w' := by
    intro hc v' w' how hgr
    have hsz := World.size_alloc w (.cells #[.int k z] e)
    refine h v' w' (Sl.of_own (B := (w.alloc (.cells #[.int k z] e)).heap.size) (by simpa [intCells] using how)) ?_ ?_
    · refine ⟨hgr.os, hgr.tape, hgr.output, by have := hgr.size; omega, fun j hk hS => ?_⟩
      rw [hgr.block j (by omega) (by simp), Below.heap_alloc w _ j hk]
    · intro b hb
      have := own_sb how b hb
      exact .inr (by omega)
  rcases h3 with ⟨rfl, hcp⟩ | ⟨b, off, cur, rfl, hblk, hoff, hcur⟩
  · have h0 : ws.length = 0 := by omega
    refine wpList_append_grows _ hgd s x t ho e i _ 1 bytes E.und hi hz hs1 hs2 E.zs E.pos none ws.length cp (intCells k ws) hs (fun _ => ⟨h0, hcp⟩) (by simp [intCells]) (by simp) ⟨w.heap.size, 0, none⟩ 1 c [.int k z] hx rfl hnew (by simp [Value.oneCell']) (by omega) (by unfold maxLen; omega) hl (hgrow (by omega))
  · have hblk' : Blk (w.alloc (.cells #[.int k z] e)) b e cur := hblk.al _
    refine wpList_append_arg _ hgd s x t ho e i _ 1 bytes E.und hi hz hs1 hs2 E.zs E.pos b off ws.length cp (intCells k ws) hs (by simp [intCells]) ?_ ⟨w.heap.size, 0, none⟩ 1 c [.int k z] hx rfl hnew (by simp [Value.oneCell']) ?_ (by unfold maxLen; omega) hl ?_ hgrow
    · intro j u hu
      rw [hblk'.cell]
      simp only [intCells, List.getElem?_map, Option.map_eq_some_iff] at hu
      obtain ⟨y, hy, rfl⟩ := hu
      exact hcur j y hy
    · intro hr j hj
      simp at hj
      subst hj
      rw [hblk'.cell]
      exact ⟨by rw [Array.getElem?_eq_getElem (by omega)]; rfl, hblk'.frozen _⟩
    · intro hr
      refine h _ _ ⟨some ⟨b, off, none⟩, cp, by simp, by simp; omega, h2, .inr ⟨b, off, cur.setIfInBounds (off + ws.length) (.int k z), rfl, ?_, by simpa using hoff, ?_⟩⟩ ?_ (fun b' hb' => .inl hb')
      · have := hblk'.st (off + ws.length * 1) (.int k z)
        simpa [World.setCells] using this
      · intro j y hk
        rw [List.getElem?_append] at hk
        split at hk
        · rename_i hlt
          rw [Array.getElem?_setIfInBounds, if_neg (by omega)]
          exact hcur j y hk
        · rename_i hlt
          have : j - ws.length = 0 := by
            cases hz' : j - ws.length
            · rfl
            · rw [hz'] at hk; simp at hk
          rw [this] at hk
          simp at hk
          subst hk
          rw [show off + j = off + ws.length by omega, Array.getElem?_setIfInBounds, if_pos rfl, if_pos (by omega)]
      · have k1 : Ch [b] w (w.alloc (.cells #[.int k z] e)) := (Ch.refl _ _).al _
        have := k1.st (p := ⟨b, off + ws.length * 1, none⟩) (by simp) (.int k z)
        simpa [World.setCells, sb] using this
theorem Blk.sts {b : Nat} {t : TypeId} : ∀ (news : List Value) (o : Nat) (w : World) (cur : Array Value), Blk w b t cur → o + news.length ≤ cur.size →
    ∃ cur' : Array Value, Blk (w.setCells b o news) b t cur' ∧ cur'.size = cur.size ∧ (∀ j, j < o → cur'[j]? = cur[j]?) ∧ ∀ j x, news[j]? = some x → cur'[o + j]? = some x
  | [], o, w, cur, h, _ => ⟨cur, h, rfl, fun _ _ => rfl, by simp⟩
  | v :: r, o, w, cur, h, hl => by
    simp only [List.length_cons] at hl
    obtain ⟨cur', h1, h2, h3, h4⟩ := Blk.sts r (o + 1) _ _ (h.st o v) (by simp; omega)
    refine ⟨cur', h1, by simpa using h2, fun j hj => ?_, fun j x hx => ?_⟩
    · rw [h3 j (by omega), Array.getElem?_setIfInBounds, if_neg (by omega)]
    · cases j with
      | zero =>
        simp at hx
        subst hx
        rw [Nat.add_zero, h3 o (by omega), Array.getElem?_setIfInBounds, if_pos rfl, if_pos (by omega)]
      | succ j =>
        have := h4 j x (by simpa using hx)
        rwa [show o + (j + 1) = o + 1 + j by omega]
theorem Ch.sts {S : List Nat} {a : World} {b : Nat} (hb : b ∈ S ∨ a.heap.size ≤ b) : ∀ (news : List Value) (o : Nat) (w : World), Ch S a w → Ch S a (w.setCells b o news)
  | [], _, _, h => h
  | v :: r, o, _, h => Ch.sts hb r (o + 1) _ (h.st (p := ⟨b, o, none⟩) hb v)
theorem run_append_nil_src {P : Program} {t e : TypeId} {z0 : Value} {bytes : Nat} (E : Elem P t e z0 1 bytes) (ty : TypeId) (k : IntKind) (w : World) (v : Value) (ws : List Int) (h : Sl e k w v ws) (c : Nat) :
    (Builtin.append_ #[t, t] ty #[v, .slice none 0 c]).run P w = .ok v w := by
  obtain ⟨ao, cp, rfl, h1, h2, h3⟩ := h
  obtain ⟨i, hi, hz, hs1, hs2⟩ := info_parts E.info
  rcases h3 with ⟨rfl, hcp⟩ | ⟨b, off, cur, rfl, hblk, hoff, hcur⟩
  · have h0 : ws.length = 0 := by omega
    rw [h0, hcp]
    simp [Builtin.append_, run_underlying E.und, sizeOf, typeInfo, hi, Builtin.lenOf, Builtin.firstCells]
  · simp [Builtin.append_, run_underlying E.und, sizeOf, typeInfo, hi, Builtin.lenOf, Builtin.firstCells, h1, storeCells]
/-- append(s, u...): both wherever they lie. -/
theorem wpList_slA {P : Program} {t e : TypeId} {z0 : Value} {bytes : Nat} (E : Elem P t e z0 1 bytes) (k : IntKind) {ops : Array Oper} {rest : List Oper} {o : Oper} {a : Act} {Q : Exit → Act → World → Prop} (s x : Operand) (v u : Value) (ws ys : List Int) (w : World)
    (hgd : o.guard = none) (ho : o.op = .call { callee := .builtin .append, args := #[s, x], argTypes := #[t, t] })
    (hs : a.eval s = v) (hx : a.eval x = u) (hw : Sl e k w v ws) (hu : Sl e k w u ys) (hl : (ws.length + ys.length) * bytes ≤ 140737488355328) (hl1 : ws.length + ys.length ≤ 9223372036854775807)
    (h : ∀ v' w', Sl e k w' v' (ws ++ ys) → Ch (sb v) w w' → Foot w (sb v) (sb v') → wpList P ops Q rest (a.put o.dst v') w') :
    wpList P ops Q (o :: rest) a w := by
  have hw0 := hw
  obtain ⟨au, cu, rfl, u1, u2, u3⟩ := hu
  obtain ⟨i, hi, hz, hs1, hs2⟩ := info_parts E.info
  rcases u3 with ⟨rfl, rfl⟩ | ⟨bu, offu, curu, rfl, ublk, uoff, ucur⟩
  · have h0 : ys = [] := List.eq_nil_of_length_eq_zero (by omega)
    subst h0
    refine wpList_plain hgd fun K hK => ?_
    have hrun := run_append_nil_src E o.type k w v ws hw 0
    unfold Oper.wp
    simp only [List.length_nil] at hx
    simp [execOp, ho, resolve, invoke, builtin, hs, hx, hrun, Result.andThen]
    exact hK _ _ (h v w (by simpa using hw) (Ch.refl _ _) (Foot.refl _ _))
  · have hnew : ∀ j c, (intCells k ys)[j]? = some c → w.cell? ((⟨bu, offu, none⟩ : Addr).add j) = some c := by
      intro j c hc
      have hadd : (⟨bu, offu, none⟩ : Addr).add j = ⟨bu, offu + j, none⟩ := by
        unfold Addr.add
        split
        · rename_i hj; subst hj; rfl
        · rfl
      rw [hadd, ublk.cell]
      simp only [intCells, List.getElem?_map, Option.map_eq_some_iff] at hc
      obtain ⟨y, hy, rfl⟩ := hc
      exact ucur j y hy
    have h1c : ∀ c ∈ intCells k ys, c.oneCell' = true := by
      intro c hc
      simp only [intCells, List.mem_map] at hc
      obtain ⟨y, _, rfl⟩ := hc
      rfl
    obtain ⟨ao, cp, rfl, h1, h2, h3⟩ := hw
    rcases h3 with ⟨rfl, rfl⟩ | ⟨b, off, cur, rfl, hblk, hoff, hcur⟩
    · have h0 : ws = [] := List.eq_nil_of_length_eq_zero (by omega)
      subst h0
      refine wpList_append_own w hgd s x t ho w.heap.size e i _ 1 bytes E.und hi hz hs1 hs2 E.zs E.pos (.slice none 0 0) 0 [] hs ⟨rfl, .inl ⟨rfl, rfl⟩⟩ ⟨bu, offu, none⟩ ys.length cu (intCells k ys) hx (by simp [intCells]) hnew h1c (by unfold maxLen; simpa using hl1) (by simpa using hl) (Nat.le_refl _) ?_
      intro v' w' hown hgr _
      refine h v' w' (Sl.of_own (B := w.heap.size) (by simpa using hown)) ⟨hgr.os, hgr.tape, hgr.output, hgr.size, fun j hj _ => hgr.block j hj (by simp [Value.ownBlock])⟩ (fun b hb => .inr (own_sb hown b hb))
    · refine wpList_append_arg w hgd s x t ho e i _ 1 bytes E.und hi hz hs1 hs2 E.zs E.pos b off ws.length cp (intCells k ws) hs (by simp [intCells]) ?_ ⟨bu, offu, none⟩ ys.length cu (intCells k ys) hx (by simp [intCells]) hnew h1c ?_ (by unfold maxLen; exact hl1) hl ?_ ?_
      · intro j c hc
        rw [hblk.cell]
        simp only [intCells, List.getElem?_map, Option.map_eq_some_iff] at hc
        obtain ⟨y, hy, rfl⟩ := hc
        exact hcur j y hy
      · intro hr j hj
        simp [intCells] at hj
        rw [hblk.cell]
        exact ⟨by rw [Array.getElem?_eq_getElem (by omega)]; rfl, hblk.frozen _⟩
      · intro hr
        obtain ⟨cur', k1, k2, k3, k4⟩ := Blk.sts (intCells k ys) (off + ws.length * 1) w cur hblk (by simp [intCells]; omega)
        refine h _ _ ⟨some ⟨b, off, none⟩, cp, by simp, by simpa using hr, h2, .inr ⟨b, off, cur', rfl, k1, by omega, ?_⟩⟩ (Ch.sts (by simp [sb]) _ _ _ (Ch.refl _ _)) (fun b' hb' => .inl hb')
        intro j y hj
        rw [List.getElem?_append] at hj
        split at hj
        · rw [k3 _ (by omega)]
          exact hcur j y hj
        · have := k4 (j - ws.length) (.int k y) (by simp [intCells, hj])
          rwa [show off + ws.length * 1 + (j - ws.length) = off + j by omega] at this
      · intro hc v' w' how hgr
        refine h v' w' (Sl.of_own (B := w.heap.size) (by simpa [intCells] using how)) ⟨hgr.os, hgr.tape, hgr.output, hgr.size, fun j hj _ => hgr.block j hj (by simp)⟩ (fun b hb => .inr (own_sb how b hb))
/-- s[lo:hi], of a slice that is there. -/
theorem Sl.drop1 {e : TypeId} {k : IntKind} {w : World} {z : Int} {zs : List Int} {b off cp : Nat} (h : Sl e k w (.slice (some ⟨b, off, none⟩) (z :: zs).length cp) (z :: zs)) : Sl e k w (.slice (some ⟨b, if cp = 1 then off else off + 1, none⟩) zs.length (cp - 1)) zs := by
  obtain ⟨a, cp', he, h1, h2, h3⟩ := h
  injection he with e1 e2 e3
  subst e1 e3
  rcases h3 with ⟨h3, _⟩ | ⟨b', off', cur, h3, h5, h6, h7⟩
  · cases h3
  · injection h3 with h3
    injection h3 with h3 h4
    subst h3 h4
    simp only [List.length_cons] at h1
    refine ⟨_, cp - 1, rfl, by omega, by omega, .inr ⟨b, _, cur, rfl, h5, by split <;> omega, fun j y hj => ?_⟩⟩
    have hj' : j < zs.length := (List.getElem?_eq_some_iff.1 hj).1
    rw [if_neg (by omega)]
    have := h7 (j + 1) y (by simpa using hj)
    rwa [show off + 1 + j = off + (j + 1) by omega]
theorem Sl.take {e : TypeId} {k : IntKind} {w : World} {zs : List Int} {b off cp : Nat} (h : Sl e k w (.slice (some ⟨b, off, none⟩) zs.length cp) zs) (n : Nat) (hn : n ≤ zs.length) : Sl e k w (.slice (some ⟨b, off, none⟩) n cp) (zs.take n) := by
  obtain ⟨a, cp', he, h1, h2, h3⟩ := h
  injection he with e1 e2 e3
  subst e1 e3
  have hl : (zs.take n).length = n := by simp; omega
  refine ⟨_, cp, by rw [hl], by omega, h2, ?_⟩
  rcases h3 with h3 | ⟨b', off', cur, h3, h5, h6, h7⟩
  · exact .inl h3
  · refine .inr ⟨b', off', cur, h3, h5, h6, fun j y hj => ?_⟩
    rw [List.getElem?_take] at hj
    split at hj
    · exact h7 j y hj
    · cases hj
end Go.Proofs.Ytbeoomjcipbjjaa
