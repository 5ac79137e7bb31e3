/- Slices of plain structs wherever they lie, as rows of cells: their cells, parts, appends. No program, no conditions. -/
import Derived.Test.YtbeoomjcipbjjaaKit6
namespace Go.Proofs.Ytbeoomjcipbjjaa
open Go.RowKit

/-- A slice of n elements of m cells each, whose cells are xs: nil, or a part of a block. -/
def SC (m : Nat) (e : TypeId) (w : World) (v : Value) (n : Nat) (xs : List Value) : Prop :=
  xs.length = n * m ∧ (∀ c ∈ xs, c.oneCell' = true) ∧ ∃ a cp, v = .slice a n cp ∧ n ≤ cp ∧ cp ≤ 9223372036854775807 ∧
    ((a = none ∧ cp = 0) ∨ ∃ b off cur, a = some ⟨b, off, none⟩ ∧ Blk w b e cur ∧ off + cp * m ≤ cur.size ∧ ∀ i c, xs[i]? = some c → cur[off + i]? = some c)
section
variable {w w' : World} {e : TypeId} {m n : Nat} {v : Value} {xs : List Value} {S : List Nat}
theorem SC.nil (m : Nat) (e : TypeId) (w : World) : SC m e w (.slice none 0 0) 0 [] := ⟨by simp, by simp, none, 0, rfl, by omega, by omega, .inl ⟨rfl, rfl⟩⟩
theorem SC.ch (h : SC m e w v n xs) (c : Ch S w w') (hS : Disj (sb v) S) : SC m e w' v n xs := by
  obtain ⟨g1, g2, a, cp, rfl, h1, h2, h3⟩ := h
  refine ⟨g1, g2, a, cp, rfl, h1, h2, ?_⟩
  rcases h3 with h3 | ⟨b, off, cur, rfl, h5, h6⟩
  · exact .inl h3
  · exact .inr ⟨b, off, cur, rfl, h5.ch c (hS b (by simp [sb])), h6⟩
theorem SC.gr (h : SC m e w v n xs) (c : Gr w w') : SC m e w' v n xs := h.ch (c.ch []) (fun _ _ => by simp)
theorem SC.inn (h : SC m e w v n xs) : In w (sb v) := by
  obtain ⟨g1, g2, a, cp, rfl, h1, h2, h3⟩ := h
  rcases h3 with ⟨rfl, _⟩ | ⟨b', off, cur, rfl, h5, h6⟩
  · intro b hb; simp [sb] at hb
  · intro b hb; simp [sb] at hb; subst hb; exact h5.lt
theorem SC.ne {A : Nat} {t : TypeId} {cs : Array Value} (h : SC m e w v n xs) (hA : Blk w A t cs) (ht : t ≠ e) : A ∉ sb v := by
  obtain ⟨g1, g2, a, cp, rfl, h1, h2, h3⟩ := h
  rcases h3 with ⟨rfl, _⟩ | ⟨b', off, cur, rfl, h5, h6⟩
  · simp [sb]
  · intro hb
    simp [sb] at hb
    subst hb
    unfold Blk at hA h5
    rw [hA] at h5
    cases h5
    exact ht rfl
theorem SC.len (h : SC m e w v n xs) : ∃ a cp, v = .slice a n cp ∧ n ≤ cp ∧ cp ≤ 9223372036854775807 := by
  obtain ⟨_, _, a, cp, h1, h2, h3, _⟩ := h
  exact ⟨a, cp, h1, h2, h3⟩
theorem SC.of_own {B : Nat} (h : w.ownsRow B e m v n xs) (h1 : ∀ c ∈ xs, c.oneCell' = true) : SC m e w v n xs := by
  refine ⟨h.1, h1, ?_⟩
  rcases h.2 with ⟨rfl, hn⟩ | ⟨g, cap, cur, rfl, hb, hg, hn, hc, hs, ht⟩
  · exact ⟨none, 0, by rw [hn], by omega, by omega, .inl ⟨rfl, rfl⟩⟩
  · refine ⟨_, cap, rfl, hn, by unfold maxLen at hc; omega, .inr ⟨g, 0, cur, rfl, hg, ?_, fun i x hx => ?_⟩⟩
    · omega
    · rw [Nat.zero_add, ← Array.getElem?_toList]
      rw [← ht, List.getElem?_take] at hx
      split at hx
      · exact hx
      · cases hx
/-- A slice that has elements: its cells. -/
theorem SC.cells (h : SC m e w v n xs) (h0 : 0 < n) : ∃ b off cp, v = .slice (some ⟨b, off, none⟩) n cp ∧ n ≤ cp ∧ cp ≤ 9223372036854775807 ∧ (∀ i c, xs[i]? = some c → w.cell? ⟨b, off + i, none⟩ = some c) ∧ (∀ j, w.frozen? ⟨b, j, none⟩ = false) ∧ b < w.heap.size := by
  obtain ⟨g1, g2, a, cp, rfl, h1, h2, h3⟩ := h
  rcases h3 with ⟨rfl, h3⟩ | ⟨b, off, cur, rfl, h5, h6, h7⟩
  · omega
  · exact ⟨b, off, cp, rfl, h1, h2, fun i c hi => by rw [h5.cell]; exact h7 i _ hi, h5.frozen, h5.lt⟩
theorem SC.take {b off cp : Nat} (h : SC m e w (.slice (some ⟨b, off, none⟩) n cp) n xs) (k : Nat) (hk : k ≤ n) : SC m e w (.slice (some ⟨b, off, none⟩) k cp) k (xs.take (k * m)) := by
  obtain ⟨g1, g2, a, cp', he, h1, h2, h3⟩ := h
  injection he with e1 e2 e3
  subst e1 e3
  have := Nat.mul_le_mul_right m hk
  refine ⟨by rw [List.length_take]; omega, fun c hc => g2 c (List.mem_of_mem_take hc), _, cp, rfl, by omega, h2, ?_⟩
  rcases h3 with h3 | ⟨b', off', cur, h3, h5, h6, h7⟩
  · exact .inl h3
  · refine .inr ⟨b', off', cur, h3, h5, h6, fun j y hj => ?_⟩
    rw [List.getElem?_take] at hj
    split at hj
    · exact h7 j y hj
    · cases hj
theorem SC.drop {b off cp : Nat} (h : SC m e w (.slice (some ⟨b, off, none⟩) n cp) n xs) (k : Nat) (hk : k ≤ n) : SC m e w (.slice (some ⟨b, off + k * m, none⟩) (n - k) (cp - k)) (n - k) (xs.drop (k * m)) := by
  obtain ⟨g1, g2, a, cp', he, h1, h2, h3⟩ := h
  injection he with e1 e2 e3
  subst e1 e3
  have hm := Nat.mul_le_mul_right m hk
  have hm2 : (n - k) * m = n * m - k * m := Nat.sub_mul n k m
  have hm3 : (cp - k) * m = cp * m - k * m := Nat.sub_mul cp k m
  have hm4 := Nat.mul_le_mul_right m h1
  refine ⟨by rw [List.length_drop]; omega, fun c hc => g2 c (List.mem_of_mem_drop hc), _, cp - k, rfl, by omega, by omega, ?_⟩
  rcases h3 with ⟨h3, _⟩ | ⟨b', off', cur, h3, h5, h6, h7⟩
  · cases h3
  · injection h3 with h3
    injection h3 with h3 h4
    subst h3 h4
    refine .inr ⟨b, _, cur, rfl, h5, by omega, fun j y hj => ?_⟩
    rw [List.getElem?_drop] at hj
    have := h7 (k * m + j) y hj
    rwa [show off + k * m + j = off + (k * m + j) by omega]
/-- No elements, at a slice's base. -/
theorem SC.none_at {b off cp : Nat} (h : SC m e w (.slice (some ⟨b, off, none⟩) n cp) n xs) : SC m e w (.slice (some ⟨b, off, none⟩) 0 0) 0 [] := by
  obtain ⟨g1, g2, a, cp', he, h1, h2, h3⟩ := h
  injection he with e1 e2 e3
  subst e1 e3
  refine ⟨by simp, by simp, _, 0, rfl, by omega, by omega, ?_⟩
  rcases h3 with ⟨h3, _⟩ | ⟨b', off', cur, h3, h5, h6, h7⟩
  · cases h3
  · exact .inr ⟨b', off', cur, h3, h5, by omega, fun j y hj => by simp at hj⟩
end
theorem run_append_nilC {P : Program} {t e : TypeId} {z0 : Value} {m bytes : Nat} (E : Elem P t e z0 m bytes) (ty : TypeId) (w : World) (v : Value) (n : Nat) (xs : List Value) (h : SC m e w v n xs) (c : Nat) :
    (Builtin.append_ #[t, t] ty #[v, .slice none 0 c]).run P w = .ok v w := by
  obtain ⟨g1, g2, ao, cp, rfl, h1, h2, h3⟩ := h
  obtain ⟨i, hi, hz, hs1, hs2⟩ := info_parts E.info
  rcases h3 with ⟨rfl, hcp⟩ | ⟨b, off, cur, rfl, hblk, hoff, hcur⟩
  · have h0 : n = 0 := by omega
    rw [h0, hcp]
    simp [Builtin.append_, run_underlying E.und, sizeOf, typeInfo, hi, Builtin.lenOf, Builtin.firstCells]
  · simp [Builtin.append_, run_underlying E.und, sizeOf, typeInfo, hi, Builtin.lenOf, Builtin.firstCells, h1, storeCells]
/-- append(s, u...): both wherever they lie. -/
theorem wpList_scA {P : Program} {t e : TypeId} {z0 : Value} {m bytes : Nat} (E : Elem P t e z0 m bytes) {ops : Array Oper} {rest : List Oper} {o : Oper} {a : Act} {Q : Exit → Act → World → Prop} (s x : Operand) (v u : Value) (n k : Nat) (xs ys : List Value) (w : World)
    (hgd : o.guard = none) (ho : o.op = .call { callee := .builtin .append, args := #[s, x], argTypes := #[t, t] })
    (hs : a.eval s = v) (hx : a.eval x = u) (hw : SC m e w v n xs) (hu : SC m e w u k ys) (hl : (n + k) * bytes ≤ 140737488355328) (hl1 : n + k ≤ 9223372036854775807)
    (h : ∀ v' w', SC m e w' v' (n + k) (xs ++ ys) → Ch (sb v) w w' → Foot w (sb v) (sb v') → wpList P ops Q rest (a.put o.dst v') w') :
    wpList P ops Q (o :: rest) a w := by
  have hw0 := hw
  obtain ⟨gu1, gu2, au, cu, rfl, u1, u2, u3⟩ := hu
  obtain ⟨i, hi, hz, hs1, hs2⟩ := info_parts E.info
  rcases u3 with ⟨rfl, rfl⟩ | ⟨bu, offu, curu, rfl, ublk, uoff, ucur⟩
  · obtain rfl : k = 0 := by omega
    have h0 : ys = [] := List.eq_nil_of_length_eq_zero (by simpa using gu1)
    subst h0
    refine wpList_plain hgd fun K hK => ?_
    have hrun := run_append_nilC E o.type w v n xs hw 0
    unfold Oper.wp
    simp [execOp, ho, resolve, invoke, builtin, hs, hx, hrun, Result.andThen]
    exact hK _ _ (h v w (by simpa using hw) (Ch.refl _ _) (Foot.refl _ _))
  · have hnew : ∀ j c, ys[j]? = some c → w.cell? ((⟨bu, offu, none⟩ : Addr).add j) = some c := by
      intro j c hc
      have hadd : (⟨bu, offu, none⟩ : Addr).add j = ⟨bu, offu + j, none⟩ := by
        unfold Addr.add
        split
        · rename_i hj; subst hj; rfl
        · rfl
      rw [hadd, ublk.cell]
      exact ucur j c hc
    obtain ⟨g1, g2, ao, cp, rfl, h1, h2, h3⟩ := hw
    have hone : ∀ c ∈ xs ++ ys, c.oneCell' = true := fun c hc => (List.mem_append.1 hc).elim (g2 c) (gu2 c)
    have hlen : (xs ++ ys).length = (n + k) * m := by rw [List.length_append, g1, gu1, Nat.add_mul]
    rcases h3 with ⟨rfl, rfl⟩ | ⟨b, off, cur, rfl, hblk, hoff, hcur⟩
    · obtain rfl : n = 0 := by omega
      have h0 : xs = [] := List.eq_nil_of_length_eq_zero (by simpa using g1)
      subst h0
      refine wpList_append_own w hgd s x t ho w.heap.size e i _ m bytes E.und hi hz hs1 hs2 E.zs E.pos (.slice none 0 0) 0 [] hs ⟨by simp, .inl ⟨rfl, rfl⟩⟩ ⟨bu, offu, none⟩ k cu ys hx gu1 hnew gu2 (by unfold maxLen; simpa using hl1) (by simpa using hl) (Nat.le_refl _) ?_
      intro v' w' hown hgr _
      refine h v' w' (SC.of_own (B := w.heap.size) (by simpa using hown) hone) ⟨hgr.os, hgr.tape, hgr.output, hgr.size, fun j hj _ => hgr.block j hj (by simp [Value.ownBlock])⟩ (fun b hb => .inr (own_sb hown b hb))
    · refine wpList_append_arg w hgd s x t ho e i _ m bytes E.und hi hz hs1 hs2 E.zs E.pos b off n cp xs hs g1 ?_ ⟨bu, offu, none⟩ k cu ys hx gu1 hnew gu2 ?_ (by unfold maxLen; exact hl1) hl ?_ ?_
      · intro j c hc
        rw [hblk.cell]
        exact hcur j c hc
      · intro hr j hj
        have hm := Nat.mul_le_mul_right m hr
        rw [Nat.add_mul] at hm
        rw [hblk.cell]
        exact ⟨by rw [Array.getElem?_eq_getElem (by omega)]; rfl, hblk.frozen _⟩
      · intro hr
        have hm := Nat.mul_le_mul_right m hr
        rw [Nat.add_mul] at hm
        obtain ⟨cur', k1, k2, k3, k4⟩ := Blk.sts ys (off + n * m) w cur hblk (by omega)
        refine h _ _ ⟨hlen, hone, some ⟨b, off, none⟩, cp, rfl, hr, h2, .inr ⟨b, off, cur', rfl, k1, by omega, ?_⟩⟩ (Ch.sts (by simp [sb]) _ _ _ (Ch.refl _ _)) (fun b' hb' => .inl hb')
        intro j y hj
        rw [List.getElem?_append] at hj
        split at hj
        · rw [k3 _ (by omega)]
          exact hcur j y hj
        · have := k4 (j - xs.length) y hj
          rwa [show off + n * m + (j - xs.length) = off + j by omega] at this
      · intro hc v' w' how hgr
        refine h v' w' (SC.of_own (B := w.heap.size) how hone) ⟨hgr.os, hgr.tape, hgr.output, hgr.size, fun j hj _ => hgr.block j hj (by simp)⟩ (fun b hb => .inr (own_sb how b hb))
/-- The slice that is laid for one element. -/
theorem SC.one {m : Nat} {e : TypeId} (w : World) (us : Array Value) (hs : us.size = m) (h1 : us.toList.all (fun u => u.oneCell') = true) : SC m e (w.alloc (.cells us e)) (.slice (some ⟨w.heap.size, 0, none⟩) 1 1) 1 us.toList :=
  ⟨by simp [hs], fun c hc => List.all_eq_true.1 h1 c hc, _, 1, rfl, by omega, by omega, .inr ⟨w.heap.size, 0, us, rfl, Blk.new w e us, by omega, fun i c hc => by simpa using hc⟩⟩
/-- append(s, x) of one element: 'w' is the world ahead of the one-element slice that is laid for x. -/
theorem wpList_sc1 {P : Program} {t e : TypeId} {z0 : Value} {m bytes : Nat} (E : Elem P t e z0 m bytes) {ops : Array Oper} {rest : List Oper} {o : Oper} {a : Act} {Q : Exit → Act → World → Prop} (s x : Operand) (v : Value) (n : Nat) (xs : List Value) (us : Array Value) (w : World)
    (hgd : o.guard = none) (ho : o.op = .call { callee := .builtin .append, args := #[s, x], argTypes := #[t, t] })
    (hs : a.eval s = v) (hx : a.eval x = .slice (some ⟨w.heap.size, 0, none⟩) 1 1) (hw : SC m e w v n xs) (hu : us.size = m) (h1 : us.toList.all (fun u => u.oneCell') = true) (hl : (n + 1) * bytes ≤ 140737488355328) (hl1 : n + 1 ≤ 9223372036854775807)
    (h : ∀ v' w', SC m e w' v' (n + 1) (xs ++ us.toList) → Ch (sb v) w w' → Foot w (sb v) (sb v') → wpList P ops Q rest (a.put o.dst v') w') :
    wpList P ops Q (o :: rest) a (w.alloc (.cells us e)) :=
  wpList_scA E s x v _ n 1 xs us.toList _ hgd ho hs hx (hw.gr ((Gr.refl w).al _)) (SC.one w us hu h1) hl hl1 fun v' w' a1 a2 a3 =>
    h v' w' a1 (((Ch.refl (sb v) w).al _).tr a2 (fun x hx => .inl hx)) (fun b hb => (a3 b hb).imp id (fun q => by rw [World.size_alloc] at q; omega))
/-- Q, but K at the end, and nothing where the machine's bounds are outgrown. -/
def EndQ (K : Act → World → Prop) (Q : Exit → Act → World → Prop) : Exit → Act → World → Prop
  | .normal, a, w => K a w
  | .outgrown, _, _ => False
  | e, a, w => Q e a w
theorem endQ_out {K : Act → World → Prop} {Q : Exit → Act → World → Prop} (h : LetsOut (EndQ K Q)) : False := by
  obtain ⟨a, w, h⟩ := h
  exact h
theorem wp_endQ {P : Program} {o : Oper} {a : Act} {w : World} {K : Act → World → Prop} {Q : Exit → Act → World → Prop} (h : o.wp P a w K (EndQ K Q)) : o.wp P a w K Q := by
  unfold Oper.wp at h ⊢
  generalize (execOp a.eval o).run P w = r at *
  unfold Oper.upon at h
  split at h
  · exact h
  · exact h
  · exact h
  · refine Calls.mono h fun e w' he => ?_
    cases e with
    | returned v => exact he
    | panicked c => exact he
    | outgrown => exact (endQ_out he).elim
  · exact h
  · exact h
  · exact h.elim
/-- A step of a plain list, at a step of a region that draws its order. -/
theorem step_of_list {P : Program} {ops : Array Oper} {o : Oper} {a : Act} {w : World} {K : Act → World → Prop} {Q : Exit → Act → World → Prop} {E : Prop} (hgd : o.guard = none)
    (h : wpList P ops (EndQ K Q) [o] a w) : if Region.wanted o (yielded ops a.tmps) = true then Oper.wp P o a w K Q else E := by
  have hw : Region.wanted o (yielded ops a.tmps) = true := by simp [Region.wanted, hgd]
  rw [if_pos hw]
  unfold wpList at h
  rw [if_pos hw] at h
  rcases h with h | ⟨_, h⟩
  · exact wp_endQ h
  · exact (endQ_out h).elim
/-- append(s, u...), at a step of a region that draws its order. -/
theorem step_scA {P : Program} {t e : TypeId} {z0 : Value} {m bytes : Nat} (E : Elem P t e z0 m bytes) {ops : Array Oper} {o : Oper} {a : Act} {K : Act → World → Prop} {Q : Exit → Act → World → Prop} {E' : Prop} (s x : Operand) (v u : Value) (n k : Nat) (xs ys : List Value) (w : World)
    (hgd : o.guard = none) (ho : o.op = .call { callee := .builtin .append, args := #[s, x], argTypes := #[t, t] })
    (hs : a.eval s = v) (hx : a.eval x = u) (hw : SC m e w v n xs) (hu : SC m e w u k ys) (hl : (n + k) * bytes ≤ 140737488355328) (hl1 : n + k ≤ 9223372036854775807)
    (h : ∀ v' w', SC m e w' v' (n + k) (xs ++ ys) → Ch (sb v) w w' → Foot w (sb v) (sb v') → K (a.put o.dst v') w') :
    if Region.wanted o (yielded ops a.tmps) = true then Oper.wp P o a w K Q else E' :=
  step_of_list hgd (wpList_scA E s x v u n k xs ys w hgd ho hs hx hw hu hl hl1 fun v' w' h1 h2 h3 => h v' w' h1 h2 h3)
end Go.Proofs.Ytbeoomjcipbjjaa
