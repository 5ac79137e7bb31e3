/- append(s, u...), where u is a slice that came in. No program, no conditions. -/
import Derived.Test.YtkkobbomipcpoaaKit6
namespace Go.Proofs.Ytkkobbomipcpoaa
open Go.RowKit
/-- append(s, u...): s wherever it lies, u a slice that can be read and has elements. -/
theorem wpList_slR {P : Program} {t e : TypeId} {z0 : Value} {bytes : Nat} (E : Elem P t e z0 1 bytes) (k : IntKind) {ops : Array Oper} {rest : List Oper} {o : Oper} {a : Act} {Q : Exit → Act → World → Prop} (s x : Operand) (v : Value) (bu offu cu : Nat) (ws ys : List Int) (w : World)
    (hgd : o.guard = none) (ho : o.op = .call { callee := .builtin .append, args := #[s, x], argTypes := #[t, t] })
    (hs : a.eval s = v) (hx : a.eval x = .slice (some ⟨bu, offu, none⟩) ys.length cu) (hw : Sl e k w v ws) (hu : ∀ i, i < ys.length → w.cell? ⟨bu, offu + i, none⟩ = some (.int k (ys.getD i 0))) (hl : (ws.length + ys.length) * bytes ≤ 140737488355328) (hl1 : ws.length + ys.length ≤ 9223372036854775807)
    (h : ∀ v' w', Sl e k w' v' (ws ++ ys) → Ch (sb v) w w' → Foot w (sb v) (sb v') → wpList P ops Q rest (a.put o.dst v') w') :
    wpList P ops Q (o :: rest) a w := by
  obtain ⟨i, hi, hz, hs1, hs2⟩ := info_parts E.info
  have hnew : ∀ j c, (intCells k ys)[j]? = some c → w.cell? ((⟨bu, offu, none⟩ : Addr).add j) = some c := by
    intro j c hc
    have hadd : (⟨bu, offu, none⟩ : Addr).add j = ⟨bu, offu + j, none⟩ := by
      unfold Addr.add
      split
      · rename_i hj; subst hj; rfl
      · rfl
    simp only [intCells, List.getElem?_map, Option.map_eq_some_iff] at hc
    obtain ⟨y, hy, rfl⟩ := hc
    have hj := (List.getElem?_eq_some_iff.1 hy).1
    rw [hadd, hu j hj]
    simp [List.getD_eq_getElem?_getD, hy]
  have h1c : ∀ c ∈ intCells k ys, c.oneCell' = true := by
    intro c hc
    simp only [intCells, List.mem_map] at hc
    obtain ⟨y, _, rfl⟩ := hc
    rfl
  obtain ⟨ao, cp, rfl, h1, h2, h3⟩ := hw
  rcases h3 with ⟨rfl, rfl⟩ | ⟨b, off, cur, rfl, hblk, hoff, hcur⟩
  · have h0 : ws = [] := List.eq_nil_of_length_eq_zero (by omega)
    subst h0
    refine wpList_append_own w hgd s x t ho w.heap.size e i _ 1 bytes E.und hi hz hs1 hs2 E.zs E.pos (.slice none 0 0) 0 [] hs ⟨rfl, .inl ⟨rfl, rfl⟩⟩ ⟨bu, offu, none⟩ ys.length cu (intCells k ys) hx (by simp [intCells]) hnew h1c (by unfold maxLen; simpa using hl1) (by simpa using hl) (Nat.le_refl _) ?_
    intro v' w' hown hgr _
    refine h v' w' (Sl.of_own (B := w.heap.size) (by simpa using hown)) ⟨hgr.os, hgr.tape, hgr.output, hgr.size, fun j hj _ => hgr.block j hj (by simp [Value.ownBlock])⟩ (fun b hb => .inr (own_sb hown b hb))
  · refine wpList_append_arg w hgd s x t ho e i _ 1 bytes E.und hi hz hs1 hs2 E.zs E.pos b off ws.length cp (intCells k ws) hs (by simp [intCells]) ?_ ⟨bu, offu, none⟩ ys.length cu (intCells k ys) hx (by simp [intCells]) hnew h1c ?_ (by unfold maxLen; exact hl1) hl ?_ ?_
    · intro j c hc
      rw [hblk.cell]
      simp only [intCells, List.getElem?_map, Option.map_eq_some_iff] at hc
      obtain ⟨y, hy, rfl⟩ := hc
      exact hcur j y hy
    · intro hr j hj
      simp [intCells] at hj
      rw [hblk.cell]
      exact ⟨by rw [Array.getElem?_eq_getElem (by omega)]; rfl, hblk.frozen _⟩
    · intro hr
      obtain ⟨cur', k1, k2, k3, k4⟩ := Blk.sts (intCells k ys) (off + ws.length * 1) w cur hblk (by simp [intCells]; omega)
      refine h _ _ ⟨some ⟨b, off, none⟩, cp, by simp, by simpa using hr, h2, .inr ⟨b, off, cur', rfl, k1, by omega, ?_⟩⟩ (Ch.sts (by simp [sb]) _ _ _ (Ch.refl _ _)) (fun b' hb' => .inl hb')
      intro j y hj
      rw [List.getElem?_append] at hj
      split at hj
      · rw [k3 _ (by omega)]
        exact hcur j y hj
      · have := k4 (j - ws.length) (.int k y) (by simp [intCells, hj])
        rwa [show off + ws.length * 1 + (j - ws.length) = off + j by omega] at this
    · intro hc v' w' how hgr
      refine h v' w' (Sl.of_own (B := w.heap.size) (by simpa [intCells] using how)) ⟨hgr.os, hgr.tape, hgr.output, hgr.size, fun j hj _ => hgr.block j hj (by simp)⟩ (fun b hb => .inr (own_sb how b hb))
end Go.Proofs.Ytkkobbomipcpoaa
