/- Appends inside regions that draw their order. No program, no conditions. -/
import Derived.Test.YtkkobbomipcpoaaKit6
namespace Go.Proofs.Ytkkobbomipcpoaa
open Go.RowKit
/-- Q, but K at the end, and nothing where the machine's bounds are outgrown. -/
def EndQ (K : Act → World → Prop) (Q : Exit → Act → World → Prop) : Exit → Act → World → Prop
  | .normal, a, w => K a w
  | .outgrown, _, _ => False
  | e, a, w => Q e a w
theorem endQ_out {K : Act → World → Prop} {Q : Exit → Act → World → Prop} (h : LetsOut (EndQ K Q)) : False := by
  obtain ⟨a, w, h⟩ := h
  exact h
theorem wp_endQ {P : Program} {o : Oper} {a : Act} {w : World} {K : Act → World → Prop} {Q : Exit → Act → World → Prop} (h : o.wp P a w K (EndQ K Q)) : o.wp P a w K Q := by
  unfold Oper.wp at h ⊢
  generalize (execOp a.eval o).run P w = r at *
  unfold Oper.upon at h
  split at h
  · exact h
  · exact h
  · exact h
  · refine Calls.mono h fun e w' he => ?_
    cases e with
    | returned v => exact he
    | panicked c => exact he
    | outgrown => exact (endQ_out he).elim
  · exact h
  · exact h
  · exact h.elim
/-- A step of a plain list, at a step of a region that draws its order. -/
theorem step_of_list {P : Program} {ops : Array Oper} {o : Oper} {a : Act} {w : World} {K : Act → World → Prop} {Q : Exit → Act → World → Prop} {E : Prop} (hgd : o.guard = none)
    (h : wpList P ops (EndQ K Q) [o] a w) : if Region.wanted o (yielded ops a.tmps) = true then Oper.wp P o a w K Q else E := by
  have hw : Region.wanted o (yielded ops a.tmps) = true := by simp [Region.wanted, hgd]
  rw [if_pos hw]
  unfold wpList at h
  rw [if_pos hw] at h
  rcases h with h | ⟨_, h⟩
  · exact wp_endQ h
  · exact (endQ_out h).elim
/-- append(s, x) of one element, at a step of a region that draws its order. -/
theorem step_sl1 {P : Program} {t e : TypeId} {z0 : Value} {bytes : Nat} (E : Elem P t e z0 1 bytes) (k : IntKind) {ops : Array Oper} {o : Oper} {a : Act} {K : Act → World → Prop} {Q : Exit → Act → World → Prop} {E' : Prop} (s x : Operand) (v : Value) (ws : List Int) (z : Int) (c : Nat) (w : World)
    (hgd : o.guard = none) (ho : o.op = .call { callee := .builtin .append, args := #[s, x], argTypes := #[t, t] })
    (hs : a.eval s = v) (hx : a.eval x = .slice (some ⟨w.heap.size, 0, none⟩) 1 c) (hw : Sl e k w v ws) (hl : (ws.length + 1) * bytes ≤ 140737488355328) (hl1 : ws.length < 9223372036854775807)
    (h : ∀ v' w', Sl e k w' v' (ws ++ [z]) → Ch (sb v) w w' → Foot w (sb v) (sb v') → K (a.put o.dst v') w') :
    if Region.wanted o (yielded ops a.tmps) = true then Oper.wp P o a (w.alloc (.cells #[.int k z] e)) K Q else E' :=
  step_of_list hgd (wpList_sl1 E k s x v ws z c w hgd ho hs hx hw hl hl1 fun v' w' h1 h2 h3 => h v' w' h1 h2 h3)
end Go.Proofs.Ytkkobbomipcpoaa
