/- The law RollNil: for every input the call returns true, and each argument reads afterwards as it read before. No conditions. -/
import Derived.Test.YtfppmdnpjihcpaaRows
import Derived.Test.YtfppmdnpjihcpaaRoll
import Derived.ProofKit
import Derived.OpenShut
import Derived.ChangeOld
import Derived.Below
namespace Go.Proofs.Ytfppmdnpjihcpaa.rollNil
open Go.ChangeShapes Go.WideShapes Go.ChangeAt Go.RowKit
set_option linter.unusedVariables false

theorem own : ownKnob Try.prog.godebug = none := by kernel_rfl
theorem laidOut : laidOutB Try.prog = true := by kernel_rfl

set_option maxRecDepth 100000 in
set_option maxHeartbeats 400000 in
theorem open_v0 {H : Type} {enc : TypeId × Value → H} {W : World} {r : Reach} {base : Nat} {v : Value} {d : DataW H} {p : List MemPlace} (hv : Value.okWide Try.prog W r base 30 v) (h : DataW.Trod enc Try.prog W 0 (fun _ => true) true 30 v d p) :
    ∃ x0 x1 : Int, v = .agg #[.int .i64 x0, .int .u32 x1] ∧ (-9223372036854775808 ≤ x0 ∧ x0 ≤ 9223372036854775807) ∧ (0 ≤ x1 ∧ x1 ≤ 4294967295) := by
  obtain ⟨cs, rfl, hsz⟩ := @okWide_struct Try.prog W r base 30 v _ Try.underlying30 hv
  obtain ⟨fu, hf⟩ := h
  have hn : cs.size = 2 := hsz.trans (by kernel_rfl)
  obtain ⟨c0, e0, x0, f0, g0⟩ := trod_kind 3 30 0 (some .i64) fu _ _ (by kernel_rfl) hf
  obtain ⟨c1, e1, x1, f1, g1⟩ := trod_kind 3 30 1 (some .u32) fu _ _ (by kernel_rfl) hf
  subst f0 f1
  refine ⟨x0, x1, ?_, bd_i64 g0, bd_u32 g1⟩
  clear hf hv hsz
  obtain ⟨l⟩ := cs
  rcases l with _ | ⟨u0, _ | ⟨u1, _ | ⟨u2, l⟩⟩⟩
  · simp at hn
  · simp at hn
  · simp [Value.cells] at e0 e1
    rw [e0, e1]
  · simp at hn
set_option maxRecDepth 100000 in
theorem lifted (os : Os) (started : os.Started) (H : Type) (enc : TypeId × Value → H) :
    ReturnsInHanded {} Try.checked os 10 .any (Rows.rollNilSpec.pre6 enc Try.prog Try.f10 Rows.rollNilRow.domain false) (Rows.rollNilSpec.post enc Try.prog Try.f10 false true false false) := by
  refine returnsInHanded_of_change (C := Try.checked) own started (by kernel_rfl) Try.func10
    (ChangeSpec.witness6 (enc := enc) (C := Try.checked) false ⟨#[], #[.agg #[.int .i64 0, .int .u32 0]], []⟩ 8 (by kernel_rfl) (by kernel_rfl) (by kernel_rfl) (by kernel_rfl)) ?_
  intro W base args ds gs before hval0 hW hcnd _
  have hval : ∀ (j : Nat) t v, Try.f10.params[j]? = some t → args[j]? = some v → Value.okWide Try.prog W .any base t v := hval0
  have hW' := hW
  obtain ⟨p, q, hA0, hV, rfl, hfz, hnd⟩ := hW
  have hA : DataW.TrodAll enc Try.prog W 0 (fun _ => true) true Try.f10.params.toList args.toList ds p := hA0
  rw [Try.params10] at hA hval
  obtain ⟨v0, vs0, d0, ds0, p0, q0, hargs, rfl, rfl, h0, r0⟩ := trodAll_cons hA
  obtain ⟨rfl, rfl, rfl⟩ := trodAll_nil r0
  obtain rfl : args = #[v0] := by cases args; simp_all
  obtain ⟨rfl, rfl⟩ := trodVars_none hV
  have k0 := h0
  have lt0 : ∀ x ∈ p0, x.block < W.heap.size := by obtain ⟨m, hm⟩ := k0; exact DataW.trod_lt m _ _ _ hm
  obtain ⟨x0_0, x0_1, rfl, b0_0, b0_1⟩ := open_v0 (hval 0 30 v0 rfl rfl) h0
  clear hA0 hval0
  refine (rollNil_walk x0_0 x0_1 W b0_0 b0_1).mono fun e W' ⟨he, bel⟩ => ?_
  subst he
  exact ⟨_, rfl, _, _, _, [], _, [], hW', trodAll_mk1 (shut_bool Try.underlying4 _), (trodAll_cons_mk (Below.trod laidOut (by kernel_rfl) (of_decide_eq_true (by kernel_rfl)) k0 bel.below lt0) trodAll_mk0), rfl, bel.below.frame _, fun h => by cases h⟩

theorem over : Rows.rollNilRow.holds Try.pinned (OpenSpec.ofChange Rows.rollNilSpec) :=
  OpenClaim.holds_of_wide 10 Try.f10 rfl rfl rfl rfl rfl rfl rfl ⟨rfl, rfl, rfl, rfl, rfl⟩ rfl rfl rfl rfl rfl (by kernel_rfl) Try.func10 (by kernel_rfl)
    (of_decide_eq_true (by kernel_rfl)) (by unfold Func.isWrapper; first | (rw [if_pos (by decide +kernel)]; kernel_rfl) | (rw [if_neg (by decide +kernel)]; exact ⟨rfl, rfl⟩))
    (fun os started H enc _ => lifted os started H enc)

theorem proved : Rows.RollNilSaid := over
#print axioms proved
end Go.Proofs.Ytfppmdnpjihcpaa.rollNil
