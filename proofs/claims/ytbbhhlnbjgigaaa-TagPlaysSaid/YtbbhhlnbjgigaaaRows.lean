/-
  No cell of these rows narrows 'for every input' (looked for: loops, veiled, ifaces, maps, wideKeys, modest, calm, conditions, laid).
  DERIVED. THE GIVEN ROWS OF THIS SEAT. 12 by the template 'for every input the law returns true; each argument reads behind the call as it read before'; 0 by the template 'total and deterministic' (their statements: YtbbhhlnbjgigaaaTotals.lean).
  GIVEN WITH THE SEED: the statements are not yours to turn. If you find one false, say at which input.
  Laid BY PROGRAM, IN A SANDBOX (cutbox-rows.mjs): the forced cells as the released guide's own fill.sh prints them over the translation d39a2ab28154b7b3… (all of the seat's roots in one cut). By AI agents, Wed Nov 11 2026. No macro, syntax, notation, axiom, sorry.
-/
import Derived.Test.YtbbhhlnbjgigaaaChecked
import GoSem.Claim
import GoSem.ClaimJoined
import GoSem.ClaimMapViews
import Derived.JoinedTies
import Derived.KernelRfl
namespace Go.Proofs.Ytbbhhlnbjgigaaa
/- THE CELL 'sum', in the pinned program and in every row, IS THE sha256 OF THE DUMP (.gsa) THAT YtbbhhlnbjgigaaaProg.lean LOADS. Nothing in Lean hashes anything: it is a label: what it is worth is what the hold of that sum in a sandbox is worth. -/
noncomputable def Try.pinned : Pinned := { name := "ytbbhhlnbjgigaaa", sum := "d39a2ab28154b7b35a8cf00b8a0813f1281ee158d2bf57c1faf31e47b908fb70", checked := Try.checked }
namespace Rows
def none {H : Type} : Left H := { results := [], args := [] }

/-- 'bosunlaw05.GradeBest': WHATEVER THE INPUT: true; the input reads as it did. -/
def gradeBestSpec : ChangeSpec := { name := "gradeBest", fn := fun _ => fun
  | [d] => { results := [.lit (.bool true)], args := [d] }
  | _ => none }
def gradeBestRow : OpenClaim := { program := "ytbbhhlnbjgigaaa", sum := "d39a2ab28154b7b35a8cf00b8a0813f1281ee158d2bf57c1faf31e47b908fb70", func := "bosun/bosunlaw05.GradeBest", spec := "gradeBest", apart := false }
def GradeBestSaid : Prop := gradeBestRow.holds Try.pinned (OpenSpec.ofChange gradeBestSpec)

/-- ITS FALSE NEIGHBOUR: 'it returns false'. Refute it at one input. -/
def gradeBestWrong : ChangeSpec := { name := "gradeBest", fn := fun _ => fun
  | [d] => { results := [.lit (.bool false)], args := [d] }
  | _ => none }
def GradeBestWrongFalsely : Prop := gradeBestRow.holds Try.pinned (OpenSpec.ofChange gradeBestWrong)

/-- 'bosunlaw05.GradeRuns': WHATEVER THE INPUT: true; the input reads as it did. -/
def gradeRunsSpec : ChangeSpec := { name := "gradeRuns", fn := fun _ => fun
  | [d1, d2] => { results := [.lit (.bool true)], args := [d1, d2] }
  | _ => none }
def gradeRunsRow : OpenClaim := { program := "ytbbhhlnbjgigaaa", sum := "d39a2ab28154b7b35a8cf00b8a0813f1281ee158d2bf57c1faf31e47b908fb70", func := "bosun/bosunlaw05.GradeRuns", spec := "gradeRuns", apart := false }
def GradeRunsSaid : Prop := gradeRunsRow.holds Try.pinned (OpenSpec.ofChange gradeRunsSpec)

/-- ITS FALSE NEIGHBOUR: 'it returns false'. Refute it at one input. -/
def gradeRunsWrong : ChangeSpec := { name := "gradeRuns", fn := fun _ => fun
  | [d1, d2] => { results := [.lit (.bool false)], args := [d1, d2] }
  | _ => none }
def GradeRunsWrongFalsely : Prop := gradeRunsRow.holds Try.pinned (OpenSpec.ofChange gradeRunsWrong)

/-- 'bosunlaw05.GradeFalls': WHATEVER THE INPUT: true; the input reads as it did. -/
def gradeFallsSpec : ChangeSpec := { name := "gradeFalls", fn := fun _ => fun
  | [d1, d2, d3] => { results := [.lit (.bool true)], args := [d1, d2, d3] }
  | _ => none }
def gradeFallsRow : OpenClaim := { program := "ytbbhhlnbjgigaaa", sum := "d39a2ab28154b7b35a8cf00b8a0813f1281ee158d2bf57c1faf31e47b908fb70", func := "bosun/bosunlaw05.GradeFalls", spec := "gradeFalls", apart := false }
def GradeFallsSaid : Prop := gradeFallsRow.holds Try.pinned (OpenSpec.ofChange gradeFallsSpec)

/-- ITS FALSE NEIGHBOUR: 'it returns false'. Refute it at one input. -/
def gradeFallsWrong : ChangeSpec := { name := "gradeFalls", fn := fun _ => fun
  | [d1, d2, d3] => { results := [.lit (.bool false)], args := [d1, d2, d3] }
  | _ => none }
def GradeFallsWrongFalsely : Prop := gradeFallsRow.holds Try.pinned (OpenSpec.ofChange gradeFallsWrong)

/-- 'bosunlaw05.GradeLevels': WHATEVER THE INPUT: true; the input reads as it did. -/
def gradeLevelsSpec : ChangeSpec := { name := "gradeLevels", fn := fun _ => fun
  | [d1, d2] => { results := [.lit (.bool true)], args := [d1, d2] }
  | _ => none }
def gradeLevelsRow : OpenClaim := { program := "ytbbhhlnbjgigaaa", sum := "d39a2ab28154b7b35a8cf00b8a0813f1281ee158d2bf57c1faf31e47b908fb70", func := "bosun/bosunlaw05.GradeLevels", spec := "gradeLevels", apart := false }
def GradeLevelsSaid : Prop := gradeLevelsRow.holds Try.pinned (OpenSpec.ofChange gradeLevelsSpec)

/-- ITS FALSE NEIGHBOUR: 'it returns false'. Refute it at one input. -/
def gradeLevelsWrong : ChangeSpec := { name := "gradeLevels", fn := fun _ => fun
  | [d1, d2] => { results := [.lit (.bool false)], args := [d1, d2] }
  | _ => none }
def GradeLevelsWrongFalsely : Prop := gradeLevelsRow.holds Try.pinned (OpenSpec.ofChange gradeLevelsWrong)

/-- 'bosunlaw02.SumsClamp': WHATEVER THE INPUT: true; the input reads as it did. -/
def sumsClampSpec : ChangeSpec := { name := "sumsClamp", fn := fun _ => fun
  | [d1, d2, d3, d4, d5, d6] => { results := [.lit (.bool true)], args := [d1, d2, d3, d4, d5, d6] }
  | _ => none }
def sumsClampRow : OpenClaim := { program := "ytbbhhlnbjgigaaa", sum := "d39a2ab28154b7b35a8cf00b8a0813f1281ee158d2bf57c1faf31e47b908fb70", func := "bosun/bosunlaw02.SumsClamp", spec := "sumsClamp", inPlace := ["math/bits.Add64"], apart := false }
def SumsClampSaid : Prop := sumsClampRow.holds Try.pinned (OpenSpec.ofChange sumsClampSpec)

/-- ITS FALSE NEIGHBOUR: 'it returns false'. Refute it at one input. -/
def sumsClampWrong : ChangeSpec := { name := "sumsClamp", fn := fun _ => fun
  | [d1, d2, d3, d4, d5, d6] => { results := [.lit (.bool false)], args := [d1, d2, d3, d4, d5, d6] }
  | _ => none }
def SumsClampWrongFalsely : Prop := sumsClampRow.holds Try.pinned (OpenSpec.ofChange sumsClampWrong)

/-- 'bosunlaw02.SumsAll': WHATEVER THE INPUT: true; the input reads as it did. -/
def sumsAllSpec : ChangeSpec := { name := "sumsAll", fn := fun _ => fun
  | [d1, d2] => { results := [.lit (.bool true)], args := [d1, d2] }
  | _ => none }
def sumsAllRow : OpenClaim := { program := "ytbbhhlnbjgigaaa", sum := "d39a2ab28154b7b35a8cf00b8a0813f1281ee158d2bf57c1faf31e47b908fb70", func := "bosun/bosunlaw02.SumsAll", spec := "sumsAll", inPlace := ["math/bits.Add64"], apart := false }
def SumsAllSaid : Prop := sumsAllRow.holds Try.pinned (OpenSpec.ofChange sumsAllSpec)

/-- ITS FALSE NEIGHBOUR: 'it returns false'. Refute it at one input. -/
def sumsAllWrong : ChangeSpec := { name := "sumsAll", fn := fun _ => fun
  | [d1, d2] => { results := [.lit (.bool false)], args := [d1, d2] }
  | _ => none }
def SumsAllWrongFalsely : Prop := sumsAllRow.holds Try.pinned (OpenSpec.ofChange sumsAllWrong)

/-- 'bosunlaw06.TagWords': WHATEVER THE INPUT: true; the input reads as it did. -/
def tagWordsSpec : ChangeSpec := { name := "tagWords", fn := fun _ => fun
  | [d1, d2, d3] => { results := [.lit (.bool true)], args := [d1, d2, d3] }
  | _ => none }
def tagWordsRow : OpenClaim := { program := "ytbbhhlnbjgigaaa", sum := "d39a2ab28154b7b35a8cf00b8a0813f1281ee158d2bf57c1faf31e47b908fb70", func := "bosun/bosunlaw06.TagWords", spec := "tagWords", apart := false }
def TagWordsSaid : Prop := tagWordsRow.holds Try.pinned (OpenSpec.ofChange tagWordsSpec)

/-- ITS FALSE NEIGHBOUR: 'it returns false'. Refute it at one input. -/
def tagWordsWrong : ChangeSpec := { name := "tagWords", fn := fun _ => fun
  | [d1, d2, d3] => { results := [.lit (.bool false)], args := [d1, d2, d3] }
  | _ => none }
def TagWordsWrongFalsely : Prop := tagWordsRow.holds Try.pinned (OpenSpec.ofChange tagWordsWrong)

/-- 'bosunlaw06.TagOnce': WHATEVER THE INPUT: true; the input reads as it did. -/
def tagOnceSpec : ChangeSpec := { name := "tagOnce", fn := fun _ => fun
  | [d1, d2] => { results := [.lit (.bool true)], args := [d1, d2] }
  | _ => none }
def tagOnceRow : OpenClaim := { program := "ytbbhhlnbjgigaaa", sum := "d39a2ab28154b7b35a8cf00b8a0813f1281ee158d2bf57c1faf31e47b908fb70", func := "bosun/bosunlaw06.TagOnce", spec := "tagOnce", apart := false }
def TagOnceSaid : Prop := tagOnceRow.holds Try.pinned (OpenSpec.ofChange tagOnceSpec)

/-- ITS FALSE NEIGHBOUR: 'it returns false'. Refute it at one input. -/
def tagOnceWrong : ChangeSpec := { name := "tagOnce", fn := fun _ => fun
  | [d1, d2] => { results := [.lit (.bool false)], args := [d1, d2] }
  | _ => none }
def TagOnceWrongFalsely : Prop := tagOnceRow.holds Try.pinned (OpenSpec.ofChange tagOnceWrong)

/-- 'bosunlaw06.TagPlays': WHATEVER THE INPUT: true; the input reads as it did. -/
def tagPlaysSpec : ChangeSpec := { name := "tagPlays", fn := fun _ => fun
  | [d1, d2] => { results := [.lit (.bool true)], args := [d1, d2] }
  | _ => none }
def tagPlaysRow : OpenClaim := { program := "ytbbhhlnbjgigaaa", sum := "d39a2ab28154b7b35a8cf00b8a0813f1281ee158d2bf57c1faf31e47b908fb70", func := "bosun/bosunlaw06.TagPlays", spec := "tagPlays", apart := false }
def TagPlaysSaid : Prop := tagPlaysRow.holds Try.pinned (OpenSpec.ofChange tagPlaysSpec)

/-- ITS FALSE NEIGHBOUR: 'it returns false'. Refute it at one input. -/
def tagPlaysWrong : ChangeSpec := { name := "tagPlays", fn := fun _ => fun
  | [d1, d2] => { results := [.lit (.bool false)], args := [d1, d2] }
  | _ => none }
def TagPlaysWrongFalsely : Prop := tagPlaysRow.holds Try.pinned (OpenSpec.ofChange tagPlaysWrong)

/-- 'bosunlaw06.TagNil': WHATEVER THE INPUT: true; the input reads as it did. -/
def tagNilSpec : ChangeSpec := { name := "tagNil", fn := fun _ => fun
  | [d1, d2] => { results := [.lit (.bool true)], args := [d1, d2] }
  | _ => none }
def tagNilRow : OpenClaim := { program := "ytbbhhlnbjgigaaa", sum := "d39a2ab28154b7b35a8cf00b8a0813f1281ee158d2bf57c1faf31e47b908fb70", func := "bosun/bosunlaw06.TagNil", spec := "tagNil", apart := false }
def TagNilSaid : Prop := tagNilRow.holds Try.pinned (OpenSpec.ofChange tagNilSpec)

/-- ITS FALSE NEIGHBOUR: 'it returns false'. Refute it at one input. -/
def tagNilWrong : ChangeSpec := { name := "tagNil", fn := fun _ => fun
  | [d1, d2] => { results := [.lit (.bool false)], args := [d1, d2] }
  | _ => none }
def TagNilWrongFalsely : Prop := tagNilRow.holds Try.pinned (OpenSpec.ofChange tagNilWrong)

/-- 'bosunlaw02.SumsHeld': WHATEVER THE INPUT: true; the input reads as it did. -/
def sumsHeldSpec : ChangeSpec := { name := "sumsHeld", fn := fun _ => fun
  | [d1, d2] => { results := [.lit (.bool true)], args := [d1, d2] }
  | _ => none }
def sumsHeldRow : OpenClaim := { program := "ytbbhhlnbjgigaaa", sum := "d39a2ab28154b7b35a8cf00b8a0813f1281ee158d2bf57c1faf31e47b908fb70", func := "bosun/bosunlaw02.SumsHeld", spec := "sumsHeld", inPlace := ["math/bits.Add64"], apart := false }
def SumsHeldSaid : Prop := sumsHeldRow.holds Try.pinned (OpenSpec.ofChange sumsHeldSpec)

/-- ITS FALSE NEIGHBOUR: 'it returns false'. Refute it at one input. -/
def sumsHeldWrong : ChangeSpec := { name := "sumsHeld", fn := fun _ => fun
  | [d1, d2] => { results := [.lit (.bool false)], args := [d1, d2] }
  | _ => none }
def SumsHeldWrongFalsely : Prop := sumsHeldRow.holds Try.pinned (OpenSpec.ofChange sumsHeldWrong)

/-- 'bosunlaw02.SumsExact': WHATEVER THE INPUT: true; the input reads as it did. -/
def sumsExactSpec : ChangeSpec := { name := "sumsExact", fn := fun _ => fun
  | [d1, d2, d3] => { results := [.lit (.bool true)], args := [d1, d2, d3] }
  | _ => none }
def sumsExactRow : OpenClaim := { program := "ytbbhhlnbjgigaaa", sum := "d39a2ab28154b7b35a8cf00b8a0813f1281ee158d2bf57c1faf31e47b908fb70", func := "bosun/bosunlaw02.SumsExact", spec := "sumsExact", inPlace := ["math/bits.Add64"], apart := false }
def SumsExactSaid : Prop := sumsExactRow.holds Try.pinned (OpenSpec.ofChange sumsExactSpec)

/-- ITS FALSE NEIGHBOUR: 'it returns false'. Refute it at one input. -/
def sumsExactWrong : ChangeSpec := { name := "sumsExact", fn := fun _ => fun
  | [d1, d2, d3] => { results := [.lit (.bool false)], args := [d1, d2, d3] }
  | _ => none }
def SumsExactWrongFalsely : Prop := sumsExactRow.holds Try.pinned (OpenSpec.ofChange sumsExactWrong)

/- THE SECOND FORM. 'bulk': how many values and letters a reading holds, each counted each time it is reached (what is shared counts as often as it is met; a slice's spare places count too). A statement '..UptoSaid' is the law's where the arguments, and the package variables that the reading takes, are together of bulk at most 1048576: NARROWER than '..Said'. Prove '..Said' where nothing that the law and all that it calls make is longer than what came in: it says more and counts as full. Else prove '..UptoSaid'. A law counts once. -/
mutual
def uptoBulk {H : Type} : DataW H → Nat
  | .lit (.string bytes) => bytes.length + 1
  | .lit _ => 1
  | .nil => 1
  | .ptr d => uptoBulk d + 1
  | .slice elems spare => uptoBulkAll elems + uptoBulkAll spare + 1
  | .agg parts => uptoBulkAll parts + 1
  | .iface _ d => uptoBulk d + 1
  | .map entries => uptoBulkEntries entries + 1
  | .held _ => 1
def uptoBulkAll {H : Type} : List (DataW H) → Nat
  | [] => 0
  | d :: r => uptoBulk d + uptoBulkAll r
def uptoBulkEntries {H : Type} : List (Lit × DataW H) → Nat
  | [] => 0
  | x :: r => uptoBulkEntry x + uptoBulkEntries r
def uptoBulkEntry {H : Type} : Lit × DataW H → Nat
  | (.string bytes, d) => bytes.length + uptoBulk d + 1
  | (_, d) => uptoBulk d + 1
 end
def uptoSmall : (H : Type) → List (DataW H) → Bool := fun _ ds => decide (uptoBulkAll ds ≤ 1048576)
def OpenSpec.upto (s : _root_.Go.ChangeSpec) : _root_.Go.OpenSpec := { _root_.Go.OpenSpec.ofChange s with cond := some uptoSmall }

/-- 'bosunlaw05.GradeBest', WHERE WHAT IT READS IS OF BULK AT MOST 1048576: true; the input reads as it did. -/
def gradeBestUptoRow : OpenClaim := { program := "ytbbhhlnbjgigaaa", sum := "d39a2ab28154b7b35a8cf00b8a0813f1281ee158d2bf57c1faf31e47b908fb70", func := "bosun/bosunlaw05.GradeBest", spec := "gradeBest", apart := false, narrowed := true }
def GradeBestUptoSaid : Prop := gradeBestUptoRow.holds Try.pinned (OpenSpec.upto gradeBestSpec)

/-- 'bosunlaw05.GradeRuns', WHERE WHAT IT READS IS OF BULK AT MOST 1048576: true; the input reads as it did. -/
def gradeRunsUptoRow : OpenClaim := { program := "ytbbhhlnbjgigaaa", sum := "d39a2ab28154b7b35a8cf00b8a0813f1281ee158d2bf57c1faf31e47b908fb70", func := "bosun/bosunlaw05.GradeRuns", spec := "gradeRuns", apart := false, narrowed := true }
def GradeRunsUptoSaid : Prop := gradeRunsUptoRow.holds Try.pinned (OpenSpec.upto gradeRunsSpec)

/-- 'bosunlaw05.GradeFalls', WHERE WHAT IT READS IS OF BULK AT MOST 1048576: true; the input reads as it did. -/
def gradeFallsUptoRow : OpenClaim := { program := "ytbbhhlnbjgigaaa", sum := "d39a2ab28154b7b35a8cf00b8a0813f1281ee158d2bf57c1faf31e47b908fb70", func := "bosun/bosunlaw05.GradeFalls", spec := "gradeFalls", apart := false, narrowed := true }
def GradeFallsUptoSaid : Prop := gradeFallsUptoRow.holds Try.pinned (OpenSpec.upto gradeFallsSpec)

/-- 'bosunlaw05.GradeLevels', WHERE WHAT IT READS IS OF BULK AT MOST 1048576: true; the input reads as it did. -/
def gradeLevelsUptoRow : OpenClaim := { program := "ytbbhhlnbjgigaaa", sum := "d39a2ab28154b7b35a8cf00b8a0813f1281ee158d2bf57c1faf31e47b908fb70", func := "bosun/bosunlaw05.GradeLevels", spec := "gradeLevels", apart := false, narrowed := true }
def GradeLevelsUptoSaid : Prop := gradeLevelsUptoRow.holds Try.pinned (OpenSpec.upto gradeLevelsSpec)

/-- 'bosunlaw02.SumsClamp', WHERE WHAT IT READS IS OF BULK AT MOST 1048576: true; the input reads as it did. -/
def sumsClampUptoRow : OpenClaim := { program := "ytbbhhlnbjgigaaa", sum := "d39a2ab28154b7b35a8cf00b8a0813f1281ee158d2bf57c1faf31e47b908fb70", func := "bosun/bosunlaw02.SumsClamp", spec := "sumsClamp", inPlace := ["math/bits.Add64"], apart := false, narrowed := true }
def SumsClampUptoSaid : Prop := sumsClampUptoRow.holds Try.pinned (OpenSpec.upto sumsClampSpec)

/-- 'bosunlaw02.SumsAll', WHERE WHAT IT READS IS OF BULK AT MOST 1048576: true; the input reads as it did. -/
def sumsAllUptoRow : OpenClaim := { program := "ytbbhhlnbjgigaaa", sum := "d39a2ab28154b7b35a8cf00b8a0813f1281ee158d2bf57c1faf31e47b908fb70", func := "bosun/bosunlaw02.SumsAll", spec := "sumsAll", inPlace := ["math/bits.Add64"], apart := false, narrowed := true }
def SumsAllUptoSaid : Prop := sumsAllUptoRow.holds Try.pinned (OpenSpec.upto sumsAllSpec)

/-- 'bosunlaw06.TagWords', WHERE WHAT IT READS IS OF BULK AT MOST 1048576: true; the input reads as it did. -/
def tagWordsUptoRow : OpenClaim := { program := "ytbbhhlnbjgigaaa", sum := "d39a2ab28154b7b35a8cf00b8a0813f1281ee158d2bf57c1faf31e47b908fb70", func := "bosun/bosunlaw06.TagWords", spec := "tagWords", apart := false, narrowed := true }
def TagWordsUptoSaid : Prop := tagWordsUptoRow.holds Try.pinned (OpenSpec.upto tagWordsSpec)

/-- 'bosunlaw06.TagOnce', WHERE WHAT IT READS IS OF BULK AT MOST 1048576: true; the input reads as it did. -/
def tagOnceUptoRow : OpenClaim := { program := "ytbbhhlnbjgigaaa", sum := "d39a2ab28154b7b35a8cf00b8a0813f1281ee158d2bf57c1faf31e47b908fb70", func := "bosun/bosunlaw06.TagOnce", spec := "tagOnce", apart := false, narrowed := true }
def TagOnceUptoSaid : Prop := tagOnceUptoRow.holds Try.pinned (OpenSpec.upto tagOnceSpec)

/-- 'bosunlaw06.TagPlays', WHERE WHAT IT READS IS OF BULK AT MOST 1048576: true; the input reads as it did. -/
def tagPlaysUptoRow : OpenClaim := { program := "ytbbhhlnbjgigaaa", sum := "d39a2ab28154b7b35a8cf00b8a0813f1281ee158d2bf57c1faf31e47b908fb70", func := "bosun/bosunlaw06.TagPlays", spec := "tagPlays", apart := false, narrowed := true }
def TagPlaysUptoSaid : Prop := tagPlaysUptoRow.holds Try.pinned (OpenSpec.upto tagPlaysSpec)

/-- 'bosunlaw06.TagNil', WHERE WHAT IT READS IS OF BULK AT MOST 1048576: true; the input reads as it did. -/
def tagNilUptoRow : OpenClaim := { program := "ytbbhhlnbjgigaaa", sum := "d39a2ab28154b7b35a8cf00b8a0813f1281ee158d2bf57c1faf31e47b908fb70", func := "bosun/bosunlaw06.TagNil", spec := "tagNil", apart := false, narrowed := true }
def TagNilUptoSaid : Prop := tagNilUptoRow.holds Try.pinned (OpenSpec.upto tagNilSpec)

/-- 'bosunlaw02.SumsHeld', WHERE WHAT IT READS IS OF BULK AT MOST 1048576: true; the input reads as it did. -/
def sumsHeldUptoRow : OpenClaim := { program := "ytbbhhlnbjgigaaa", sum := "d39a2ab28154b7b35a8cf00b8a0813f1281ee158d2bf57c1faf31e47b908fb70", func := "bosun/bosunlaw02.SumsHeld", spec := "sumsHeld", inPlace := ["math/bits.Add64"], apart := false, narrowed := true }
def SumsHeldUptoSaid : Prop := sumsHeldUptoRow.holds Try.pinned (OpenSpec.upto sumsHeldSpec)

/-- 'bosunlaw02.SumsExact', WHERE WHAT IT READS IS OF BULK AT MOST 1048576: true; the input reads as it did. -/
def sumsExactUptoRow : OpenClaim := { program := "ytbbhhlnbjgigaaa", sum := "d39a2ab28154b7b35a8cf00b8a0813f1281ee158d2bf57c1faf31e47b908fb70", func := "bosun/bosunlaw02.SumsExact", spec := "sumsExact", inPlace := ["math/bits.Add64"], apart := false, narrowed := true }
def SumsExactUptoSaid : Prop := sumsExactUptoRow.holds Try.pinned (OpenSpec.upto sumsExactSpec)

end Rows
end Go.Proofs.Ytbbhhlnbjgigaaa
