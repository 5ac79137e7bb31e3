/-
  No cell of these rows narrows 'for every input' (looked for: loops, veiled, ifaces, maps, wideKeys, modest, calm, conditions, laid).
  DERIVED. THE GIVEN ROWS OF THIS SEAT. 10 by the template 'for every input the law returns true; each argument reads behind the call as it read before'; 0 by the template 'total and deterministic' (their statements: YtfppmdnpjihcpaaTotals.lean).
  GIVEN WITH THE SEED: the statements are not yours to turn. If you find one false, say at which input.
  Laid BY PROGRAM, IN A SANDBOX (cutbox-rows.mjs): the forced cells as the released guide's own fill.sh prints them over the translation 26ace28918b3d115… (all of the seat's roots in one cut). By AI agents, Wed Nov 11 2026. No macro, syntax, notation, axiom, sorry.
-/
import Derived.Test.YtfppmdnpjihcpaaChecked
import GoSem.Claim
import GoSem.ClaimJoined
import GoSem.ClaimMapViews
import Derived.JoinedTies
import Derived.KernelRfl
namespace Go.Proofs.Ytfppmdnpjihcpaa
/- THE CELL 'sum', in the pinned program and in every row, IS THE sha256 OF THE DUMP (.gsa) THAT YtfppmdnpjihcpaaProg.lean LOADS. Nothing in Lean hashes anything: it is a label: what it is worth is what the hold of that sum in a sandbox is worth. -/
noncomputable def Try.pinned : Pinned := { name := "ytfppmdnpjihcpaa", sum := "26ace28918b3d1150a0487c54b3246dcffbb4dec983d41abcedea5febda363c7", checked := Try.checked }
namespace Rows
def none {H : Type} : Left H := { results := [], args := [] }

/-- 'bosunlaw20.RollNever': WHATEVER THE INPUT: true; the input reads as it did. -/
def rollNeverSpec : ChangeSpec := { name := "rollNever", fn := fun _ => fun
  | [d1, d2] => { results := [.lit (.bool true)], args := [d1, d2] }
  | _ => none }
def rollNeverRow : OpenClaim := { program := "ytfppmdnpjihcpaa", sum := "26ace28918b3d1150a0487c54b3246dcffbb4dec983d41abcedea5febda363c7", func := "bosun/bosunlaw20.RollNever", spec := "rollNever", unfollowed := true, recurses := true, apart := false }
def RollNeverSaid : Prop := rollNeverRow.holds Try.pinned (OpenSpec.ofChange rollNeverSpec)

/-- ITS FALSE NEIGHBOUR: 'it returns false'. Refute it at one input. -/
def rollNeverWrong : ChangeSpec := { name := "rollNever", fn := fun _ => fun
  | [d1, d2] => { results := [.lit (.bool false)], args := [d1, d2] }
  | _ => none }
def RollNeverWrongFalsely : Prop := rollNeverRow.holds Try.pinned (OpenSpec.ofChange rollNeverWrong)

/-- 'bosunlaw16.ShelfOnce': WHATEVER THE INPUT: true; the input reads as it did. -/
def shelfOnceSpec : ChangeSpec := { name := "shelfOnce", fn := fun _ => fun
  | [d1, d2] => { results := [.lit (.bool true)], args := [d1, d2] }
  | _ => none }
def shelfOnceRow : OpenClaim := { program := "ytfppmdnpjihcpaa", sum := "26ace28918b3d1150a0487c54b3246dcffbb4dec983d41abcedea5febda363c7", func := "bosun/bosunlaw16.ShelfOnce", spec := "shelfOnce", unfollowed := true, recurses := true, apart := false }
def ShelfOnceSaid : Prop := shelfOnceRow.holds Try.pinned (OpenSpec.ofChange shelfOnceSpec)

/-- ITS FALSE NEIGHBOUR: 'it returns false'. Refute it at one input. -/
def shelfOnceWrong : ChangeSpec := { name := "shelfOnce", fn := fun _ => fun
  | [d1, d2] => { results := [.lit (.bool false)], args := [d1, d2] }
  | _ => none }
def ShelfOnceWrongFalsely : Prop := shelfOnceRow.holds Try.pinned (OpenSpec.ofChange shelfOnceWrong)

/-- 'bosunlaw14.LinesKeep': WHATEVER THE INPUT: true; the input reads as it did. -/
def linesKeepSpec : ChangeSpec := { name := "linesKeep", fn := fun _ => fun
  | [d1, d2, d3] => { results := [.lit (.bool true)], args := [d1, d2, d3] }
  | _ => none }
def linesKeepRow : OpenClaim := { program := "ytfppmdnpjihcpaa", sum := "26ace28918b3d1150a0487c54b3246dcffbb4dec983d41abcedea5febda363c7", func := "bosun/bosunlaw14.LinesKeep", spec := "linesKeep", apart := false }
def LinesKeepSaid : Prop := linesKeepRow.holds Try.pinned (OpenSpec.ofChange linesKeepSpec)

/-- ITS FALSE NEIGHBOUR: 'it returns false'. Refute it at one input. -/
def linesKeepWrong : ChangeSpec := { name := "linesKeep", fn := fun _ => fun
  | [d1, d2, d3] => { results := [.lit (.bool false)], args := [d1, d2, d3] }
  | _ => none }
def LinesKeepWrongFalsely : Prop := linesKeepRow.holds Try.pinned (OpenSpec.ofChange linesKeepWrong)

/-- 'bosunlaw14.LinesPlay': WHATEVER THE INPUT: true; the input reads as it did. -/
def linesPlaySpec : ChangeSpec := { name := "linesPlay", fn := fun _ => fun
  | [d1, d2] => { results := [.lit (.bool true)], args := [d1, d2] }
  | _ => none }
def linesPlayRow : OpenClaim := { program := "ytfppmdnpjihcpaa", sum := "26ace28918b3d1150a0487c54b3246dcffbb4dec983d41abcedea5febda363c7", func := "bosun/bosunlaw14.LinesPlay", spec := "linesPlay", apart := false }
def LinesPlaySaid : Prop := linesPlayRow.holds Try.pinned (OpenSpec.ofChange linesPlaySpec)

/-- ITS FALSE NEIGHBOUR: 'it returns false'. Refute it at one input. -/
def linesPlayWrong : ChangeSpec := { name := "linesPlay", fn := fun _ => fun
  | [d1, d2] => { results := [.lit (.bool false)], args := [d1, d2] }
  | _ => none }
def LinesPlayWrongFalsely : Prop := linesPlayRow.holds Try.pinned (OpenSpec.ofChange linesPlayWrong)

/-- 'bosunlaw14.LinesNil': WHATEVER THE INPUT: true; the input reads as it did. -/
def linesNilSpec : ChangeSpec := { name := "linesNil", fn := fun _ => fun
  | [d] => { results := [.lit (.bool true)], args := [d] }
  | _ => none }
def linesNilRow : OpenClaim := { program := "ytfppmdnpjihcpaa", sum := "26ace28918b3d1150a0487c54b3246dcffbb4dec983d41abcedea5febda363c7", func := "bosun/bosunlaw14.LinesNil", spec := "linesNil", apart := false }
def LinesNilSaid : Prop := linesNilRow.holds Try.pinned (OpenSpec.ofChange linesNilSpec)

/-- ITS FALSE NEIGHBOUR: 'it returns false'. Refute it at one input. -/
def linesNilWrong : ChangeSpec := { name := "linesNil", fn := fun _ => fun
  | [d] => { results := [.lit (.bool false)], args := [d] }
  | _ => none }
def LinesNilWrongFalsely : Prop := linesNilRow.holds Try.pinned (OpenSpec.ofChange linesNilWrong)

/-- 'bosunlaw16.ShelfOwn': WHATEVER THE INPUT: true; the input reads as it did. -/
def shelfOwnSpec : ChangeSpec := { name := "shelfOwn", fn := fun _ => fun
  | [d] => { results := [.lit (.bool true)], args := [d] }
  | _ => none }
def shelfOwnRow : OpenClaim := { program := "ytfppmdnpjihcpaa", sum := "26ace28918b3d1150a0487c54b3246dcffbb4dec983d41abcedea5febda363c7", func := "bosun/bosunlaw16.ShelfOwn", spec := "shelfOwn", unfollowed := true, recurses := true, apart := false }
def ShelfOwnSaid : Prop := shelfOwnRow.holds Try.pinned (OpenSpec.ofChange shelfOwnSpec)

/-- ITS FALSE NEIGHBOUR: 'it returns false'. Refute it at one input. -/
def shelfOwnWrong : ChangeSpec := { name := "shelfOwn", fn := fun _ => fun
  | [d] => { results := [.lit (.bool false)], args := [d] }
  | _ => none }
def ShelfOwnWrongFalsely : Prop := shelfOwnRow.holds Try.pinned (OpenSpec.ofChange shelfOwnWrong)

/-- 'bosunlaw20.RollPlays': WHATEVER THE INPUT: true; the input reads as it did. -/
def rollPlaysSpec : ChangeSpec := { name := "rollPlays", fn := fun _ => fun
  | [d1, d2, d3] => { results := [.lit (.bool true)], args := [d1, d2, d3] }
  | _ => none }
def rollPlaysRow : OpenClaim := { program := "ytfppmdnpjihcpaa", sum := "26ace28918b3d1150a0487c54b3246dcffbb4dec983d41abcedea5febda363c7", func := "bosun/bosunlaw20.RollPlays", spec := "rollPlays", unfollowed := true, recurses := true, apart := false }
def RollPlaysSaid : Prop := rollPlaysRow.holds Try.pinned (OpenSpec.ofChange rollPlaysSpec)

/-- ITS FALSE NEIGHBOUR: 'it returns false'. Refute it at one input. -/
def rollPlaysWrong : ChangeSpec := { name := "rollPlays", fn := fun _ => fun
  | [d1, d2, d3] => { results := [.lit (.bool false)], args := [d1, d2, d3] }
  | _ => none }
def RollPlaysWrongFalsely : Prop := rollPlaysRow.holds Try.pinned (OpenSpec.ofChange rollPlaysWrong)

/-- 'bosunlaw20.RollNil': WHATEVER THE INPUT: true; the input reads as it did. -/
def rollNilSpec : ChangeSpec := { name := "rollNil", fn := fun _ => fun
  | [d] => { results := [.lit (.bool true)], args := [d] }
  | _ => none }
def rollNilRow : OpenClaim := { program := "ytfppmdnpjihcpaa", sum := "26ace28918b3d1150a0487c54b3246dcffbb4dec983d41abcedea5febda363c7", func := "bosun/bosunlaw20.RollNil", spec := "rollNil", unfollowed := true, recurses := true, apart := false }
def RollNilSaid : Prop := rollNilRow.holds Try.pinned (OpenSpec.ofChange rollNilSpec)

/-- ITS FALSE NEIGHBOUR: 'it returns false'. Refute it at one input. -/
def rollNilWrong : ChangeSpec := { name := "rollNil", fn := fun _ => fun
  | [d] => { results := [.lit (.bool false)], args := [d] }
  | _ => none }
def RollNilWrongFalsely : Prop := rollNilRow.holds Try.pinned (OpenSpec.ofChange rollNilWrong)

/-- 'bosunlaw16.ShelfPlays': WHATEVER THE INPUT: true; the input reads as it did. -/
def shelfPlaysSpec : ChangeSpec := { name := "shelfPlays", fn := fun _ => fun
  | [d1, d2] => { results := [.lit (.bool true)], args := [d1, d2] }
  | _ => none }
def shelfPlaysRow : OpenClaim := { program := "ytfppmdnpjihcpaa", sum := "26ace28918b3d1150a0487c54b3246dcffbb4dec983d41abcedea5febda363c7", func := "bosun/bosunlaw16.ShelfPlays", spec := "shelfPlays", unfollowed := true, recurses := true, apart := false }
def ShelfPlaysSaid : Prop := shelfPlaysRow.holds Try.pinned (OpenSpec.ofChange shelfPlaysSpec)

/-- ITS FALSE NEIGHBOUR: 'it returns false'. Refute it at one input. -/
def shelfPlaysWrong : ChangeSpec := { name := "shelfPlays", fn := fun _ => fun
  | [d1, d2] => { results := [.lit (.bool false)], args := [d1, d2] }
  | _ => none }
def ShelfPlaysWrongFalsely : Prop := shelfPlaysRow.holds Try.pinned (OpenSpec.ofChange shelfPlaysWrong)

/-- 'bosunlaw16.ShelfNil': WHATEVER THE INPUT: true; the input reads as it did. -/
def shelfNilSpec : ChangeSpec := { name := "shelfNil", fn := fun _ => fun
  | [d] => { results := [.lit (.bool true)], args := [d] }
  | _ => none }
def shelfNilRow : OpenClaim := { program := "ytfppmdnpjihcpaa", sum := "26ace28918b3d1150a0487c54b3246dcffbb4dec983d41abcedea5febda363c7", func := "bosun/bosunlaw16.ShelfNil", spec := "shelfNil", unfollowed := true, recurses := true, apart := false }
def ShelfNilSaid : Prop := shelfNilRow.holds Try.pinned (OpenSpec.ofChange shelfNilSpec)

/-- ITS FALSE NEIGHBOUR: 'it returns false'. Refute it at one input. -/
def shelfNilWrong : ChangeSpec := { name := "shelfNil", fn := fun _ => fun
  | [d] => { results := [.lit (.bool false)], args := [d] }
  | _ => none }
def ShelfNilWrongFalsely : Prop := shelfNilRow.holds Try.pinned (OpenSpec.ofChange shelfNilWrong)

/- THE SECOND FORM. 'bulk': how many values and letters a reading holds, each counted each time it is reached (what is shared counts as often as it is met; a slice's spare places count too). A statement '..UptoSaid' is the law's where the arguments, and the package variables that the reading takes, are together of bulk at most 1048576: NARROWER than '..Said'. Prove '..Said' where nothing that the law and all that it calls make is longer than what came in: it says more and counts as full. Else prove '..UptoSaid'. A law counts once. -/
mutual
def uptoBulk {H : Type} : DataW H → Nat
  | .lit (.string bytes) => bytes.length + 1
  | .lit _ => 1
  | .nil => 1
  | .ptr d => uptoBulk d + 1
  | .slice elems spare => uptoBulkAll elems + uptoBulkAll spare + 1
  | .agg parts => uptoBulkAll parts + 1
  | .iface _ d => uptoBulk d + 1
  | .map entries => uptoBulkEntries entries + 1
  | .held _ => 1
def uptoBulkAll {H : Type} : List (DataW H) → Nat
  | [] => 0
  | d :: r => uptoBulk d + uptoBulkAll r
def uptoBulkEntries {H : Type} : List (Lit × DataW H) → Nat
  | [] => 0
  | x :: r => uptoBulkEntry x + uptoBulkEntries r
def uptoBulkEntry {H : Type} : Lit × DataW H → Nat
  | (.string bytes, d) => bytes.length + uptoBulk d + 1
  | (_, d) => uptoBulk d + 1
 end
def uptoSmall : (H : Type) → List (DataW H) → Bool := fun _ ds => decide (uptoBulkAll ds ≤ 1048576)
def OpenSpec.upto (s : _root_.Go.ChangeSpec) : _root_.Go.OpenSpec := { _root_.Go.OpenSpec.ofChange s with cond := some uptoSmall }

/-- 'bosunlaw20.RollNever', WHERE WHAT IT READS IS OF BULK AT MOST 1048576: true; the input reads as it did. -/
def rollNeverUptoRow : OpenClaim := { program := "ytfppmdnpjihcpaa", sum := "26ace28918b3d1150a0487c54b3246dcffbb4dec983d41abcedea5febda363c7", func := "bosun/bosunlaw20.RollNever", spec := "rollNever", unfollowed := true, recurses := true, apart := false, narrowed := true }
def RollNeverUptoSaid : Prop := rollNeverUptoRow.holds Try.pinned (OpenSpec.upto rollNeverSpec)

/-- 'bosunlaw16.ShelfOnce', WHERE WHAT IT READS IS OF BULK AT MOST 1048576: true; the input reads as it did. -/
def shelfOnceUptoRow : OpenClaim := { program := "ytfppmdnpjihcpaa", sum := "26ace28918b3d1150a0487c54b3246dcffbb4dec983d41abcedea5febda363c7", func := "bosun/bosunlaw16.ShelfOnce", spec := "shelfOnce", unfollowed := true, recurses := true, apart := false, narrowed := true }
def ShelfOnceUptoSaid : Prop := shelfOnceUptoRow.holds Try.pinned (OpenSpec.upto shelfOnceSpec)

/-- 'bosunlaw14.LinesKeep', WHERE WHAT IT READS IS OF BULK AT MOST 1048576: true; the input reads as it did. -/
def linesKeepUptoRow : OpenClaim := { program := "ytfppmdnpjihcpaa", sum := "26ace28918b3d1150a0487c54b3246dcffbb4dec983d41abcedea5febda363c7", func := "bosun/bosunlaw14.LinesKeep", spec := "linesKeep", apart := false, narrowed := true }
def LinesKeepUptoSaid : Prop := linesKeepUptoRow.holds Try.pinned (OpenSpec.upto linesKeepSpec)

/-- 'bosunlaw14.LinesPlay', WHERE WHAT IT READS IS OF BULK AT MOST 1048576: true; the input reads as it did. -/
def linesPlayUptoRow : OpenClaim := { program := "ytfppmdnpjihcpaa", sum := "26ace28918b3d1150a0487c54b3246dcffbb4dec983d41abcedea5febda363c7", func := "bosun/bosunlaw14.LinesPlay", spec := "linesPlay", apart := false, narrowed := true }
def LinesPlayUptoSaid : Prop := linesPlayUptoRow.holds Try.pinned (OpenSpec.upto linesPlaySpec)

/-- 'bosunlaw14.LinesNil', WHERE WHAT IT READS IS OF BULK AT MOST 1048576: true; the input reads as it did. -/
def linesNilUptoRow : OpenClaim := { program := "ytfppmdnpjihcpaa", sum := "26ace28918b3d1150a0487c54b3246dcffbb4dec983d41abcedea5febda363c7", func := "bosun/bosunlaw14.LinesNil", spec := "linesNil", apart := false, narrowed := true }
def LinesNilUptoSaid : Prop := linesNilUptoRow.holds Try.pinned (OpenSpec.upto linesNilSpec)

/-- 'bosunlaw16.ShelfOwn', WHERE WHAT IT READS IS OF BULK AT MOST 1048576: true; the input reads as it did. -/
def shelfOwnUptoRow : OpenClaim := { program := "ytfppmdnpjihcpaa", sum := "26ace28918b3d1150a0487c54b3246dcffbb4dec983d41abcedea5febda363c7", func := "bosun/bosunlaw16.ShelfOwn", spec := "shelfOwn", unfollowed := true, recurses := true, apart := false, narrowed := true }
def ShelfOwnUptoSaid : Prop := shelfOwnUptoRow.holds Try.pinned (OpenSpec.upto shelfOwnSpec)

/-- 'bosunlaw20.RollPlays', WHERE WHAT IT READS IS OF BULK AT MOST 1048576: true; the input reads as it did. -/
def rollPlaysUptoRow : OpenClaim := { program := "ytfppmdnpjihcpaa", sum := "26ace28918b3d1150a0487c54b3246dcffbb4dec983d41abcedea5febda363c7", func := "bosun/bosunlaw20.RollPlays", spec := "rollPlays", unfollowed := true, recurses := true, apart := false, narrowed := true }
def RollPlaysUptoSaid : Prop := rollPlaysUptoRow.holds Try.pinned (OpenSpec.upto rollPlaysSpec)

/-- 'bosunlaw20.RollNil', WHERE WHAT IT READS IS OF BULK AT MOST 1048576: true; the input reads as it did. -/
def rollNilUptoRow : OpenClaim := { program := "ytfppmdnpjihcpaa", sum := "26ace28918b3d1150a0487c54b3246dcffbb4dec983d41abcedea5febda363c7", func := "bosun/bosunlaw20.RollNil", spec := "rollNil", unfollowed := true, recurses := true, apart := false, narrowed := true }
def RollNilUptoSaid : Prop := rollNilUptoRow.holds Try.pinned (OpenSpec.upto rollNilSpec)

/-- 'bosunlaw16.ShelfPlays', WHERE WHAT IT READS IS OF BULK AT MOST 1048576: true; the input reads as it did. -/
def shelfPlaysUptoRow : OpenClaim := { program := "ytfppmdnpjihcpaa", sum := "26ace28918b3d1150a0487c54b3246dcffbb4dec983d41abcedea5febda363c7", func := "bosun/bosunlaw16.ShelfPlays", spec := "shelfPlays", unfollowed := true, recurses := true, apart := false, narrowed := true }
def ShelfPlaysUptoSaid : Prop := shelfPlaysUptoRow.holds Try.pinned (OpenSpec.upto shelfPlaysSpec)

/-- 'bosunlaw16.ShelfNil', WHERE WHAT IT READS IS OF BULK AT MOST 1048576: true; the input reads as it did. -/
def shelfNilUptoRow : OpenClaim := { program := "ytfppmdnpjihcpaa", sum := "26ace28918b3d1150a0487c54b3246dcffbb4dec983d41abcedea5febda363c7", func := "bosun/bosunlaw16.ShelfNil", spec := "shelfNil", unfollowed := true, recurses := true, apart := false, narrowed := true }
def ShelfNilUptoSaid : Prop := shelfNilUptoRow.holds Try.pinned (OpenSpec.upto shelfNilSpec)

end Rows
end Go.Proofs.Ytfppmdnpjihcpaa
