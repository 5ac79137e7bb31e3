/-
  No cell of these rows narrows 'for every input' (looked for: loops, veiled, ifaces, maps, wideKeys, modest, calm, conditions, laid).
  DERIVED. THE GIVEN ROWS OF THIS SEAT. 8 by the template 'for every input the law returns true; each argument reads behind the call as it read before'; 0 by the template 'total and deterministic' (their statements: YtbeoomjcipbjjaaTotals.lean).
  GIVEN WITH THE SEED: the statements are not yours to turn. If you find one false, say at which input.
  Laid BY PROGRAM, IN A SANDBOX (cutbox-rows.mjs): the forced cells as the released guide's own fill.sh prints them over the translation ac35e44a9884a612… (all of the seat's roots in one cut). By AI agents, Wed Nov 11 2026. No macro, syntax, notation, axiom, sorry.
-/
import Derived.Test.YtbeoomjcipbjjaaChecked
import GoSem.Claim
import GoSem.ClaimJoined
import GoSem.ClaimMapViews
import Derived.JoinedTies
import Derived.KernelRfl
namespace Go.Proofs.Ytbeoomjcipbjjaa
/- THE CELL 'sum', in the pinned program and in every row, IS THE sha256 OF THE DUMP (.gsa) THAT YtbeoomjcipbjjaaProg.lean LOADS. Nothing in Lean hashes anything: it is a label: what it is worth is what the hold of that sum in a sandbox is worth. -/
noncomputable def Try.pinned : Pinned := { name := "ytbeoomjcipbjjaa", sum := "ac35e44a9884a612018586ddb19e39fb2695c645b0e28ce1619c2de130f4fb95", checked := Try.checked }
namespace Rows
def none {H : Type} : Left H := { results := [], args := [] }

/-- 'bosunlaw19.WheelJust': WHATEVER THE INPUT: true; the input reads as it did. -/
def wheelJustSpec : ChangeSpec := { name := "wheelJust", fn := fun _ => fun
  | [d1, d2] => { results := [.lit (.bool true)], args := [d1, d2] }
  | _ => none }
def wheelJustRow : OpenClaim := { program := "ytbeoomjcipbjjaa", sum := "ac35e44a9884a612018586ddb19e39fb2695c645b0e28ce1619c2de130f4fb95", func := "bosun/bosunlaw19.WheelJust", spec := "wheelJust", unfollowed := true, recurses := true, apart := false }
def WheelJustSaid : Prop := wheelJustRow.holds Try.pinned (OpenSpec.ofChange wheelJustSpec)

/-- ITS FALSE NEIGHBOUR: 'it returns false'. Refute it at one input. -/
def wheelJustWrong : ChangeSpec := { name := "wheelJust", fn := fun _ => fun
  | [d1, d2] => { results := [.lit (.bool false)], args := [d1, d2] }
  | _ => none }
def WheelJustWrongFalsely : Prop := wheelJustRow.holds Try.pinned (OpenSpec.ofChange wheelJustWrong)

/-- 'bosunlaw19.WheelSkips': WHATEVER THE INPUT: true; the input reads as it did. -/
def wheelSkipsSpec : ChangeSpec := { name := "wheelSkips", fn := fun _ => fun
  | [d1, d2, d3] => { results := [.lit (.bool true)], args := [d1, d2, d3] }
  | _ => none }
def wheelSkipsRow : OpenClaim := { program := "ytbeoomjcipbjjaa", sum := "ac35e44a9884a612018586ddb19e39fb2695c645b0e28ce1619c2de130f4fb95", func := "bosun/bosunlaw19.WheelSkips", spec := "wheelSkips", unfollowed := true, recurses := true, apart := false }
def WheelSkipsSaid : Prop := wheelSkipsRow.holds Try.pinned (OpenSpec.ofChange wheelSkipsSpec)

/-- ITS FALSE NEIGHBOUR: 'it returns false'. Refute it at one input. -/
def wheelSkipsWrong : ChangeSpec := { name := "wheelSkips", fn := fun _ => fun
  | [d1, d2, d3] => { results := [.lit (.bool false)], args := [d1, d2, d3] }
  | _ => none }
def WheelSkipsWrongFalsely : Prop := wheelSkipsRow.holds Try.pinned (OpenSpec.ofChange wheelSkipsWrong)

/-- 'bosunlaw27.NapJust': WHATEVER THE INPUT: true; the input reads as it did. -/
def napJustSpec : ChangeSpec := { name := "napJust", fn := fun _ => fun
  | [d1, d2, d3] => { results := [.lit (.bool true)], args := [d1, d2, d3] }
  | _ => none }
def napJustRow : OpenClaim := { program := "ytbeoomjcipbjjaa", sum := "ac35e44a9884a612018586ddb19e39fb2695c645b0e28ce1619c2de130f4fb95", func := "bosun/bosunlaw27.NapJust", spec := "napJust", inPlace := ["math/bits.Add64"], unfollowed := true, recurses := true, apart := false }
def NapJustSaid : Prop := napJustRow.holds Try.pinned (OpenSpec.ofChange napJustSpec)

/-- ITS FALSE NEIGHBOUR: 'it returns false'. Refute it at one input. -/
def napJustWrong : ChangeSpec := { name := "napJust", fn := fun _ => fun
  | [d1, d2, d3] => { results := [.lit (.bool false)], args := [d1, d2, d3] }
  | _ => none }
def NapJustWrongFalsely : Prop := napJustRow.holds Try.pinned (OpenSpec.ofChange napJustWrong)

/-- 'bosunlaw19.WheelPlays': WHATEVER THE INPUT: true; the input reads as it did. -/
def wheelPlaysSpec : ChangeSpec := { name := "wheelPlays", fn := fun _ => fun
  | [d1, d2] => { results := [.lit (.bool true)], args := [d1, d2] }
  | _ => none }
def wheelPlaysRow : OpenClaim := { program := "ytbeoomjcipbjjaa", sum := "ac35e44a9884a612018586ddb19e39fb2695c645b0e28ce1619c2de130f4fb95", func := "bosun/bosunlaw19.WheelPlays", spec := "wheelPlays", unfollowed := true, recurses := true, apart := false }
def WheelPlaysSaid : Prop := wheelPlaysRow.holds Try.pinned (OpenSpec.ofChange wheelPlaysSpec)

/-- ITS FALSE NEIGHBOUR: 'it returns false'. Refute it at one input. -/
def wheelPlaysWrong : ChangeSpec := { name := "wheelPlays", fn := fun _ => fun
  | [d1, d2] => { results := [.lit (.bool false)], args := [d1, d2] }
  | _ => none }
def WheelPlaysWrongFalsely : Prop := wheelPlaysRow.holds Try.pinned (OpenSpec.ofChange wheelPlaysWrong)

/-- 'bosunlaw19.WheelNil': WHATEVER THE INPUT: true; the input reads as it did. -/
def wheelNilSpec : ChangeSpec := { name := "wheelNil", fn := fun _ => fun
  | [d1, d2] => { results := [.lit (.bool true)], args := [d1, d2] }
  | _ => none }
def wheelNilRow : OpenClaim := { program := "ytbeoomjcipbjjaa", sum := "ac35e44a9884a612018586ddb19e39fb2695c645b0e28ce1619c2de130f4fb95", func := "bosun/bosunlaw19.WheelNil", spec := "wheelNil", unfollowed := true, recurses := true, apart := false }
def WheelNilSaid : Prop := wheelNilRow.holds Try.pinned (OpenSpec.ofChange wheelNilSpec)

/-- ITS FALSE NEIGHBOUR: 'it returns false'. Refute it at one input. -/
def wheelNilWrong : ChangeSpec := { name := "wheelNil", fn := fun _ => fun
  | [d1, d2] => { results := [.lit (.bool false)], args := [d1, d2] }
  | _ => none }
def WheelNilWrongFalsely : Prop := wheelNilRow.holds Try.pinned (OpenSpec.ofChange wheelNilWrong)

/-- 'bosunlaw27.NapHeld': WHATEVER THE INPUT: true; the input reads as it did. -/
def napHeldSpec : ChangeSpec := { name := "napHeld", fn := fun _ => fun
  | [d1, d2] => { results := [.lit (.bool true)], args := [d1, d2] }
  | _ => none }
def napHeldRow : OpenClaim := { program := "ytbeoomjcipbjjaa", sum := "ac35e44a9884a612018586ddb19e39fb2695c645b0e28ce1619c2de130f4fb95", func := "bosun/bosunlaw27.NapHeld", spec := "napHeld", inPlace := ["math/bits.Add64"], unfollowed := true, recurses := true, apart := false }
def NapHeldSaid : Prop := napHeldRow.holds Try.pinned (OpenSpec.ofChange napHeldSpec)

/-- ITS FALSE NEIGHBOUR: 'it returns false'. Refute it at one input. -/
def napHeldWrong : ChangeSpec := { name := "napHeld", fn := fun _ => fun
  | [d1, d2] => { results := [.lit (.bool false)], args := [d1, d2] }
  | _ => none }
def NapHeldWrongFalsely : Prop := napHeldRow.holds Try.pinned (OpenSpec.ofChange napHeldWrong)

/-- 'bosunlaw27.NapPlays': WHATEVER THE INPUT: true; the input reads as it did. -/
def napPlaysSpec : ChangeSpec := { name := "napPlays", fn := fun _ => fun
  | [d1, d2] => { results := [.lit (.bool true)], args := [d1, d2] }
  | _ => none }
def napPlaysRow : OpenClaim := { program := "ytbeoomjcipbjjaa", sum := "ac35e44a9884a612018586ddb19e39fb2695c645b0e28ce1619c2de130f4fb95", func := "bosun/bosunlaw27.NapPlays", spec := "napPlays", inPlace := ["math/bits.Add64"], unfollowed := true, recurses := true, apart := false }
def NapPlaysSaid : Prop := napPlaysRow.holds Try.pinned (OpenSpec.ofChange napPlaysSpec)

/-- ITS FALSE NEIGHBOUR: 'it returns false'. Refute it at one input. -/
def napPlaysWrong : ChangeSpec := { name := "napPlays", fn := fun _ => fun
  | [d1, d2] => { results := [.lit (.bool false)], args := [d1, d2] }
  | _ => none }
def NapPlaysWrongFalsely : Prop := napPlaysRow.holds Try.pinned (OpenSpec.ofChange napPlaysWrong)

/-- 'bosunlaw27.NapNil': WHATEVER THE INPUT: true; the input reads as it did. -/
def napNilSpec : ChangeSpec := { name := "napNil", fn := fun _ => fun
  | [d1, d2] => { results := [.lit (.bool true)], args := [d1, d2] }
  | _ => none }
def napNilRow : OpenClaim := { program := "ytbeoomjcipbjjaa", sum := "ac35e44a9884a612018586ddb19e39fb2695c645b0e28ce1619c2de130f4fb95", func := "bosun/bosunlaw27.NapNil", spec := "napNil", inPlace := ["math/bits.Add64"], unfollowed := true, recurses := true, apart := false }
def NapNilSaid : Prop := napNilRow.holds Try.pinned (OpenSpec.ofChange napNilSpec)

/-- ITS FALSE NEIGHBOUR: 'it returns false'. Refute it at one input. -/
def napNilWrong : ChangeSpec := { name := "napNil", fn := fun _ => fun
  | [d1, d2] => { results := [.lit (.bool false)], args := [d1, d2] }
  | _ => none }
def NapNilWrongFalsely : Prop := napNilRow.holds Try.pinned (OpenSpec.ofChange napNilWrong)

/- THE SECOND FORM. 'bulk': how many values and letters a reading holds, each counted each time it is reached (what is shared counts as often as it is met; a slice's spare places count too). A statement '..UptoSaid' is the law's where the arguments, and the package variables that the reading takes, are together of bulk at most 1048576: NARROWER than '..Said'. Prove '..Said' where nothing that the law and all that it calls make is longer than what came in: it says more and counts as full. Else prove '..UptoSaid'. A law counts once. -/
mutual
def uptoBulk {H : Type} : DataW H → Nat
  | .lit (.string bytes) => bytes.length + 1
  | .lit _ => 1
  | .nil => 1
  | .ptr d => uptoBulk d + 1
  | .slice elems spare => uptoBulkAll elems + uptoBulkAll spare + 1
  | .agg parts => uptoBulkAll parts + 1
  | .iface _ d => uptoBulk d + 1
  | .map entries => uptoBulkEntries entries + 1
  | .held _ => 1
def uptoBulkAll {H : Type} : List (DataW H) → Nat
  | [] => 0
  | d :: r => uptoBulk d + uptoBulkAll r
def uptoBulkEntries {H : Type} : List (Lit × DataW H) → Nat
  | [] => 0
  | x :: r => uptoBulkEntry x + uptoBulkEntries r
def uptoBulkEntry {H : Type} : Lit × DataW H → Nat
  | (.string bytes, d) => bytes.length + uptoBulk d + 1
  | (_, d) => uptoBulk d + 1
 end
def uptoSmall : (H : Type) → List (DataW H) → Bool := fun _ ds => decide (uptoBulkAll ds ≤ 1048576)
def OpenSpec.upto (s : _root_.Go.ChangeSpec) : _root_.Go.OpenSpec := { _root_.Go.OpenSpec.ofChange s with cond := some uptoSmall }

/-- 'bosunlaw19.WheelJust', WHERE WHAT IT READS IS OF BULK AT MOST 1048576: true; the input reads as it did. -/
def wheelJustUptoRow : OpenClaim := { program := "ytbeoomjcipbjjaa", sum := "ac35e44a9884a612018586ddb19e39fb2695c645b0e28ce1619c2de130f4fb95", func := "bosun/bosunlaw19.WheelJust", spec := "wheelJust", unfollowed := true, recurses := true, apart := false, narrowed := true }
def WheelJustUptoSaid : Prop := wheelJustUptoRow.holds Try.pinned (OpenSpec.upto wheelJustSpec)

/-- 'bosunlaw19.WheelSkips', WHERE WHAT IT READS IS OF BULK AT MOST 1048576: true; the input reads as it did. -/
def wheelSkipsUptoRow : OpenClaim := { program := "ytbeoomjcipbjjaa", sum := "ac35e44a9884a612018586ddb19e39fb2695c645b0e28ce1619c2de130f4fb95", func := "bosun/bosunlaw19.WheelSkips", spec := "wheelSkips", unfollowed := true, recurses := true, apart := false, narrowed := true }
def WheelSkipsUptoSaid : Prop := wheelSkipsUptoRow.holds Try.pinned (OpenSpec.upto wheelSkipsSpec)

/-- 'bosunlaw27.NapJust', WHERE WHAT IT READS IS OF BULK AT MOST 1048576: true; the input reads as it did. -/
def napJustUptoRow : OpenClaim := { program := "ytbeoomjcipbjjaa", sum := "ac35e44a9884a612018586ddb19e39fb2695c645b0e28ce1619c2de130f4fb95", func := "bosun/bosunlaw27.NapJust", spec := "napJust", inPlace := ["math/bits.Add64"], unfollowed := true, recurses := true, apart := false, narrowed := true }
def NapJustUptoSaid : Prop := napJustUptoRow.holds Try.pinned (OpenSpec.upto napJustSpec)

/-- 'bosunlaw19.WheelPlays', WHERE WHAT IT READS IS OF BULK AT MOST 1048576: true; the input reads as it did. -/
def wheelPlaysUptoRow : OpenClaim := { program := "ytbeoomjcipbjjaa", sum := "ac35e44a9884a612018586ddb19e39fb2695c645b0e28ce1619c2de130f4fb95", func := "bosun/bosunlaw19.WheelPlays", spec := "wheelPlays", unfollowed := true, recurses := true, apart := false, narrowed := true }
def WheelPlaysUptoSaid : Prop := wheelPlaysUptoRow.holds Try.pinned (OpenSpec.upto wheelPlaysSpec)

/-- 'bosunlaw19.WheelNil', WHERE WHAT IT READS IS OF BULK AT MOST 1048576: true; the input reads as it did. -/
def wheelNilUptoRow : OpenClaim := { program := "ytbeoomjcipbjjaa", sum := "ac35e44a9884a612018586ddb19e39fb2695c645b0e28ce1619c2de130f4fb95", func := "bosun/bosunlaw19.WheelNil", spec := "wheelNil", unfollowed := true, recurses := true, apart := false, narrowed := true }
def WheelNilUptoSaid : Prop := wheelNilUptoRow.holds Try.pinned (OpenSpec.upto wheelNilSpec)

/-- 'bosunlaw27.NapHeld', WHERE WHAT IT READS IS OF BULK AT MOST 1048576: true; the input reads as it did. -/
def napHeldUptoRow : OpenClaim := { program := "ytbeoomjcipbjjaa", sum := "ac35e44a9884a612018586ddb19e39fb2695c645b0e28ce1619c2de130f4fb95", func := "bosun/bosunlaw27.NapHeld", spec := "napHeld", inPlace := ["math/bits.Add64"], unfollowed := true, recurses := true, apart := false, narrowed := true }
def NapHeldUptoSaid : Prop := napHeldUptoRow.holds Try.pinned (OpenSpec.upto napHeldSpec)

/-- 'bosunlaw27.NapPlays', WHERE WHAT IT READS IS OF BULK AT MOST 1048576: true; the input reads as it did. -/
def napPlaysUptoRow : OpenClaim := { program := "ytbeoomjcipbjjaa", sum := "ac35e44a9884a612018586ddb19e39fb2695c645b0e28ce1619c2de130f4fb95", func := "bosun/bosunlaw27.NapPlays", spec := "napPlays", inPlace := ["math/bits.Add64"], unfollowed := true, recurses := true, apart := false, narrowed := true }
def NapPlaysUptoSaid : Prop := napPlaysUptoRow.holds Try.pinned (OpenSpec.upto napPlaysSpec)

/-- 'bosunlaw27.NapNil', WHERE WHAT IT READS IS OF BULK AT MOST 1048576: true; the input reads as it did. -/
def napNilUptoRow : OpenClaim := { program := "ytbeoomjcipbjjaa", sum := "ac35e44a9884a612018586ddb19e39fb2695c645b0e28ce1619c2de130f4fb95", func := "bosun/bosunlaw27.NapNil", spec := "napNil", inPlace := ["math/bits.Add64"], unfollowed := true, recurses := true, apart := false, narrowed := true }
def NapNilUptoSaid : Prop := napNilUptoRow.holds Try.pinned (OpenSpec.upto napNilSpec)

end Rows
end Go.Proofs.Ytbeoomjcipbjjaa
