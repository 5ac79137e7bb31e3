/-
  No cell of these rows narrows 'for every input' (looked for: loops, veiled, ifaces, maps, wideKeys, modest, calm, conditions, laid).
  DERIVED. THE GIVEN ROWS OF THIS SEAT. 10 by the template 'for every input the law returns true; each argument reads behind the call as it read before'; 0 by the template 'total and deterministic' (their statements: YtkkobbomipcpoaaTotals.lean).
  GIVEN WITH THE SEED: the statements are not yours to turn. If you find one false, say at which input.
  Laid BY PROGRAM, IN A SANDBOX (cutbox-rows.mjs): the forced cells as the released guide's own fill.sh prints them over the translation 242158f080692697… (all of the seat's roots in one cut). By AI agents, Wed Nov 11 2026. No macro, syntax, notation, axiom, sorry.
-/
import Derived.Test.YtkkobbomipcpoaaChecked
import GoSem.Claim
import GoSem.ClaimJoined
import GoSem.ClaimMapViews
import Derived.JoinedTies
import Derived.KernelRfl
namespace Go.Proofs.Ytkkobbomipcpoaa
/- THE CELL 'sum', in the pinned program and in every row, IS THE sha256 OF THE DUMP (.gsa) THAT YtkkobbomipcpoaaProg.lean LOADS. Nothing in Lean hashes anything: it is a label: what it is worth is what the hold of that sum in a sandbox is worth. -/
noncomputable def Try.pinned : Pinned := { name := "ytkkobbomipcpoaa", sum := "242158f080692697c0d4a4a573523750fa1bb8e9908e4fbcdfdbbe238123f38d", checked := Try.checked }
namespace Rows
def none {H : Type} : Left H := { results := [], args := [] }

/-- 'bosunlaw25.GiftAll': WHATEVER THE INPUT: true; the input reads as it did. -/
def giftAllSpec : ChangeSpec := { name := "giftAll", fn := fun _ => fun
  | [d1, d2] => { results := [.lit (.bool true)], args := [d1, d2] }
  | _ => none }
def giftAllRow : OpenClaim := { program := "ytkkobbomipcpoaa", sum := "242158f080692697c0d4a4a573523750fa1bb8e9908e4fbcdfdbbe238123f38d", func := "bosun/bosunlaw25.GiftAll", spec := "giftAll", unfollowed := true, recurses := true, apart := false }
def GiftAllSaid : Prop := giftAllRow.holds Try.pinned (OpenSpec.ofChange giftAllSpec)

/-- ITS FALSE NEIGHBOUR: 'it returns false'. Refute it at one input. -/
def giftAllWrong : ChangeSpec := { name := "giftAll", fn := fun _ => fun
  | [d1, d2] => { results := [.lit (.bool false)], args := [d1, d2] }
  | _ => none }
def GiftAllWrongFalsely : Prop := giftAllRow.holds Try.pinned (OpenSpec.ofChange giftAllWrong)

/-- 'bosunlaw24.WebOpen': WHATEVER THE INPUT: true; the input reads as it did. -/
def webOpenSpec : ChangeSpec := { name := "webOpen", fn := fun _ => fun
  | [d] => { results := [.lit (.bool true)], args := [d] }
  | _ => none }
def webOpenRow : OpenClaim := { program := "ytkkobbomipcpoaa", sum := "242158f080692697c0d4a4a573523750fa1bb8e9908e4fbcdfdbbe238123f38d", func := "bosun/bosunlaw24.WebOpen", spec := "webOpen", unfollowed := true, recurses := true, apart := false }
def WebOpenSaid : Prop := webOpenRow.holds Try.pinned (OpenSpec.ofChange webOpenSpec)

/-- ITS FALSE NEIGHBOUR: 'it returns false'. Refute it at one input. -/
def webOpenWrong : ChangeSpec := { name := "webOpen", fn := fun _ => fun
  | [d] => { results := [.lit (.bool false)], args := [d] }
  | _ => none }
def WebOpenWrongFalsely : Prop := webOpenRow.holds Try.pinned (OpenSpec.ofChange webOpenWrong)

/-- 'bosunlaw25.GiftWalks': WHATEVER THE INPUT: true; the input reads as it did. -/
def giftWalksSpec : ChangeSpec := { name := "giftWalks", fn := fun _ => fun
  | [d1, d2, d3] => { results := [.lit (.bool true)], args := [d1, d2, d3] }
  | _ => none }
def giftWalksRow : OpenClaim := { program := "ytkkobbomipcpoaa", sum := "242158f080692697c0d4a4a573523750fa1bb8e9908e4fbcdfdbbe238123f38d", func := "bosun/bosunlaw25.GiftWalks", spec := "giftWalks", unfollowed := true, recurses := true, apart := false }
def GiftWalksSaid : Prop := giftWalksRow.holds Try.pinned (OpenSpec.ofChange giftWalksSpec)

/-- ITS FALSE NEIGHBOUR: 'it returns false'. Refute it at one input. -/
def giftWalksWrong : ChangeSpec := { name := "giftWalks", fn := fun _ => fun
  | [d1, d2, d3] => { results := [.lit (.bool false)], args := [d1, d2, d3] }
  | _ => none }
def GiftWalksWrongFalsely : Prop := giftWalksRow.holds Try.pinned (OpenSpec.ofChange giftWalksWrong)

/-- 'bosunlaw25.GiftLevels': WHATEVER THE INPUT: true; the input reads as it did. -/
def giftLevelsSpec : ChangeSpec := { name := "giftLevels", fn := fun _ => fun
  | [d1, d2, d3] => { results := [.lit (.bool true)], args := [d1, d2, d3] }
  | _ => none }
def giftLevelsRow : OpenClaim := { program := "ytkkobbomipcpoaa", sum := "242158f080692697c0d4a4a573523750fa1bb8e9908e4fbcdfdbbe238123f38d", func := "bosun/bosunlaw25.GiftLevels", spec := "giftLevels", unfollowed := true, recurses := true, apart := false }
def GiftLevelsSaid : Prop := giftLevelsRow.holds Try.pinned (OpenSpec.ofChange giftLevelsSpec)

/-- ITS FALSE NEIGHBOUR: 'it returns false'. Refute it at one input. -/
def giftLevelsWrong : ChangeSpec := { name := "giftLevels", fn := fun _ => fun
  | [d1, d2, d3] => { results := [.lit (.bool false)], args := [d1, d2, d3] }
  | _ => none }
def GiftLevelsWrongFalsely : Prop := giftLevelsRow.holds Try.pinned (OpenSpec.ofChange giftLevelsWrong)

/-- 'bosunlaw25.GiftWaits': WHATEVER THE INPUT: true; the input reads as it did. -/
def giftWaitsSpec : ChangeSpec := { name := "giftWaits", fn := fun _ => fun
  | [d1, d2] => { results := [.lit (.bool true)], args := [d1, d2] }
  | _ => none }
def giftWaitsRow : OpenClaim := { program := "ytkkobbomipcpoaa", sum := "242158f080692697c0d4a4a573523750fa1bb8e9908e4fbcdfdbbe238123f38d", func := "bosun/bosunlaw25.GiftWaits", spec := "giftWaits", unfollowed := true, recurses := true, apart := false }
def GiftWaitsSaid : Prop := giftWaitsRow.holds Try.pinned (OpenSpec.ofChange giftWaitsSpec)

/-- ITS FALSE NEIGHBOUR: 'it returns false'. Refute it at one input. -/
def giftWaitsWrong : ChangeSpec := { name := "giftWaits", fn := fun _ => fun
  | [d1, d2] => { results := [.lit (.bool false)], args := [d1, d2] }
  | _ => none }
def GiftWaitsWrongFalsely : Prop := giftWaitsRow.holds Try.pinned (OpenSpec.ofChange giftWaitsWrong)

/-- 'bosunlaw24.WebPlays': WHATEVER THE INPUT: true; the input reads as it did. -/
def webPlaysSpec : ChangeSpec := { name := "webPlays", fn := fun _ => fun
  | [d1, d2, d3] => { results := [.lit (.bool true)], args := [d1, d2, d3] }
  | _ => none }
def webPlaysRow : OpenClaim := { program := "ytkkobbomipcpoaa", sum := "242158f080692697c0d4a4a573523750fa1bb8e9908e4fbcdfdbbe238123f38d", func := "bosun/bosunlaw24.WebPlays", spec := "webPlays", unfollowed := true, recurses := true, apart := false }
def WebPlaysSaid : Prop := webPlaysRow.holds Try.pinned (OpenSpec.ofChange webPlaysSpec)

/-- ITS FALSE NEIGHBOUR: 'it returns false'. Refute it at one input. -/
def webPlaysWrong : ChangeSpec := { name := "webPlays", fn := fun _ => fun
  | [d1, d2, d3] => { results := [.lit (.bool false)], args := [d1, d2, d3] }
  | _ => none }
def WebPlaysWrongFalsely : Prop := webPlaysRow.holds Try.pinned (OpenSpec.ofChange webPlaysWrong)

/-- 'bosunlaw24.WebNil': WHATEVER THE INPUT: true; the input reads as it did. -/
def webNilSpec : ChangeSpec := { name := "webNil", fn := fun _ => fun
  | [d1, d2] => { results := [.lit (.bool true)], args := [d1, d2] }
  | _ => none }
def webNilRow : OpenClaim := { program := "ytkkobbomipcpoaa", sum := "242158f080692697c0d4a4a573523750fa1bb8e9908e4fbcdfdbbe238123f38d", func := "bosun/bosunlaw24.WebNil", spec := "webNil", unfollowed := true, recurses := true, apart := false }
def WebNilSaid : Prop := webNilRow.holds Try.pinned (OpenSpec.ofChange webNilSpec)

/-- ITS FALSE NEIGHBOUR: 'it returns false'. Refute it at one input. -/
def webNilWrong : ChangeSpec := { name := "webNil", fn := fun _ => fun
  | [d1, d2] => { results := [.lit (.bool false)], args := [d1, d2] }
  | _ => none }
def WebNilWrongFalsely : Prop := webNilRow.holds Try.pinned (OpenSpec.ofChange webNilWrong)

/-- 'bosunlaw29.BookOnce': WHATEVER THE INPUT: true; the input reads as it did. -/
def bookOnceSpec : ChangeSpec := { name := "bookOnce", fn := fun _ => fun
  | [d] => { results := [.lit (.bool true)], args := [d] }
  | _ => none }
def bookOnceRow : OpenClaim := { program := "ytkkobbomipcpoaa", sum := "242158f080692697c0d4a4a573523750fa1bb8e9908e4fbcdfdbbe238123f38d", func := "bosun/bosunlaw29.BookOnce", spec := "bookOnce", apart := false }
def BookOnceSaid : Prop := bookOnceRow.holds Try.pinned (OpenSpec.ofChange bookOnceSpec)

/-- ITS FALSE NEIGHBOUR: 'it returns false'. Refute it at one input. -/
def bookOnceWrong : ChangeSpec := { name := "bookOnce", fn := fun _ => fun
  | [d] => { results := [.lit (.bool false)], args := [d] }
  | _ => none }
def BookOnceWrongFalsely : Prop := bookOnceRow.holds Try.pinned (OpenSpec.ofChange bookOnceWrong)

/-- 'bosunlaw29.BookPlays': WHATEVER THE INPUT: true; the input reads as it did. -/
def bookPlaysSpec : ChangeSpec := { name := "bookPlays", fn := fun _ => fun
  | [d1, d2, d3, d4, d5] => { results := [.lit (.bool true)], args := [d1, d2, d3, d4, d5] }
  | _ => none }
def bookPlaysRow : OpenClaim := { program := "ytkkobbomipcpoaa", sum := "242158f080692697c0d4a4a573523750fa1bb8e9908e4fbcdfdbbe238123f38d", func := "bosun/bosunlaw29.BookPlays", spec := "bookPlays", apart := false }
def BookPlaysSaid : Prop := bookPlaysRow.holds Try.pinned (OpenSpec.ofChange bookPlaysSpec)

/-- ITS FALSE NEIGHBOUR: 'it returns false'. Refute it at one input. -/
def bookPlaysWrong : ChangeSpec := { name := "bookPlays", fn := fun _ => fun
  | [d1, d2, d3, d4, d5] => { results := [.lit (.bool false)], args := [d1, d2, d3, d4, d5] }
  | _ => none }
def BookPlaysWrongFalsely : Prop := bookPlaysRow.holds Try.pinned (OpenSpec.ofChange bookPlaysWrong)

/-- 'bosunlaw29.BookNil': WHATEVER THE INPUT: true; the input reads as it did. -/
def bookNilSpec : ChangeSpec := { name := "bookNil", fn := fun _ => fun
  | [d1, d2] => { results := [.lit (.bool true)], args := [d1, d2] }
  | _ => none }
def bookNilRow : OpenClaim := { program := "ytkkobbomipcpoaa", sum := "242158f080692697c0d4a4a573523750fa1bb8e9908e4fbcdfdbbe238123f38d", func := "bosun/bosunlaw29.BookNil", spec := "bookNil", apart := false }
def BookNilSaid : Prop := bookNilRow.holds Try.pinned (OpenSpec.ofChange bookNilSpec)

/-- ITS FALSE NEIGHBOUR: 'it returns false'. Refute it at one input. -/
def bookNilWrong : ChangeSpec := { name := "bookNil", fn := fun _ => fun
  | [d1, d2] => { results := [.lit (.bool false)], args := [d1, d2] }
  | _ => none }
def BookNilWrongFalsely : Prop := bookNilRow.holds Try.pinned (OpenSpec.ofChange bookNilWrong)

/- THE SECOND FORM. 'bulk': how many values and letters a reading holds, each counted each time it is reached (what is shared counts as often as it is met; a slice's spare places count too). A statement '..UptoSaid' is the law's where the arguments, and the package variables that the reading takes, are together of bulk at most 1048576: NARROWER than '..Said'. Prove '..Said' where nothing that the law and all that it calls make is longer than what came in: it says more and counts as full. Else prove '..UptoSaid'. A law counts once. -/
mutual
def uptoBulk {H : Type} : DataW H → Nat
  | .lit (.string bytes) => bytes.length + 1
  | .lit _ => 1
  | .nil => 1
  | .ptr d => uptoBulk d + 1
  | .slice elems spare => uptoBulkAll elems + uptoBulkAll spare + 1
  | .agg parts => uptoBulkAll parts + 1
  | .iface _ d => uptoBulk d + 1
  | .map entries => uptoBulkEntries entries + 1
  | .held _ => 1
def uptoBulkAll {H : Type} : List (DataW H) → Nat
  | [] => 0
  | d :: r => uptoBulk d + uptoBulkAll r
def uptoBulkEntries {H : Type} : List (Lit × DataW H) → Nat
  | [] => 0
  | x :: r => uptoBulkEntry x + uptoBulkEntries r
def uptoBulkEntry {H : Type} : Lit × DataW H → Nat
  | (.string bytes, d) => bytes.length + uptoBulk d + 1
  | (_, d) => uptoBulk d + 1
 end
def uptoSmall : (H : Type) → List (DataW H) → Bool := fun _ ds => decide (uptoBulkAll ds ≤ 1048576)
def OpenSpec.upto (s : _root_.Go.ChangeSpec) : _root_.Go.OpenSpec := { _root_.Go.OpenSpec.ofChange s with cond := some uptoSmall }

/-- 'bosunlaw25.GiftAll', WHERE WHAT IT READS IS OF BULK AT MOST 1048576: true; the input reads as it did. -/
def giftAllUptoRow : OpenClaim := { program := "ytkkobbomipcpoaa", sum := "242158f080692697c0d4a4a573523750fa1bb8e9908e4fbcdfdbbe238123f38d", func := "bosun/bosunlaw25.GiftAll", spec := "giftAll", unfollowed := true, recurses := true, apart := false, narrowed := true }
def GiftAllUptoSaid : Prop := giftAllUptoRow.holds Try.pinned (OpenSpec.upto giftAllSpec)

/-- 'bosunlaw24.WebOpen', WHERE WHAT IT READS IS OF BULK AT MOST 1048576: true; the input reads as it did. -/
def webOpenUptoRow : OpenClaim := { program := "ytkkobbomipcpoaa", sum := "242158f080692697c0d4a4a573523750fa1bb8e9908e4fbcdfdbbe238123f38d", func := "bosun/bosunlaw24.WebOpen", spec := "webOpen", unfollowed := true, recurses := true, apart := false, narrowed := true }
def WebOpenUptoSaid : Prop := webOpenUptoRow.holds Try.pinned (OpenSpec.upto webOpenSpec)

/-- 'bosunlaw25.GiftWalks', WHERE WHAT IT READS IS OF BULK AT MOST 1048576: true; the input reads as it did. -/
def giftWalksUptoRow : OpenClaim := { program := "ytkkobbomipcpoaa", sum := "242158f080692697c0d4a4a573523750fa1bb8e9908e4fbcdfdbbe238123f38d", func := "bosun/bosunlaw25.GiftWalks", spec := "giftWalks", unfollowed := true, recurses := true, apart := false, narrowed := true }
def GiftWalksUptoSaid : Prop := giftWalksUptoRow.holds Try.pinned (OpenSpec.upto giftWalksSpec)

/-- 'bosunlaw25.GiftLevels', WHERE WHAT IT READS IS OF BULK AT MOST 1048576: true; the input reads as it did. -/
def giftLevelsUptoRow : OpenClaim := { program := "ytkkobbomipcpoaa", sum := "242158f080692697c0d4a4a573523750fa1bb8e9908e4fbcdfdbbe238123f38d", func := "bosun/bosunlaw25.GiftLevels", spec := "giftLevels", unfollowed := true, recurses := true, apart := false, narrowed := true }
def GiftLevelsUptoSaid : Prop := giftLevelsUptoRow.holds Try.pinned (OpenSpec.upto giftLevelsSpec)

/-- 'bosunlaw25.GiftWaits', WHERE WHAT IT READS IS OF BULK AT MOST 1048576: true; the input reads as it did. -/
def giftWaitsUptoRow : OpenClaim := { program := "ytkkobbomipcpoaa", sum := "242158f080692697c0d4a4a573523750fa1bb8e9908e4fbcdfdbbe238123f38d", func := "bosun/bosunlaw25.GiftWaits", spec := "giftWaits", unfollowed := true, recurses := true, apart := false, narrowed := true }
def GiftWaitsUptoSaid : Prop := giftWaitsUptoRow.holds Try.pinned (OpenSpec.upto giftWaitsSpec)

/-- 'bosunlaw24.WebPlays', WHERE WHAT IT READS IS OF BULK AT MOST 1048576: true; the input reads as it did. -/
def webPlaysUptoRow : OpenClaim := { program := "ytkkobbomipcpoaa", sum := "242158f080692697c0d4a4a573523750fa1bb8e9908e4fbcdfdbbe238123f38d", func := "bosun/bosunlaw24.WebPlays", spec := "webPlays", unfollowed := true, recurses := true, apart := false, narrowed := true }
def WebPlaysUptoSaid : Prop := webPlaysUptoRow.holds Try.pinned (OpenSpec.upto webPlaysSpec)

/-- 'bosunlaw24.WebNil', WHERE WHAT IT READS IS OF BULK AT MOST 1048576: true; the input reads as it did. -/
def webNilUptoRow : OpenClaim := { program := "ytkkobbomipcpoaa", sum := "242158f080692697c0d4a4a573523750fa1bb8e9908e4fbcdfdbbe238123f38d", func := "bosun/bosunlaw24.WebNil", spec := "webNil", unfollowed := true, recurses := true, apart := false, narrowed := true }
def WebNilUptoSaid : Prop := webNilUptoRow.holds Try.pinned (OpenSpec.upto webNilSpec)

/-- 'bosunlaw29.BookOnce', WHERE WHAT IT READS IS OF BULK AT MOST 1048576: true; the input reads as it did. -/
def bookOnceUptoRow : OpenClaim := { program := "ytkkobbomipcpoaa", sum := "242158f080692697c0d4a4a573523750fa1bb8e9908e4fbcdfdbbe238123f38d", func := "bosun/bosunlaw29.BookOnce", spec := "bookOnce", apart := false, narrowed := true }
def BookOnceUptoSaid : Prop := bookOnceUptoRow.holds Try.pinned (OpenSpec.upto bookOnceSpec)

/-- 'bosunlaw29.BookPlays', WHERE WHAT IT READS IS OF BULK AT MOST 1048576: true; the input reads as it did. -/
def bookPlaysUptoRow : OpenClaim := { program := "ytkkobbomipcpoaa", sum := "242158f080692697c0d4a4a573523750fa1bb8e9908e4fbcdfdbbe238123f38d", func := "bosun/bosunlaw29.BookPlays", spec := "bookPlays", apart := false, narrowed := true }
def BookPlaysUptoSaid : Prop := bookPlaysUptoRow.holds Try.pinned (OpenSpec.upto bookPlaysSpec)

/-- 'bosunlaw29.BookNil', WHERE WHAT IT READS IS OF BULK AT MOST 1048576: true; the input reads as it did. -/
def bookNilUptoRow : OpenClaim := { program := "ytkkobbomipcpoaa", sum := "242158f080692697c0d4a4a573523750fa1bb8e9908e4fbcdfdbbe238123f38d", func := "bosun/bosunlaw29.BookNil", spec := "bookNil", apart := false, narrowed := true }
def BookNilUptoSaid : Prop := bookNilUptoRow.holds Try.pinned (OpenSpec.upto bookNilSpec)

end Rows
end Go.Proofs.Ytkkobbomipcpoaa
