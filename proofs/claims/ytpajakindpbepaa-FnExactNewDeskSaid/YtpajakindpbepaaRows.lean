/-
  No cell of these rows narrows 'for every input' (looked for: loops, veiled, ifaces, maps, wideKeys, modest, calm, conditions, laid).
  DERIVED. THE GIVEN ROWS OF THIS SEAT. 8 by the template 'for every input the law returns true; each argument reads behind the call as it read before'; 0 by the template 'total and deterministic' (their statements: YtpajakindpbepaaTotals.lean).
  GIVEN WITH THE SEED: the statements are not yours to turn. If you find one false, say at which input.
  Laid BY PROGRAM, IN A SANDBOX (cutbox-rows.mjs): the forced cells as the released guide's own fill.sh prints them over the translation f869e414b701ffef… (all of the seat's roots in one cut). By AI agents, Wed Nov 11 2026. No macro, syntax, notation, axiom, sorry.
-/
import Derived.Test.YtpajakindpbepaaChecked
import GoSem.Claim
import GoSem.ClaimJoined
import GoSem.ClaimMapViews
import Derived.JoinedTies
import Derived.KernelRfl
namespace Go.Proofs.Ytpajakindpbepaa
/- THE CELL 'sum', in the pinned program and in every row, IS THE sha256 OF THE DUMP (.gsa) THAT YtpajakindpbepaaProg.lean LOADS. Nothing in Lean hashes anything: it is a label: what it is worth is what the hold of that sum in a sandbox is worth. -/
noncomputable def Try.pinned : Pinned := { name := "ytpajakindpbepaa", sum := "f869e414b701ffef84eb25c208be050908ede300d0ab7b8348ab94618138b3f1", checked := Try.checked }
namespace Rows
def none {H : Type} : Left H := { results := [], args := [] }

/-- 'laws.FnExactContourPieces': WHATEVER THE INPUT: true; the input reads as it did. -/
def fnExactContourPiecesSpec : ChangeSpec := { name := "fnExactContourPieces", fn := fun _ => fun
  | [d1, d2] => { results := [.lit (.bool true)], args := [d1, d2] }
  | _ => none }
def fnExactContourPiecesRow : OpenClaim := { program := "ytpajakindpbepaa", sum := "f869e414b701ffef84eb25c208be050908ede300d0ab7b8348ab94618138b3f1", func := "loop.example/g01341/laws.FnExactContourPieces", spec := "fnExactContourPieces", unfollowed := true, recurses := true, apart := false }
def FnExactContourPiecesSaid : Prop := fnExactContourPiecesRow.holds Try.pinned (OpenSpec.ofChange fnExactContourPiecesSpec)

/-- ITS FALSE NEIGHBOUR: 'it returns false'. Refute it at one input. -/
def fnExactContourPiecesWrong : ChangeSpec := { name := "fnExactContourPieces", fn := fun _ => fun
  | [d1, d2] => { results := [.lit (.bool false)], args := [d1, d2] }
  | _ => none }
def FnExactContourPiecesWrongFalsely : Prop := fnExactContourPiecesRow.holds Try.pinned (OpenSpec.ofChange fnExactContourPiecesWrong)

/-- 'laws.FnExactDrainsOf': WHATEVER THE INPUT: true; the input reads as it did. -/
def fnExactDrainsOfSpec : ChangeSpec := { name := "fnExactDrainsOf", fn := fun _ => fun
  | [d] => { results := [.lit (.bool true)], args := [d] }
  | _ => none }
def fnExactDrainsOfRow : OpenClaim := { program := "ytpajakindpbepaa", sum := "f869e414b701ffef84eb25c208be050908ede300d0ab7b8348ab94618138b3f1", func := "loop.example/g01341/laws.FnExactDrainsOf", spec := "fnExactDrainsOf", inPlace := ["math.sqrt"], apart := false }
def FnExactDrainsOfSaid : Prop := fnExactDrainsOfRow.holds Try.pinned (OpenSpec.ofChange fnExactDrainsOfSpec)

/-- ITS FALSE NEIGHBOUR: 'it returns false'. Refute it at one input. -/
def fnExactDrainsOfWrong : ChangeSpec := { name := "fnExactDrainsOf", fn := fun _ => fun
  | [d] => { results := [.lit (.bool false)], args := [d] }
  | _ => none }
def FnExactDrainsOfWrongFalsely : Prop := fnExactDrainsOfRow.holds Try.pinned (OpenSpec.ofChange fnExactDrainsOfWrong)

/-- 'laws.FnExactFlowsOf': WHATEVER THE INPUT: true; the input reads as it did. -/
def fnExactFlowsOfSpec : ChangeSpec := { name := "fnExactFlowsOf", fn := fun _ => fun
  | [d] => { results := [.lit (.bool true)], args := [d] }
  | _ => none }
def fnExactFlowsOfRow : OpenClaim := { program := "ytpajakindpbepaa", sum := "f869e414b701ffef84eb25c208be050908ede300d0ab7b8348ab94618138b3f1", func := "loop.example/g01341/laws.FnExactFlowsOf", spec := "fnExactFlowsOf", inPlace := ["math.sqrt"], apart := false }
def FnExactFlowsOfSaid : Prop := fnExactFlowsOfRow.holds Try.pinned (OpenSpec.ofChange fnExactFlowsOfSpec)

/-- ITS FALSE NEIGHBOUR: 'it returns false'. Refute it at one input. -/
def fnExactFlowsOfWrong : ChangeSpec := { name := "fnExactFlowsOf", fn := fun _ => fun
  | [d] => { results := [.lit (.bool false)], args := [d] }
  | _ => none }
def FnExactFlowsOfWrongFalsely : Prop := fnExactFlowsOfRow.holds Try.pinned (OpenSpec.ofChange fnExactFlowsOfWrong)

/-- 'laws.FnExactSinksOf': WHATEVER THE INPUT: true; the input reads as it did. -/
def fnExactSinksOfSpec : ChangeSpec := { name := "fnExactSinksOf", fn := fun _ => fun
  | [d] => { results := [.lit (.bool true)], args := [d] }
  | _ => none }
def fnExactSinksOfRow : OpenClaim := { program := "ytpajakindpbepaa", sum := "f869e414b701ffef84eb25c208be050908ede300d0ab7b8348ab94618138b3f1", func := "loop.example/g01341/laws.FnExactSinksOf", spec := "fnExactSinksOf", inPlace := ["math.sqrt"], apart := false }
def FnExactSinksOfSaid : Prop := fnExactSinksOfRow.holds Try.pinned (OpenSpec.ofChange fnExactSinksOfSpec)

/-- ITS FALSE NEIGHBOUR: 'it returns false'. Refute it at one input. -/
def fnExactSinksOfWrong : ChangeSpec := { name := "fnExactSinksOf", fn := fun _ => fun
  | [d] => { results := [.lit (.bool false)], args := [d] }
  | _ => none }
def FnExactSinksOfWrongFalsely : Prop := fnExactSinksOfRow.holds Try.pinned (OpenSpec.ofChange fnExactSinksOfWrong)

/-- 'laws.FnExactSeesPlace': WHATEVER THE INPUT: true; the input reads as it did. -/
def fnExactSeesPlaceSpec : ChangeSpec := { name := "fnExactSeesPlace", fn := fun _ => fun
  | [d1, d2, d3, d4, d5, d6] => { results := [.lit (.bool true)], args := [d1, d2, d3, d4, d5, d6] }
  | _ => none }
def fnExactSeesPlaceRow : OpenClaim := { program := "ytpajakindpbepaa", sum := "f869e414b701ffef84eb25c208be050908ede300d0ab7b8348ab94618138b3f1", func := "loop.example/g01341/laws.FnExactSeesPlace", spec := "fnExactSeesPlace", inPlace := ["math.sqrt", "math.archFloor", "math.Float64bits", "math.Float64frombits", "math.archTrunc"], unfollowed := true, recurses := true, apart := false }
def FnExactSeesPlaceSaid : Prop := fnExactSeesPlaceRow.holds Try.pinned (OpenSpec.ofChange fnExactSeesPlaceSpec)

/-- ITS FALSE NEIGHBOUR: 'it returns false'. Refute it at one input. -/
def fnExactSeesPlaceWrong : ChangeSpec := { name := "fnExactSeesPlace", fn := fun _ => fun
  | [d1, d2, d3, d4, d5, d6] => { results := [.lit (.bool false)], args := [d1, d2, d3, d4, d5, d6] }
  | _ => none }
def FnExactSeesPlaceWrongFalsely : Prop := fnExactSeesPlaceRow.holds Try.pinned (OpenSpec.ofChange fnExactSeesPlaceWrong)

/-- 'laws.FnExactSeenFrom': WHATEVER THE INPUT: true; the input reads as it did. -/
def fnExactSeenFromSpec : ChangeSpec := { name := "fnExactSeenFrom", fn := fun _ => fun
  | [d1, d2, d3, d4, d5] => { results := [.lit (.bool true)], args := [d1, d2, d3, d4, d5] }
  | _ => none }
def fnExactSeenFromRow : OpenClaim := { program := "ytpajakindpbepaa", sum := "f869e414b701ffef84eb25c208be050908ede300d0ab7b8348ab94618138b3f1", func := "loop.example/g01341/laws.FnExactSeenFrom", spec := "fnExactSeenFrom", inPlace := ["math.sqrt", "math.archFloor", "math.Float64bits", "math.Float64frombits", "math.archTrunc"], unfollowed := true, recurses := true, apart := false }
def FnExactSeenFromSaid : Prop := fnExactSeenFromRow.holds Try.pinned (OpenSpec.ofChange fnExactSeenFromSpec)

/-- ITS FALSE NEIGHBOUR: 'it returns false'. Refute it at one input. -/
def fnExactSeenFromWrong : ChangeSpec := { name := "fnExactSeenFrom", fn := fun _ => fun
  | [d1, d2, d3, d4, d5] => { results := [.lit (.bool false)], args := [d1, d2, d3, d4, d5] }
  | _ => none }
def FnExactSeenFromWrongFalsely : Prop := fnExactSeenFromRow.holds Try.pinned (OpenSpec.ofChange fnExactSeenFromWrong)

/-- 'laws.FnSights': WHATEVER THE INPUT: true; the input reads as it did. -/
def fnSightsSpec : ChangeSpec := { name := "fnSights", fn := fun _ => fun
  | [d1, d2] => { results := [.lit (.bool true)], args := [d1, d2] }
  | _ => none }
def fnSightsRow : OpenClaim := { program := "ytpajakindpbepaa", sum := "f869e414b701ffef84eb25c208be050908ede300d0ab7b8348ab94618138b3f1", func := "loop.example/g01341/laws.FnSights", spec := "fnSights", inPlace := ["math.sqrt", "math.archFloor", "math.Float64bits", "math.Float64frombits", "math.archTrunc"], unfollowed := true, recurses := true, apart := false }
def FnSightsSaid : Prop := fnSightsRow.holds Try.pinned (OpenSpec.ofChange fnSightsSpec)

/-- ITS FALSE NEIGHBOUR: 'it returns false'. Refute it at one input. -/
def fnSightsWrong : ChangeSpec := { name := "fnSights", fn := fun _ => fun
  | [d1, d2] => { results := [.lit (.bool false)], args := [d1, d2] }
  | _ => none }
def FnSightsWrongFalsely : Prop := fnSightsRow.holds Try.pinned (OpenSpec.ofChange fnSightsWrong)

/-- 'laws.FnExactNewDesk': WHATEVER THE INPUT: true; the input reads as it did. -/
def fnExactNewDeskSpec : ChangeSpec := { name := "fnExactNewDesk", fn := fun _ => fun
  | [] => { results := [.lit (.bool true)], args := [] }
  | _ => none }
def fnExactNewDeskRow : OpenClaim := { program := "ytpajakindpbepaa", sum := "f869e414b701ffef84eb25c208be050908ede300d0ab7b8348ab94618138b3f1", func := "loop.example/g01341/laws.FnExactNewDesk", spec := "fnExactNewDesk", inPlace := ["math.sqrt"], unfollowed := true, recurses := true, apart := false }
def FnExactNewDeskSaid : Prop := fnExactNewDeskRow.holds Try.pinned (OpenSpec.ofChange fnExactNewDeskSpec)

/-- ITS FALSE NEIGHBOUR: 'it returns false'. Refute it at one input. -/
def fnExactNewDeskWrong : ChangeSpec := { name := "fnExactNewDesk", fn := fun _ => fun
  | [] => { results := [.lit (.bool false)], args := [] }
  | _ => none }
def FnExactNewDeskWrongFalsely : Prop := fnExactNewDeskRow.holds Try.pinned (OpenSpec.ofChange fnExactNewDeskWrong)

/- THE SECOND FORM. 'bulk': how many values and letters a reading holds, each counted each time it is reached (what is shared counts as often as it is met; a slice's spare places count too). A statement '..UptoSaid' is the law's where the arguments, and the package variables that the reading takes, are together of bulk at most 1048576: NARROWER than '..Said'. Prove '..Said' where nothing that the law and all that it calls make is longer than what came in: it says more and counts as full. Else prove '..UptoSaid'. A law counts once. -/
mutual
def uptoBulk {H : Type} : DataW H → Nat
  | .lit (.string bytes) => bytes.length + 1
  | .lit _ => 1
  | .nil => 1
  | .ptr d => uptoBulk d + 1
  | .slice elems spare => uptoBulkAll elems + uptoBulkAll spare + 1
  | .agg parts => uptoBulkAll parts + 1
  | .iface _ d => uptoBulk d + 1
  | .map entries => uptoBulkEntries entries + 1
  | .held _ => 1
def uptoBulkAll {H : Type} : List (DataW H) → Nat
  | [] => 0
  | d :: r => uptoBulk d + uptoBulkAll r
def uptoBulkEntries {H : Type} : List (Lit × DataW H) → Nat
  | [] => 0
  | x :: r => uptoBulkEntry x + uptoBulkEntries r
def uptoBulkEntry {H : Type} : Lit × DataW H → Nat
  | (.string bytes, d) => bytes.length + uptoBulk d + 1
  | (_, d) => uptoBulk d + 1
 end
def uptoSmall : (H : Type) → List (DataW H) → Bool := fun _ ds => decide (uptoBulkAll ds ≤ 1048576)
def OpenSpec.upto (s : _root_.Go.ChangeSpec) : _root_.Go.OpenSpec := { _root_.Go.OpenSpec.ofChange s with cond := some uptoSmall }

/-- 'laws.FnExactContourPieces', WHERE WHAT IT READS IS OF BULK AT MOST 1048576: true; the input reads as it did. -/
def fnExactContourPiecesUptoRow : OpenClaim := { program := "ytpajakindpbepaa", sum := "f869e414b701ffef84eb25c208be050908ede300d0ab7b8348ab94618138b3f1", func := "loop.example/g01341/laws.FnExactContourPieces", spec := "fnExactContourPieces", unfollowed := true, recurses := true, apart := false, narrowed := true }
def FnExactContourPiecesUptoSaid : Prop := fnExactContourPiecesUptoRow.holds Try.pinned (OpenSpec.upto fnExactContourPiecesSpec)

/-- 'laws.FnExactDrainsOf', WHERE WHAT IT READS IS OF BULK AT MOST 1048576: true; the input reads as it did. -/
def fnExactDrainsOfUptoRow : OpenClaim := { program := "ytpajakindpbepaa", sum := "f869e414b701ffef84eb25c208be050908ede300d0ab7b8348ab94618138b3f1", func := "loop.example/g01341/laws.FnExactDrainsOf", spec := "fnExactDrainsOf", inPlace := ["math.sqrt"], apart := false, narrowed := true }
def FnExactDrainsOfUptoSaid : Prop := fnExactDrainsOfUptoRow.holds Try.pinned (OpenSpec.upto fnExactDrainsOfSpec)

/-- 'laws.FnExactFlowsOf', WHERE WHAT IT READS IS OF BULK AT MOST 1048576: true; the input reads as it did. -/
def fnExactFlowsOfUptoRow : OpenClaim := { program := "ytpajakindpbepaa", sum := "f869e414b701ffef84eb25c208be050908ede300d0ab7b8348ab94618138b3f1", func := "loop.example/g01341/laws.FnExactFlowsOf", spec := "fnExactFlowsOf", inPlace := ["math.sqrt"], apart := false, narrowed := true }
def FnExactFlowsOfUptoSaid : Prop := fnExactFlowsOfUptoRow.holds Try.pinned (OpenSpec.upto fnExactFlowsOfSpec)

/-- 'laws.FnExactSinksOf', WHERE WHAT IT READS IS OF BULK AT MOST 1048576: true; the input reads as it did. -/
def fnExactSinksOfUptoRow : OpenClaim := { program := "ytpajakindpbepaa", sum := "f869e414b701ffef84eb25c208be050908ede300d0ab7b8348ab94618138b3f1", func := "loop.example/g01341/laws.FnExactSinksOf", spec := "fnExactSinksOf", inPlace := ["math.sqrt"], apart := false, narrowed := true }
def FnExactSinksOfUptoSaid : Prop := fnExactSinksOfUptoRow.holds Try.pinned (OpenSpec.upto fnExactSinksOfSpec)

/-- 'laws.FnExactSeesPlace', WHERE WHAT IT READS IS OF BULK AT MOST 1048576: true; the input reads as it did. -/
def fnExactSeesPlaceUptoRow : OpenClaim := { program := "ytpajakindpbepaa", sum := "f869e414b701ffef84eb25c208be050908ede300d0ab7b8348ab94618138b3f1", func := "loop.example/g01341/laws.FnExactSeesPlace", spec := "fnExactSeesPlace", inPlace := ["math.sqrt", "math.archFloor", "math.Float64bits", "math.Float64frombits", "math.archTrunc"], unfollowed := true, recurses := true, apart := false, narrowed := true }
def FnExactSeesPlaceUptoSaid : Prop := fnExactSeesPlaceUptoRow.holds Try.pinned (OpenSpec.upto fnExactSeesPlaceSpec)

/-- 'laws.FnExactSeenFrom', WHERE WHAT IT READS IS OF BULK AT MOST 1048576: true; the input reads as it did. -/
def fnExactSeenFromUptoRow : OpenClaim := { program := "ytpajakindpbepaa", sum := "f869e414b701ffef84eb25c208be050908ede300d0ab7b8348ab94618138b3f1", func := "loop.example/g01341/laws.FnExactSeenFrom", spec := "fnExactSeenFrom", inPlace := ["math.sqrt", "math.archFloor", "math.Float64bits", "math.Float64frombits", "math.archTrunc"], unfollowed := true, recurses := true, apart := false, narrowed := true }
def FnExactSeenFromUptoSaid : Prop := fnExactSeenFromUptoRow.holds Try.pinned (OpenSpec.upto fnExactSeenFromSpec)

/-- 'laws.FnSights', WHERE WHAT IT READS IS OF BULK AT MOST 1048576: true; the input reads as it did. -/
def fnSightsUptoRow : OpenClaim := { program := "ytpajakindpbepaa", sum := "f869e414b701ffef84eb25c208be050908ede300d0ab7b8348ab94618138b3f1", func := "loop.example/g01341/laws.FnSights", spec := "fnSights", inPlace := ["math.sqrt", "math.archFloor", "math.Float64bits", "math.Float64frombits", "math.archTrunc"], unfollowed := true, recurses := true, apart := false, narrowed := true }
def FnSightsUptoSaid : Prop := fnSightsUptoRow.holds Try.pinned (OpenSpec.upto fnSightsSpec)

/-- 'laws.FnExactNewDesk', WHERE WHAT IT READS IS OF BULK AT MOST 1048576: true; the input reads as it did. -/
def fnExactNewDeskUptoRow : OpenClaim := { program := "ytpajakindpbepaa", sum := "f869e414b701ffef84eb25c208be050908ede300d0ab7b8348ab94618138b3f1", func := "loop.example/g01341/laws.FnExactNewDesk", spec := "fnExactNewDesk", inPlace := ["math.sqrt"], unfollowed := true, recurses := true, apart := false, narrowed := true }
def FnExactNewDeskUptoSaid : Prop := fnExactNewDeskUptoRow.holds Try.pinned (OpenSpec.upto fnExactNewDeskSpec)

end Rows
end Go.Proofs.Ytpajakindpbepaa
