/-
  No cell of these rows narrows 'for every input' (looked for: loops, veiled, ifaces, maps, wideKeys, modest, calm, conditions, laid).
  DERIVED. THE GIVEN ROWS OF THIS SEAT. 6 by the template 'for every input the law returns true; each argument reads behind the call as it read before'; 0 by the template 'total and deterministic' (their statements: YtodgjomnfpaebaaTotals.lean).
  GIVEN WITH THE SEED: the statements are not yours to turn. If you find one false, say at which input.
  Laid BY PROGRAM, IN A SANDBOX (cutbox-rows.mjs): the forced cells as the released guide's own fill.sh prints them over the translation 143ccead24ee0083… (all of the seat's roots in one cut). By AI agents, Wed Nov 11 2026. No macro, syntax, notation, axiom, sorry.
-/
import Derived.Test.YtodgjomnfpaebaaChecked
import GoSem.Claim
import GoSem.ClaimJoined
import GoSem.ClaimMapViews
import Derived.JoinedTies
import Derived.KernelRfl
namespace Go.Proofs.Ytodgjomnfpaebaa
/- THE CELL 'sum', in the pinned program and in every row, IS THE sha256 OF THE DUMP (.gsa) THAT YtodgjomnfpaebaaProg.lean LOADS. Nothing in Lean hashes anything: it is a label: what it is worth is what the hold of that sum in a sandbox is worth. -/
noncomputable def Try.pinned : Pinned := { name := "ytodgjomnfpaebaa", sum := "143ccead24ee00830ca124a7ecd358d69add292453d412eb7e1581782ed207ae", checked := Try.checked }
namespace Rows
def none {H : Type} : Left H := { results := [], args := [] }

/-- 'laws.FnExactValidPlace': WHATEVER THE INPUT: true; the input reads as it did. -/
def fnExactValidPlaceSpec : ChangeSpec := { name := "fnExactValidPlace", fn := fun _ => fun
  | [d] => { results := [.lit (.bool true)], args := [d] }
  | _ => none }
def fnExactValidPlaceRow : OpenClaim := { program := "ytodgjomnfpaebaa", sum := "143ccead24ee00830ca124a7ecd358d69add292453d412eb7e1581782ed207ae", func := "loop.example/g01341/laws.FnExactValidPlace", spec := "fnExactValidPlace", apart := false }
def FnExactValidPlaceSaid : Prop := fnExactValidPlaceRow.holds Try.pinned (OpenSpec.ofChange fnExactValidPlaceSpec)

/-- ITS FALSE NEIGHBOUR: 'it returns false'. Refute it at one input. -/
def fnExactValidPlaceWrong : ChangeSpec := { name := "fnExactValidPlace", fn := fun _ => fun
  | [d] => { results := [.lit (.bool false)], args := [d] }
  | _ => none }
def FnExactValidPlaceWrongFalsely : Prop := fnExactValidPlaceRow.holds Try.pinned (OpenSpec.ofChange fnExactValidPlaceWrong)

/-- 'laws.FnExactSamePlace': WHATEVER THE INPUT: true; the input reads as it did. -/
def fnExactSamePlaceSpec : ChangeSpec := { name := "fnExactSamePlace", fn := fun _ => fun
  | [d1, d2] => { results := [.lit (.bool true)], args := [d1, d2] }
  | _ => none }
def fnExactSamePlaceRow : OpenClaim := { program := "ytodgjomnfpaebaa", sum := "143ccead24ee00830ca124a7ecd358d69add292453d412eb7e1581782ed207ae", func := "loop.example/g01341/laws.FnExactSamePlace", spec := "fnExactSamePlace", inPlace := ["math.Float32bits"], apart := false }
def FnExactSamePlaceSaid : Prop := fnExactSamePlaceRow.holds Try.pinned (OpenSpec.ofChange fnExactSamePlaceSpec)

/-- ITS FALSE NEIGHBOUR: 'it returns false'. Refute it at one input. -/
def fnExactSamePlaceWrong : ChangeSpec := { name := "fnExactSamePlace", fn := fun _ => fun
  | [d1, d2] => { results := [.lit (.bool false)], args := [d1, d2] }
  | _ => none }
def FnExactSamePlaceWrongFalsely : Prop := fnExactSamePlaceRow.holds Try.pinned (OpenSpec.ofChange fnExactSamePlaceWrong)

/-- 'laws.FnExactValidMap': WHATEVER THE INPUT: true; the input reads as it did. -/
def fnExactValidMapSpec : ChangeSpec := { name := "fnExactValidMap", fn := fun _ => fun
  | [d] => { results := [.lit (.bool true)], args := [d] }
  | _ => none }
def fnExactValidMapRow : OpenClaim := { program := "ytodgjomnfpaebaa", sum := "143ccead24ee00830ca124a7ecd358d69add292453d412eb7e1581782ed207ae", func := "loop.example/g01341/laws.FnExactValidMap", spec := "fnExactValidMap", apart := false }
def FnExactValidMapSaid : Prop := fnExactValidMapRow.holds Try.pinned (OpenSpec.ofChange fnExactValidMapSpec)

/-- ITS FALSE NEIGHBOUR: 'it returns false'. Refute it at one input. -/
def fnExactValidMapWrong : ChangeSpec := { name := "fnExactValidMap", fn := fun _ => fun
  | [d] => { results := [.lit (.bool false)], args := [d] }
  | _ => none }
def FnExactValidMapWrongFalsely : Prop := fnExactValidMapRow.holds Try.pinned (OpenSpec.ofChange fnExactValidMapWrong)

/-- 'laws.FnExactTileKey': WHATEVER THE INPUT: true; the input reads as it did. -/
def fnExactTileKeySpec : ChangeSpec := { name := "fnExactTileKey", fn := fun _ => fun
  | [d1, d2, d3] => { results := [.lit (.bool true)], args := [d1, d2, d3] }
  | _ => none }
def fnExactTileKeyRow : OpenClaim := { program := "ytodgjomnfpaebaa", sum := "143ccead24ee00830ca124a7ecd358d69add292453d412eb7e1581782ed207ae", func := "loop.example/g01341/laws.FnExactTileKey", spec := "fnExactTileKey", apart := false }
def FnExactTileKeySaid : Prop := fnExactTileKeyRow.holds Try.pinned (OpenSpec.ofChange fnExactTileKeySpec)

/-- ITS FALSE NEIGHBOUR: 'it returns false'. Refute it at one input. -/
def fnExactTileKeyWrong : ChangeSpec := { name := "fnExactTileKey", fn := fun _ => fun
  | [d1, d2, d3] => { results := [.lit (.bool false)], args := [d1, d2, d3] }
  | _ => none }
def FnExactTileKeyWrongFalsely : Prop := fnExactTileKeyRow.holds Try.pinned (OpenSpec.ofChange fnExactTileKeyWrong)

/-- 'laws.FnExactSameMap': WHATEVER THE INPUT: true; the input reads as it did. -/
def fnExactSameMapSpec : ChangeSpec := { name := "fnExactSameMap", fn := fun _ => fun
  | [d1, d2] => { results := [.lit (.bool true)], args := [d1, d2] }
  | _ => none }
def fnExactSameMapRow : OpenClaim := { program := "ytodgjomnfpaebaa", sum := "143ccead24ee00830ca124a7ecd358d69add292453d412eb7e1581782ed207ae", func := "loop.example/g01341/laws.FnExactSameMap", spec := "fnExactSameMap", inPlace := ["math.Float32bits"], apart := false }
def FnExactSameMapSaid : Prop := fnExactSameMapRow.holds Try.pinned (OpenSpec.ofChange fnExactSameMapSpec)

/-- ITS FALSE NEIGHBOUR: 'it returns false'. Refute it at one input. -/
def fnExactSameMapWrong : ChangeSpec := { name := "fnExactSameMap", fn := fun _ => fun
  | [d1, d2] => { results := [.lit (.bool false)], args := [d1, d2] }
  | _ => none }
def FnExactSameMapWrongFalsely : Prop := fnExactSameMapRow.holds Try.pinned (OpenSpec.ofChange fnExactSameMapWrong)

/-- 'laws.FnExactCountOutputs': WHATEVER THE INPUT: true; the input reads as it did. -/
def fnExactCountOutputsSpec : ChangeSpec := { name := "fnExactCountOutputs", fn := fun _ => fun
  | [d] => { results := [.lit (.bool true)], args := [d] }
  | _ => none }
def fnExactCountOutputsRow : OpenClaim := { program := "ytodgjomnfpaebaa", sum := "143ccead24ee00830ca124a7ecd358d69add292453d412eb7e1581782ed207ae", func := "loop.example/g01341/laws.FnExactCountOutputs", spec := "fnExactCountOutputs", inPlace := ["internal/bytealg.IndexByteString"], unfollowed := true, recurses := true, apart := false }
def FnExactCountOutputsSaid : Prop := fnExactCountOutputsRow.holds Try.pinned (OpenSpec.ofChange fnExactCountOutputsSpec)

/-- ITS FALSE NEIGHBOUR: 'it returns false'. Refute it at one input. -/
def fnExactCountOutputsWrong : ChangeSpec := { name := "fnExactCountOutputs", fn := fun _ => fun
  | [d] => { results := [.lit (.bool false)], args := [d] }
  | _ => none }
def FnExactCountOutputsWrongFalsely : Prop := fnExactCountOutputsRow.holds Try.pinned (OpenSpec.ofChange fnExactCountOutputsWrong)

/- THE SECOND FORM. 'bulk': how many values and letters a reading holds, each counted each time it is reached (what is shared counts as often as it is met; a slice's spare places count too). A statement '..UptoSaid' is the law's where the arguments, and the package variables that the reading takes, are together of bulk at most 1048576: NARROWER than '..Said'. Prove '..Said' where nothing that the law and all that it calls make is longer than what came in: it says more and counts as full. Else prove '..UptoSaid'. A law counts once. -/
mutual
def uptoBulk {H : Type} : DataW H → Nat
  | .lit (.string bytes) => bytes.length + 1
  | .lit _ => 1
  | .nil => 1
  | .ptr d => uptoBulk d + 1
  | .slice elems spare => uptoBulkAll elems + uptoBulkAll spare + 1
  | .agg parts => uptoBulkAll parts + 1
  | .iface _ d => uptoBulk d + 1
  | .map entries => uptoBulkEntries entries + 1
  | .held _ => 1
def uptoBulkAll {H : Type} : List (DataW H) → Nat
  | [] => 0
  | d :: r => uptoBulk d + uptoBulkAll r
def uptoBulkEntries {H : Type} : List (Lit × DataW H) → Nat
  | [] => 0
  | x :: r => uptoBulkEntry x + uptoBulkEntries r
def uptoBulkEntry {H : Type} : Lit × DataW H → Nat
  | (.string bytes, d) => bytes.length + uptoBulk d + 1
  | (_, d) => uptoBulk d + 1
 end
def uptoSmall : (H : Type) → List (DataW H) → Bool := fun _ ds => decide (uptoBulkAll ds ≤ 1048576)
def OpenSpec.upto (s : _root_.Go.ChangeSpec) : _root_.Go.OpenSpec := { _root_.Go.OpenSpec.ofChange s with cond := some uptoSmall }

/-- 'laws.FnExactValidPlace', WHERE WHAT IT READS IS OF BULK AT MOST 1048576: true; the input reads as it did. -/
def fnExactValidPlaceUptoRow : OpenClaim := { program := "ytodgjomnfpaebaa", sum := "143ccead24ee00830ca124a7ecd358d69add292453d412eb7e1581782ed207ae", func := "loop.example/g01341/laws.FnExactValidPlace", spec := "fnExactValidPlace", apart := false, narrowed := true }
def FnExactValidPlaceUptoSaid : Prop := fnExactValidPlaceUptoRow.holds Try.pinned (OpenSpec.upto fnExactValidPlaceSpec)

/-- 'laws.FnExactSamePlace', WHERE WHAT IT READS IS OF BULK AT MOST 1048576: true; the input reads as it did. -/
def fnExactSamePlaceUptoRow : OpenClaim := { program := "ytodgjomnfpaebaa", sum := "143ccead24ee00830ca124a7ecd358d69add292453d412eb7e1581782ed207ae", func := "loop.example/g01341/laws.FnExactSamePlace", spec := "fnExactSamePlace", inPlace := ["math.Float32bits"], apart := false, narrowed := true }
def FnExactSamePlaceUptoSaid : Prop := fnExactSamePlaceUptoRow.holds Try.pinned (OpenSpec.upto fnExactSamePlaceSpec)

/-- 'laws.FnExactValidMap', WHERE WHAT IT READS IS OF BULK AT MOST 1048576: true; the input reads as it did. -/
def fnExactValidMapUptoRow : OpenClaim := { program := "ytodgjomnfpaebaa", sum := "143ccead24ee00830ca124a7ecd358d69add292453d412eb7e1581782ed207ae", func := "loop.example/g01341/laws.FnExactValidMap", spec := "fnExactValidMap", apart := false, narrowed := true }
def FnExactValidMapUptoSaid : Prop := fnExactValidMapUptoRow.holds Try.pinned (OpenSpec.upto fnExactValidMapSpec)

/-- 'laws.FnExactTileKey', WHERE WHAT IT READS IS OF BULK AT MOST 1048576: true; the input reads as it did. -/
def fnExactTileKeyUptoRow : OpenClaim := { program := "ytodgjomnfpaebaa", sum := "143ccead24ee00830ca124a7ecd358d69add292453d412eb7e1581782ed207ae", func := "loop.example/g01341/laws.FnExactTileKey", spec := "fnExactTileKey", apart := false, narrowed := true }
def FnExactTileKeyUptoSaid : Prop := fnExactTileKeyUptoRow.holds Try.pinned (OpenSpec.upto fnExactTileKeySpec)

/-- 'laws.FnExactSameMap', WHERE WHAT IT READS IS OF BULK AT MOST 1048576: true; the input reads as it did. -/
def fnExactSameMapUptoRow : OpenClaim := { program := "ytodgjomnfpaebaa", sum := "143ccead24ee00830ca124a7ecd358d69add292453d412eb7e1581782ed207ae", func := "loop.example/g01341/laws.FnExactSameMap", spec := "fnExactSameMap", inPlace := ["math.Float32bits"], apart := false, narrowed := true }
def FnExactSameMapUptoSaid : Prop := fnExactSameMapUptoRow.holds Try.pinned (OpenSpec.upto fnExactSameMapSpec)

/-- 'laws.FnExactCountOutputs', WHERE WHAT IT READS IS OF BULK AT MOST 1048576: true; the input reads as it did. -/
def fnExactCountOutputsUptoRow : OpenClaim := { program := "ytodgjomnfpaebaa", sum := "143ccead24ee00830ca124a7ecd358d69add292453d412eb7e1581782ed207ae", func := "loop.example/g01341/laws.FnExactCountOutputs", spec := "fnExactCountOutputs", inPlace := ["internal/bytealg.IndexByteString"], unfollowed := true, recurses := true, apart := false, narrowed := true }
def FnExactCountOutputsUptoSaid : Prop := fnExactCountOutputsUptoRow.holds Try.pinned (OpenSpec.upto fnExactCountOutputsSpec)

end Rows
end Go.Proofs.Ytodgjomnfpaebaa
