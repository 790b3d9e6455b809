/-
  No cell of these rows narrows 'for every input' (looked for: loops, veiled, ifaces, maps, wideKeys, modest, calm, conditions, laid).
  DERIVED. THE GIVEN ROWS OF THIS SEAT. 6 by the template 'for every input the law returns true; each argument reads behind the call as it read before'; 0 by the template 'total and deterministic' (their statements: YteecbhmgogndaaaTotals.lean).
  GIVEN WITH THE SEED: the statements are not yours to turn. If you find one false, say at which input.
  Laid BY PROGRAM, IN A SANDBOX (cutbox-rows.mjs): the forced cells as the released guide's own fill.sh prints them over the translation 2b2e76c22226e3b0… (all of the seat's roots in one cut). By AI agents, Wed Nov 11 2026. No macro, syntax, notation, axiom, sorry.
-/
import Derived.Test.YteecbhmgogndaaaChecked
import GoSem.Claim
import GoSem.ClaimJoined
import GoSem.ClaimMapViews
import Derived.JoinedTies
import Derived.KernelRfl
namespace Go.Proofs.Yteecbhmgogndaaa
/- THE CELL 'sum', in the pinned program and in every row, IS THE sha256 OF THE DUMP (.gsa) THAT YteecbhmgogndaaaProg.lean LOADS. Nothing in Lean hashes anything: it is a label: what it is worth is what the hold of that sum in a sandbox is worth. -/
noncomputable def Try.pinned : Pinned := { name := "yteecbhmgogndaaa", sum := "2b2e76c22226e3b053fa3a079780b50a74f93f2a7ed7ed1eea67415b55768d4e", checked := Try.checked }
namespace Rows
def none {H : Type} : Left H := { results := [], args := [] }

/-- 'laws.FnExactTileKey': WHATEVER THE INPUT: true; the input reads as it did. -/
def fnExactTileKeySpec : ChangeSpec := { name := "fnExactTileKey", fn := fun _ => fun
  | [d1, d2, d3] => { results := [.lit (.bool true)], args := [d1, d2, d3] }
  | _ => none }
def fnExactTileKeyRow : OpenClaim := { program := "yteecbhmgogndaaa", sum := "2b2e76c22226e3b053fa3a079780b50a74f93f2a7ed7ed1eea67415b55768d4e", func := "loop.example/g01341/laws.FnExactTileKey", spec := "fnExactTileKey", apart := false }
def FnExactTileKeySaid : Prop := fnExactTileKeyRow.holds Try.pinned (OpenSpec.ofChange fnExactTileKeySpec)

/-- ITS FALSE NEIGHBOUR: 'it returns false'. Refute it at one input. -/
def fnExactTileKeyWrong : ChangeSpec := { name := "fnExactTileKey", fn := fun _ => fun
  | [d1, d2, d3] => { results := [.lit (.bool false)], args := [d1, d2, d3] }
  | _ => none }
def FnExactTileKeyWrongFalsely : Prop := fnExactTileKeyRow.holds Try.pinned (OpenSpec.ofChange fnExactTileKeyWrong)

/-- 'laws.FnExactKeyOf': WHATEVER THE INPUT: true; the input reads as it did. -/
def fnExactKeyOfSpec : ChangeSpec := { name := "fnExactKeyOf", fn := fun _ => fun
  | [d1, d2] => { results := [.lit (.bool true)], args := [d1, d2] }
  | _ => none }
def fnExactKeyOfRow : OpenClaim := { program := "yteecbhmgogndaaa", sum := "2b2e76c22226e3b053fa3a079780b50a74f93f2a7ed7ed1eea67415b55768d4e", func := "loop.example/g01341/laws.FnExactKeyOf", spec := "fnExactKeyOf", inPlace := ["math.archFloor", "math.Float64bits", "math.Float64frombits", "math.archTrunc"], apart := false }
def FnExactKeyOfSaid : Prop := fnExactKeyOfRow.holds Try.pinned (OpenSpec.ofChange fnExactKeyOfSpec)

/-- ITS FALSE NEIGHBOUR: 'it returns false'. Refute it at one input. -/
def fnExactKeyOfWrong : ChangeSpec := { name := "fnExactKeyOf", fn := fun _ => fun
  | [d1, d2] => { results := [.lit (.bool false)], args := [d1, d2] }
  | _ => none }
def FnExactKeyOfWrongFalsely : Prop := fnExactKeyOfRow.holds Try.pinned (OpenSpec.ofChange fnExactKeyOfWrong)

/-- 'laws.FnExactKeysIn': WHATEVER THE INPUT: true; the input reads as it did. -/
def fnExactKeysInSpec : ChangeSpec := { name := "fnExactKeysIn", fn := fun _ => fun
  | [d1, d2, d3] => { results := [.lit (.bool true)], args := [d1, d2, d3] }
  | _ => none }
def fnExactKeysInRow : OpenClaim := { program := "yteecbhmgogndaaa", sum := "2b2e76c22226e3b053fa3a079780b50a74f93f2a7ed7ed1eea67415b55768d4e", func := "loop.example/g01341/laws.FnExactKeysIn", spec := "fnExactKeysIn", inPlace := ["math.archFloor", "math.Float64bits", "math.Float64frombits", "math.archTrunc"], unfollowed := true, recurses := true, apart := false }
def FnExactKeysInSaid : Prop := fnExactKeysInRow.holds Try.pinned (OpenSpec.ofChange fnExactKeysInSpec)

/-- ITS FALSE NEIGHBOUR: 'it returns false'. Refute it at one input. -/
def fnExactKeysInWrong : ChangeSpec := { name := "fnExactKeysIn", fn := fun _ => fun
  | [d1, d2, d3] => { results := [.lit (.bool false)], args := [d1, d2, d3] }
  | _ => none }
def FnExactKeysInWrongFalsely : Prop := fnExactKeysInRow.holds Try.pinned (OpenSpec.ofChange fnExactKeysInWrong)

/-- 'laws.FnExactArePacked': WHATEVER THE INPUT: true; the input reads as it did. -/
def fnExactArePackedSpec : ChangeSpec := { name := "fnExactArePacked", fn := fun _ => fun
  | [d] => { results := [.lit (.bool true)], args := [d] }
  | _ => none }
def fnExactArePackedRow : OpenClaim := { program := "yteecbhmgogndaaa", sum := "2b2e76c22226e3b053fa3a079780b50a74f93f2a7ed7ed1eea67415b55768d4e", func := "loop.example/g01341/laws.FnExactArePacked", spec := "fnExactArePacked", inPlace := ["math.archFloor", "math.Float64bits", "math.Float64frombits", "math.archTrunc", "math.Float32bits"], unfollowed := true, recurses := true, apart := false }
def FnExactArePackedSaid : Prop := fnExactArePackedRow.holds Try.pinned (OpenSpec.ofChange fnExactArePackedSpec)

/-- ITS FALSE NEIGHBOUR: 'it returns false'. Refute it at one input. -/
def fnExactArePackedWrong : ChangeSpec := { name := "fnExactArePacked", fn := fun _ => fun
  | [d] => { results := [.lit (.bool false)], args := [d] }
  | _ => none }
def FnExactArePackedWrongFalsely : Prop := fnExactArePackedRow.holds Try.pinned (OpenSpec.ofChange fnExactArePackedWrong)

/-- 'laws.FnExactPackPlaces': WHATEVER THE INPUT: true; the input reads as it did. -/
def fnExactPackPlacesSpec : ChangeSpec := { name := "fnExactPackPlaces", fn := fun _ => fun
  | [d] => { results := [.lit (.bool true)], args := [d] }
  | _ => none }
def fnExactPackPlacesRow : OpenClaim := { program := "yteecbhmgogndaaa", sum := "2b2e76c22226e3b053fa3a079780b50a74f93f2a7ed7ed1eea67415b55768d4e", func := "loop.example/g01341/laws.FnExactPackPlaces", spec := "fnExactPackPlaces", inPlace := ["math.archFloor", "math.Float64bits", "math.Float64frombits", "math.archTrunc", "math.Float32bits"], unfollowed := true, recurses := true, apart := false }
def FnExactPackPlacesSaid : Prop := fnExactPackPlacesRow.holds Try.pinned (OpenSpec.ofChange fnExactPackPlacesSpec)

/-- ITS FALSE NEIGHBOUR: 'it returns false'. Refute it at one input. -/
def fnExactPackPlacesWrong : ChangeSpec := { name := "fnExactPackPlaces", fn := fun _ => fun
  | [d] => { results := [.lit (.bool false)], args := [d] }
  | _ => none }
def FnExactPackPlacesWrongFalsely : Prop := fnExactPackPlacesRow.holds Try.pinned (OpenSpec.ofChange fnExactPackPlacesWrong)

/-- 'laws.FnExactUnpackPlaces': WHATEVER THE INPUT: true; the input reads as it did. -/
def fnExactUnpackPlacesSpec : ChangeSpec := { name := "fnExactUnpackPlaces", fn := fun _ => fun
  | [d] => { results := [.lit (.bool true)], args := [d] }
  | _ => none }
def fnExactUnpackPlacesRow : OpenClaim := { program := "yteecbhmgogndaaa", sum := "2b2e76c22226e3b053fa3a079780b50a74f93f2a7ed7ed1eea67415b55768d4e", func := "loop.example/g01341/laws.FnExactUnpackPlaces", spec := "fnExactUnpackPlaces", inPlace := ["math.archFloor", "math.Float64bits", "math.Float64frombits", "math.archTrunc", "math.Float32bits"], unfollowed := true, recurses := true, apart := false }
def FnExactUnpackPlacesSaid : Prop := fnExactUnpackPlacesRow.holds Try.pinned (OpenSpec.ofChange fnExactUnpackPlacesSpec)

/-- ITS FALSE NEIGHBOUR: 'it returns false'. Refute it at one input. -/
def fnExactUnpackPlacesWrong : ChangeSpec := { name := "fnExactUnpackPlaces", fn := fun _ => fun
  | [d] => { results := [.lit (.bool false)], args := [d] }
  | _ => none }
def FnExactUnpackPlacesWrongFalsely : Prop := fnExactUnpackPlacesRow.holds Try.pinned (OpenSpec.ofChange fnExactUnpackPlacesWrong)

/- THE SECOND FORM. 'bulk': how many values and letters a reading holds, each counted each time it is reached (what is shared counts as often as it is met; a slice's spare places count too). A statement '..UptoSaid' is the law's where the arguments, and the package variables that the reading takes, are together of bulk at most 1048576: NARROWER than '..Said'. Prove '..Said' where nothing that the law and all that it calls make is longer than what came in: it says more and counts as full. Else prove '..UptoSaid'. A law counts once. -/
mutual
def uptoBulk {H : Type} : DataW H → Nat
  | .lit (.string bytes) => bytes.length + 1
  | .lit _ => 1
  | .nil => 1
  | .ptr d => uptoBulk d + 1
  | .slice elems spare => uptoBulkAll elems + uptoBulkAll spare + 1
  | .agg parts => uptoBulkAll parts + 1
  | .iface _ d => uptoBulk d + 1
  | .map entries => uptoBulkEntries entries + 1
  | .held _ => 1
def uptoBulkAll {H : Type} : List (DataW H) → Nat
  | [] => 0
  | d :: r => uptoBulk d + uptoBulkAll r
def uptoBulkEntries {H : Type} : List (Lit × DataW H) → Nat
  | [] => 0
  | x :: r => uptoBulkEntry x + uptoBulkEntries r
def uptoBulkEntry {H : Type} : Lit × DataW H → Nat
  | (.string bytes, d) => bytes.length + uptoBulk d + 1
  | (_, d) => uptoBulk d + 1
 end
def uptoSmall : (H : Type) → List (DataW H) → Bool := fun _ ds => decide (uptoBulkAll ds ≤ 1048576)
def OpenSpec.upto (s : _root_.Go.ChangeSpec) : _root_.Go.OpenSpec := { _root_.Go.OpenSpec.ofChange s with cond := some uptoSmall }

/-- 'laws.FnExactTileKey', WHERE WHAT IT READS IS OF BULK AT MOST 1048576: true; the input reads as it did. -/
def fnExactTileKeyUptoRow : OpenClaim := { program := "yteecbhmgogndaaa", sum := "2b2e76c22226e3b053fa3a079780b50a74f93f2a7ed7ed1eea67415b55768d4e", func := "loop.example/g01341/laws.FnExactTileKey", spec := "fnExactTileKey", apart := false, narrowed := true }
def FnExactTileKeyUptoSaid : Prop := fnExactTileKeyUptoRow.holds Try.pinned (OpenSpec.upto fnExactTileKeySpec)

/-- 'laws.FnExactKeyOf', WHERE WHAT IT READS IS OF BULK AT MOST 1048576: true; the input reads as it did. -/
def fnExactKeyOfUptoRow : OpenClaim := { program := "yteecbhmgogndaaa", sum := "2b2e76c22226e3b053fa3a079780b50a74f93f2a7ed7ed1eea67415b55768d4e", func := "loop.example/g01341/laws.FnExactKeyOf", spec := "fnExactKeyOf", inPlace := ["math.archFloor", "math.Float64bits", "math.Float64frombits", "math.archTrunc"], apart := false, narrowed := true }
def FnExactKeyOfUptoSaid : Prop := fnExactKeyOfUptoRow.holds Try.pinned (OpenSpec.upto fnExactKeyOfSpec)

/-- 'laws.FnExactKeysIn', WHERE WHAT IT READS IS OF BULK AT MOST 1048576: true; the input reads as it did. -/
def fnExactKeysInUptoRow : OpenClaim := { program := "yteecbhmgogndaaa", sum := "2b2e76c22226e3b053fa3a079780b50a74f93f2a7ed7ed1eea67415b55768d4e", func := "loop.example/g01341/laws.FnExactKeysIn", spec := "fnExactKeysIn", inPlace := ["math.archFloor", "math.Float64bits", "math.Float64frombits", "math.archTrunc"], unfollowed := true, recurses := true, apart := false, narrowed := true }
def FnExactKeysInUptoSaid : Prop := fnExactKeysInUptoRow.holds Try.pinned (OpenSpec.upto fnExactKeysInSpec)

/-- 'laws.FnExactArePacked', WHERE WHAT IT READS IS OF BULK AT MOST 1048576: true; the input reads as it did. -/
def fnExactArePackedUptoRow : OpenClaim := { program := "yteecbhmgogndaaa", sum := "2b2e76c22226e3b053fa3a079780b50a74f93f2a7ed7ed1eea67415b55768d4e", func := "loop.example/g01341/laws.FnExactArePacked", spec := "fnExactArePacked", inPlace := ["math.archFloor", "math.Float64bits", "math.Float64frombits", "math.archTrunc", "math.Float32bits"], unfollowed := true, recurses := true, apart := false, narrowed := true }
def FnExactArePackedUptoSaid : Prop := fnExactArePackedUptoRow.holds Try.pinned (OpenSpec.upto fnExactArePackedSpec)

/-- 'laws.FnExactPackPlaces', WHERE WHAT IT READS IS OF BULK AT MOST 1048576: true; the input reads as it did. -/
def fnExactPackPlacesUptoRow : OpenClaim := { program := "yteecbhmgogndaaa", sum := "2b2e76c22226e3b053fa3a079780b50a74f93f2a7ed7ed1eea67415b55768d4e", func := "loop.example/g01341/laws.FnExactPackPlaces", spec := "fnExactPackPlaces", inPlace := ["math.archFloor", "math.Float64bits", "math.Float64frombits", "math.archTrunc", "math.Float32bits"], unfollowed := true, recurses := true, apart := false, narrowed := true }
def FnExactPackPlacesUptoSaid : Prop := fnExactPackPlacesUptoRow.holds Try.pinned (OpenSpec.upto fnExactPackPlacesSpec)

/-- 'laws.FnExactUnpackPlaces', WHERE WHAT IT READS IS OF BULK AT MOST 1048576: true; the input reads as it did. -/
def fnExactUnpackPlacesUptoRow : OpenClaim := { program := "yteecbhmgogndaaa", sum := "2b2e76c22226e3b053fa3a079780b50a74f93f2a7ed7ed1eea67415b55768d4e", func := "loop.example/g01341/laws.FnExactUnpackPlaces", spec := "fnExactUnpackPlaces", inPlace := ["math.archFloor", "math.Float64bits", "math.Float64frombits", "math.archTrunc", "math.Float32bits"], unfollowed := true, recurses := true, apart := false, narrowed := true }
def FnExactUnpackPlacesUptoSaid : Prop := fnExactUnpackPlacesUptoRow.holds Try.pinned (OpenSpec.upto fnExactUnpackPlacesSpec)

end Rows
end Go.Proofs.Yteecbhmgogndaaa
