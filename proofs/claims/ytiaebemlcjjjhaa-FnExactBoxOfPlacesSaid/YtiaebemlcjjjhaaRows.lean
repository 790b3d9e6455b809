/-
  No cell of these rows narrows 'for every input' (looked for: loops, veiled, ifaces, maps, wideKeys, modest, calm, conditions, laid).
  DERIVED. THE GIVEN ROWS OF THIS SEAT. 12 by the template 'for every input the law returns true; each argument reads behind the call as it read before'; 0 by the template 'total and deterministic' (their statements: YtiaebemlcjjjhaaTotals.lean).
  GIVEN WITH THE SEED: the statements are not yours to turn. If you find one false, say at which input.
  Laid BY PROGRAM, IN A SANDBOX (cutbox-rows.mjs): the forced cells as the released guide's own fill.sh prints them over the translation a4e42438e6ef9b97… (all of the seat's roots in one cut). By AI agents, Wed Nov 11 2026. No macro, syntax, notation, axiom, sorry.
-/
import Derived.Test.YtiaebemlcjjjhaaChecked
import GoSem.Claim
import GoSem.ClaimJoined
import GoSem.ClaimMapViews
import Derived.JoinedTies
import Derived.KernelRfl
namespace Go.Proofs.Ytiaebemlcjjjhaa
/- THE CELL 'sum', in the pinned program and in every row, IS THE sha256 OF THE DUMP (.gsa) THAT YtiaebemlcjjjhaaProg.lean LOADS. Nothing in Lean hashes anything: it is a label: what it is worth is what the hold of that sum in a sandbox is worth. -/
noncomputable def Try.pinned : Pinned := { name := "ytiaebemlcjjjhaa", sum := "a4e42438e6ef9b9794e2f515f7c405096512eb653c353bf5855299d0f14ecd5d", checked := Try.checked }
namespace Rows
def none {H : Type} : Left H := { results := [], args := [] }

/-- 'laws.FnExactZoneMap': WHATEVER THE INPUT: true; the input reads as it did. -/
def fnExactZoneMapSpec : ChangeSpec := { name := "fnExactZoneMap", fn := fun _ => fun
  | [d1, d2, d3] => { results := [.lit (.bool true)], args := [d1, d2, d3] }
  | _ => none }
def fnExactZoneMapRow : OpenClaim := { program := "ytiaebemlcjjjhaa", sum := "a4e42438e6ef9b9794e2f515f7c405096512eb653c353bf5855299d0f14ecd5d", func := "loop.example/g01341/laws.FnExactZoneMap", spec := "fnExactZoneMap", apart := false }
def FnExactZoneMapSaid : Prop := fnExactZoneMapRow.holds Try.pinned (OpenSpec.ofChange fnExactZoneMapSpec)

/-- ITS FALSE NEIGHBOUR: 'it returns false'. Refute it at one input. -/
def fnExactZoneMapWrong : ChangeSpec := { name := "fnExactZoneMap", fn := fun _ => fun
  | [d1, d2, d3] => { results := [.lit (.bool false)], args := [d1, d2, d3] }
  | _ => none }
def FnExactZoneMapWrongFalsely : Prop := fnExactZoneMapRow.holds Try.pinned (OpenSpec.ofChange fnExactZoneMapWrong)

/-- 'laws.FnExactStepsOf': WHATEVER THE INPUT: true; the input reads as it did. -/
def fnExactStepsOfSpec : ChangeSpec := { name := "fnExactStepsOf", fn := fun _ => fun
  | [d] => { results := [.lit (.bool true)], args := [d] }
  | _ => none }
def fnExactStepsOfRow : OpenClaim := { program := "ytiaebemlcjjjhaa", sum := "a4e42438e6ef9b9794e2f515f7c405096512eb653c353bf5855299d0f14ecd5d", func := "loop.example/g01341/laws.FnExactStepsOf", spec := "fnExactStepsOf", inPlace := ["math.archFloor", "math.Float64bits", "math.Float64frombits", "math.archTrunc"], apart := false }
def FnExactStepsOfSaid : Prop := fnExactStepsOfRow.holds Try.pinned (OpenSpec.ofChange fnExactStepsOfSpec)

/-- ITS FALSE NEIGHBOUR: 'it returns false'. Refute it at one input. -/
def fnExactStepsOfWrong : ChangeSpec := { name := "fnExactStepsOf", fn := fun _ => fun
  | [d] => { results := [.lit (.bool false)], args := [d] }
  | _ => none }
def FnExactStepsOfWrongFalsely : Prop := fnExactStepsOfRow.holds Try.pinned (OpenSpec.ofChange fnExactStepsOfWrong)

/-- 'laws.FnExactOppositeOf': WHATEVER THE INPUT: true; the input reads as it did. -/
def fnExactOppositeOfSpec : ChangeSpec := { name := "fnExactOppositeOf", fn := fun _ => fun
  | [d] => { results := [.lit (.bool true)], args := [d] }
  | _ => none }
def fnExactOppositeOfRow : OpenClaim := { program := "ytiaebemlcjjjhaa", sum := "a4e42438e6ef9b9794e2f515f7c405096512eb653c353bf5855299d0f14ecd5d", func := "loop.example/g01341/laws.FnExactOppositeOf", spec := "fnExactOppositeOf", inPlace := ["math.archFloor", "math.Float64bits", "math.Float64frombits", "math.archTrunc"], apart := false }
def FnExactOppositeOfSaid : Prop := fnExactOppositeOfRow.holds Try.pinned (OpenSpec.ofChange fnExactOppositeOfSpec)

/-- ITS FALSE NEIGHBOUR: 'it returns false'. Refute it at one input. -/
def fnExactOppositeOfWrong : ChangeSpec := { name := "fnExactOppositeOf", fn := fun _ => fun
  | [d] => { results := [.lit (.bool false)], args := [d] }
  | _ => none }
def FnExactOppositeOfWrongFalsely : Prop := fnExactOppositeOfRow.holds Try.pinned (OpenSpec.ofChange fnExactOppositeOfWrong)

/-- 'laws.FnExactWayOf': WHATEVER THE INPUT: true; the input reads as it did. -/
def fnExactWayOfSpec : ChangeSpec := { name := "fnExactWayOf", fn := fun _ => fun
  | [d] => { results := [.lit (.bool true)], args := [d] }
  | _ => none }
def fnExactWayOfRow : OpenClaim := { program := "ytiaebemlcjjjhaa", sum := "a4e42438e6ef9b9794e2f515f7c405096512eb653c353bf5855299d0f14ecd5d", func := "loop.example/g01341/laws.FnExactWayOf", spec := "fnExactWayOf", inPlace := ["math.Float64frombits", "math.Float64bits", "math.archTrunc"], apart := false }
def FnExactWayOfSaid : Prop := fnExactWayOfRow.holds Try.pinned (OpenSpec.ofChange fnExactWayOfSpec)

/-- ITS FALSE NEIGHBOUR: 'it returns false'. Refute it at one input. -/
def fnExactWayOfWrong : ChangeSpec := { name := "fnExactWayOf", fn := fun _ => fun
  | [d] => { results := [.lit (.bool false)], args := [d] }
  | _ => none }
def FnExactWayOfWrongFalsely : Prop := fnExactWayOfRow.holds Try.pinned (OpenSpec.ofChange fnExactWayOfWrong)

/-- 'laws.FnExactSideOf': WHATEVER THE INPUT: true; the input reads as it did. -/
def fnExactSideOfSpec : ChangeSpec := { name := "fnExactSideOf", fn := fun _ => fun
  | [d1, d2, d3] => { results := [.lit (.bool true)], args := [d1, d2, d3] }
  | _ => none }
def fnExactSideOfRow : OpenClaim := { program := "ytiaebemlcjjjhaa", sum := "a4e42438e6ef9b9794e2f515f7c405096512eb653c353bf5855299d0f14ecd5d", func := "loop.example/g01341/laws.FnExactSideOf", spec := "fnExactSideOf", inPlace := ["math.Float64frombits", "math.Float64bits", "math.archTrunc"], unfollowed := true, recurses := true, apart := false }
def FnExactSideOfSaid : Prop := fnExactSideOfRow.holds Try.pinned (OpenSpec.ofChange fnExactSideOfSpec)

/-- ITS FALSE NEIGHBOUR: 'it returns false'. Refute it at one input. -/
def fnExactSideOfWrong : ChangeSpec := { name := "fnExactSideOf", fn := fun _ => fun
  | [d1, d2, d3] => { results := [.lit (.bool false)], args := [d1, d2, d3] }
  | _ => none }
def FnExactSideOfWrongFalsely : Prop := fnExactSideOfRow.holds Try.pinned (OpenSpec.ofChange fnExactSideOfWrong)

/-- 'laws.FnExactCourseTo': WHATEVER THE INPUT: true; the input reads as it did. -/
def fnExactCourseToSpec : ChangeSpec := { name := "fnExactCourseTo", fn := fun _ => fun
  | [d1, d2] => { results := [.lit (.bool true)], args := [d1, d2] }
  | _ => none }
def fnExactCourseToRow : OpenClaim := { program := "ytiaebemlcjjjhaa", sum := "a4e42438e6ef9b9794e2f515f7c405096512eb653c353bf5855299d0f14ecd5d", func := "loop.example/g01341/laws.FnExactCourseTo", spec := "fnExactCourseTo", inPlace := ["math.Float64frombits", "math.Float64bits", "math.sqrt", "math.archTrunc"], unfollowed := true, recurses := true, apart := false }
def FnExactCourseToSaid : Prop := fnExactCourseToRow.holds Try.pinned (OpenSpec.ofChange fnExactCourseToSpec)

/-- ITS FALSE NEIGHBOUR: 'it returns false'. Refute it at one input. -/
def fnExactCourseToWrong : ChangeSpec := { name := "fnExactCourseTo", fn := fun _ => fun
  | [d1, d2] => { results := [.lit (.bool false)], args := [d1, d2] }
  | _ => none }
def FnExactCourseToWrongFalsely : Prop := fnExactCourseToRow.holds Try.pinned (OpenSpec.ofChange fnExactCourseToWrong)

/-- 'laws.FnExactAreaOfTriangle': WHATEVER THE INPUT: true; the input reads as it did. -/
def fnExactAreaOfTriangleSpec : ChangeSpec := { name := "fnExactAreaOfTriangle", fn := fun _ => fun
  | [d1, d2, d3] => { results := [.lit (.bool true)], args := [d1, d2, d3] }
  | _ => none }
def fnExactAreaOfTriangleRow : OpenClaim := { program := "ytiaebemlcjjjhaa", sum := "a4e42438e6ef9b9794e2f515f7c405096512eb653c353bf5855299d0f14ecd5d", func := "loop.example/g01341/laws.FnExactAreaOfTriangle", spec := "fnExactAreaOfTriangle", inPlace := ["math.Float64frombits", "math.Float64bits", "math.sqrt", "math.archTrunc"], unfollowed := true, recurses := true, apart := false }
def FnExactAreaOfTriangleSaid : Prop := fnExactAreaOfTriangleRow.holds Try.pinned (OpenSpec.ofChange fnExactAreaOfTriangleSpec)

/-- ITS FALSE NEIGHBOUR: 'it returns false'. Refute it at one input. -/
def fnExactAreaOfTriangleWrong : ChangeSpec := { name := "fnExactAreaOfTriangle", fn := fun _ => fun
  | [d1, d2, d3] => { results := [.lit (.bool false)], args := [d1, d2, d3] }
  | _ => none }
def FnExactAreaOfTriangleWrongFalsely : Prop := fnExactAreaOfTriangleRow.holds Try.pinned (OpenSpec.ofChange fnExactAreaOfTriangleWrong)

/-- 'laws.FnExactApartOf': WHATEVER THE INPUT: true; the input reads as it did. -/
def fnExactApartOfSpec : ChangeSpec := { name := "fnExactApartOf", fn := fun _ => fun
  | [d1, d2] => { results := [.lit (.bool true)], args := [d1, d2] }
  | _ => none }
def fnExactApartOfRow : OpenClaim := { program := "ytiaebemlcjjjhaa", sum := "a4e42438e6ef9b9794e2f515f7c405096512eb653c353bf5855299d0f14ecd5d", func := "loop.example/g01341/laws.FnExactApartOf", spec := "fnExactApartOf", inPlace := ["math.Float64frombits", "math.sqrt", "math.Float64bits", "math.archTrunc"], unfollowed := true, recurses := true, apart := false }
def FnExactApartOfSaid : Prop := fnExactApartOfRow.holds Try.pinned (OpenSpec.ofChange fnExactApartOfSpec)

/-- ITS FALSE NEIGHBOUR: 'it returns false'. Refute it at one input. -/
def fnExactApartOfWrong : ChangeSpec := { name := "fnExactApartOf", fn := fun _ => fun
  | [d1, d2] => { results := [.lit (.bool false)], args := [d1, d2] }
  | _ => none }
def FnExactApartOfWrongFalsely : Prop := fnExactApartOfRow.holds Try.pinned (OpenSpec.ofChange fnExactApartOfWrong)

/-- 'laws.FnExactOffWay': WHATEVER THE INPUT: true; the input reads as it did. -/
def fnExactOffWaySpec : ChangeSpec := { name := "fnExactOffWay", fn := fun _ => fun
  | [d1, d2, d3] => { results := [.lit (.bool true)], args := [d1, d2, d3] }
  | _ => none }
def fnExactOffWayRow : OpenClaim := { program := "ytiaebemlcjjjhaa", sum := "a4e42438e6ef9b9794e2f515f7c405096512eb653c353bf5855299d0f14ecd5d", func := "loop.example/g01341/laws.FnExactOffWay", spec := "fnExactOffWay", inPlace := ["math.Float64frombits", "math.sqrt", "math.Float64bits", "math.archTrunc"], unfollowed := true, recurses := true, apart := false }
def FnExactOffWaySaid : Prop := fnExactOffWayRow.holds Try.pinned (OpenSpec.ofChange fnExactOffWaySpec)

/-- ITS FALSE NEIGHBOUR: 'it returns false'. Refute it at one input. -/
def fnExactOffWayWrong : ChangeSpec := { name := "fnExactOffWay", fn := fun _ => fun
  | [d1, d2, d3] => { results := [.lit (.bool false)], args := [d1, d2, d3] }
  | _ => none }
def FnExactOffWayWrongFalsely : Prop := fnExactOffWayRow.holds Try.pinned (OpenSpec.ofChange fnExactOffWayWrong)

/-- 'laws.FnExactNearestPlace': WHATEVER THE INPUT: true; the input reads as it did. -/
def fnExactNearestPlaceSpec : ChangeSpec := { name := "fnExactNearestPlace", fn := fun _ => fun
  | [d1, d2] => { results := [.lit (.bool true)], args := [d1, d2] }
  | _ => none }
def fnExactNearestPlaceRow : OpenClaim := { program := "ytiaebemlcjjjhaa", sum := "a4e42438e6ef9b9794e2f515f7c405096512eb653c353bf5855299d0f14ecd5d", func := "loop.example/g01341/laws.FnExactNearestPlace", spec := "fnExactNearestPlace", inPlace := ["math.Float64frombits", "math.sqrt", "math.Float64bits", "math.archTrunc"], unfollowed := true, recurses := true, apart := false }
def FnExactNearestPlaceSaid : Prop := fnExactNearestPlaceRow.holds Try.pinned (OpenSpec.ofChange fnExactNearestPlaceSpec)

/-- ITS FALSE NEIGHBOUR: 'it returns false'. Refute it at one input. -/
def fnExactNearestPlaceWrong : ChangeSpec := { name := "fnExactNearestPlace", fn := fun _ => fun
  | [d1, d2] => { results := [.lit (.bool false)], args := [d1, d2] }
  | _ => none }
def FnExactNearestPlaceWrongFalsely : Prop := fnExactNearestPlaceRow.holds Try.pinned (OpenSpec.ofChange fnExactNearestPlaceWrong)

/-- 'laws.FnExactBoxOfPlaces': WHATEVER THE INPUT: true; the input reads as it did. -/
def fnExactBoxOfPlacesSpec : ChangeSpec := { name := "fnExactBoxOfPlaces", fn := fun _ => fun
  | [d] => { results := [.lit (.bool true)], args := [d] }
  | _ => none }
def fnExactBoxOfPlacesRow : OpenClaim := { program := "ytiaebemlcjjjhaa", sum := "a4e42438e6ef9b9794e2f515f7c405096512eb653c353bf5855299d0f14ecd5d", func := "loop.example/g01341/laws.FnExactBoxOfPlaces", spec := "fnExactBoxOfPlaces", unfollowed := true, recurses := true, apart := false }
def FnExactBoxOfPlacesSaid : Prop := fnExactBoxOfPlacesRow.holds Try.pinned (OpenSpec.ofChange fnExactBoxOfPlacesSpec)

/-- ITS FALSE NEIGHBOUR: 'it returns false'. Refute it at one input. -/
def fnExactBoxOfPlacesWrong : ChangeSpec := { name := "fnExactBoxOfPlaces", fn := fun _ => fun
  | [d] => { results := [.lit (.bool false)], args := [d] }
  | _ => none }
def FnExactBoxOfPlacesWrongFalsely : Prop := fnExactBoxOfPlacesRow.holds Try.pinned (OpenSpec.ofChange fnExactBoxOfPlacesWrong)

/-- 'laws.FnExactArePlaces': WHATEVER THE INPUT: true; the input reads as it did. -/
def fnExactArePlacesSpec : ChangeSpec := { name := "fnExactArePlaces", fn := fun _ => fun
  | [d] => { results := [.lit (.bool true)], args := [d] }
  | _ => none }
def fnExactArePlacesRow : OpenClaim := { program := "ytiaebemlcjjjhaa", sum := "a4e42438e6ef9b9794e2f515f7c405096512eb653c353bf5855299d0f14ecd5d", func := "loop.example/g01341/laws.FnExactArePlaces", spec := "fnExactArePlaces", unfollowed := true, recurses := true, apart := false }
def FnExactArePlacesSaid : Prop := fnExactArePlacesRow.holds Try.pinned (OpenSpec.ofChange fnExactArePlacesSpec)

/-- ITS FALSE NEIGHBOUR: 'it returns false'. Refute it at one input. -/
def fnExactArePlacesWrong : ChangeSpec := { name := "fnExactArePlaces", fn := fun _ => fun
  | [d] => { results := [.lit (.bool false)], args := [d] }
  | _ => none }
def FnExactArePlacesWrongFalsely : Prop := fnExactArePlacesRow.holds Try.pinned (OpenSpec.ofChange fnExactArePlacesWrong)

/- THE SECOND FORM. 'bulk': how many values and letters a reading holds, each counted each time it is reached (what is shared counts as often as it is met; a slice's spare places count too). A statement '..UptoSaid' is the law's where the arguments, and the package variables that the reading takes, are together of bulk at most 1048576: NARROWER than '..Said'. Prove '..Said' where nothing that the law and all that it calls make is longer than what came in: it says more and counts as full. Else prove '..UptoSaid'. A law counts once. -/
mutual
def uptoBulk {H : Type} : DataW H → Nat
  | .lit (.string bytes) => bytes.length + 1
  | .lit _ => 1
  | .nil => 1
  | .ptr d => uptoBulk d + 1
  | .slice elems spare => uptoBulkAll elems + uptoBulkAll spare + 1
  | .agg parts => uptoBulkAll parts + 1
  | .iface _ d => uptoBulk d + 1
  | .map entries => uptoBulkEntries entries + 1
  | .held _ => 1
def uptoBulkAll {H : Type} : List (DataW H) → Nat
  | [] => 0
  | d :: r => uptoBulk d + uptoBulkAll r
def uptoBulkEntries {H : Type} : List (Lit × DataW H) → Nat
  | [] => 0
  | x :: r => uptoBulkEntry x + uptoBulkEntries r
def uptoBulkEntry {H : Type} : Lit × DataW H → Nat
  | (.string bytes, d) => bytes.length + uptoBulk d + 1
  | (_, d) => uptoBulk d + 1
 end
def uptoSmall : (H : Type) → List (DataW H) → Bool := fun _ ds => decide (uptoBulkAll ds ≤ 1048576)
def OpenSpec.upto (s : _root_.Go.ChangeSpec) : _root_.Go.OpenSpec := { _root_.Go.OpenSpec.ofChange s with cond := some uptoSmall }

/-- 'laws.FnExactZoneMap', WHERE WHAT IT READS IS OF BULK AT MOST 1048576: true; the input reads as it did. -/
def fnExactZoneMapUptoRow : OpenClaim := { program := "ytiaebemlcjjjhaa", sum := "a4e42438e6ef9b9794e2f515f7c405096512eb653c353bf5855299d0f14ecd5d", func := "loop.example/g01341/laws.FnExactZoneMap", spec := "fnExactZoneMap", apart := false, narrowed := true }
def FnExactZoneMapUptoSaid : Prop := fnExactZoneMapUptoRow.holds Try.pinned (OpenSpec.upto fnExactZoneMapSpec)

/-- 'laws.FnExactStepsOf', WHERE WHAT IT READS IS OF BULK AT MOST 1048576: true; the input reads as it did. -/
def fnExactStepsOfUptoRow : OpenClaim := { program := "ytiaebemlcjjjhaa", sum := "a4e42438e6ef9b9794e2f515f7c405096512eb653c353bf5855299d0f14ecd5d", func := "loop.example/g01341/laws.FnExactStepsOf", spec := "fnExactStepsOf", inPlace := ["math.archFloor", "math.Float64bits", "math.Float64frombits", "math.archTrunc"], apart := false, narrowed := true }
def FnExactStepsOfUptoSaid : Prop := fnExactStepsOfUptoRow.holds Try.pinned (OpenSpec.upto fnExactStepsOfSpec)

/-- 'laws.FnExactOppositeOf', WHERE WHAT IT READS IS OF BULK AT MOST 1048576: true; the input reads as it did. -/
def fnExactOppositeOfUptoRow : OpenClaim := { program := "ytiaebemlcjjjhaa", sum := "a4e42438e6ef9b9794e2f515f7c405096512eb653c353bf5855299d0f14ecd5d", func := "loop.example/g01341/laws.FnExactOppositeOf", spec := "fnExactOppositeOf", inPlace := ["math.archFloor", "math.Float64bits", "math.Float64frombits", "math.archTrunc"], apart := false, narrowed := true }
def FnExactOppositeOfUptoSaid : Prop := fnExactOppositeOfUptoRow.holds Try.pinned (OpenSpec.upto fnExactOppositeOfSpec)

/-- 'laws.FnExactWayOf', WHERE WHAT IT READS IS OF BULK AT MOST 1048576: true; the input reads as it did. -/
def fnExactWayOfUptoRow : OpenClaim := { program := "ytiaebemlcjjjhaa", sum := "a4e42438e6ef9b9794e2f515f7c405096512eb653c353bf5855299d0f14ecd5d", func := "loop.example/g01341/laws.FnExactWayOf", spec := "fnExactWayOf", inPlace := ["math.Float64frombits", "math.Float64bits", "math.archTrunc"], apart := false, narrowed := true }
def FnExactWayOfUptoSaid : Prop := fnExactWayOfUptoRow.holds Try.pinned (OpenSpec.upto fnExactWayOfSpec)

/-- 'laws.FnExactSideOf', WHERE WHAT IT READS IS OF BULK AT MOST 1048576: true; the input reads as it did. -/
def fnExactSideOfUptoRow : OpenClaim := { program := "ytiaebemlcjjjhaa", sum := "a4e42438e6ef9b9794e2f515f7c405096512eb653c353bf5855299d0f14ecd5d", func := "loop.example/g01341/laws.FnExactSideOf", spec := "fnExactSideOf", inPlace := ["math.Float64frombits", "math.Float64bits", "math.archTrunc"], unfollowed := true, recurses := true, apart := false, narrowed := true }
def FnExactSideOfUptoSaid : Prop := fnExactSideOfUptoRow.holds Try.pinned (OpenSpec.upto fnExactSideOfSpec)

/-- 'laws.FnExactCourseTo', WHERE WHAT IT READS IS OF BULK AT MOST 1048576: true; the input reads as it did. -/
def fnExactCourseToUptoRow : OpenClaim := { program := "ytiaebemlcjjjhaa", sum := "a4e42438e6ef9b9794e2f515f7c405096512eb653c353bf5855299d0f14ecd5d", func := "loop.example/g01341/laws.FnExactCourseTo", spec := "fnExactCourseTo", inPlace := ["math.Float64frombits", "math.Float64bits", "math.sqrt", "math.archTrunc"], unfollowed := true, recurses := true, apart := false, narrowed := true }
def FnExactCourseToUptoSaid : Prop := fnExactCourseToUptoRow.holds Try.pinned (OpenSpec.upto fnExactCourseToSpec)

/-- 'laws.FnExactAreaOfTriangle', WHERE WHAT IT READS IS OF BULK AT MOST 1048576: true; the input reads as it did. -/
def fnExactAreaOfTriangleUptoRow : OpenClaim := { program := "ytiaebemlcjjjhaa", sum := "a4e42438e6ef9b9794e2f515f7c405096512eb653c353bf5855299d0f14ecd5d", func := "loop.example/g01341/laws.FnExactAreaOfTriangle", spec := "fnExactAreaOfTriangle", inPlace := ["math.Float64frombits", "math.Float64bits", "math.sqrt", "math.archTrunc"], unfollowed := true, recurses := true, apart := false, narrowed := true }
def FnExactAreaOfTriangleUptoSaid : Prop := fnExactAreaOfTriangleUptoRow.holds Try.pinned (OpenSpec.upto fnExactAreaOfTriangleSpec)

/-- 'laws.FnExactApartOf', WHERE WHAT IT READS IS OF BULK AT MOST 1048576: true; the input reads as it did. -/
def fnExactApartOfUptoRow : OpenClaim := { program := "ytiaebemlcjjjhaa", sum := "a4e42438e6ef9b9794e2f515f7c405096512eb653c353bf5855299d0f14ecd5d", func := "loop.example/g01341/laws.FnExactApartOf", spec := "fnExactApartOf", inPlace := ["math.Float64frombits", "math.sqrt", "math.Float64bits", "math.archTrunc"], unfollowed := true, recurses := true, apart := false, narrowed := true }
def FnExactApartOfUptoSaid : Prop := fnExactApartOfUptoRow.holds Try.pinned (OpenSpec.upto fnExactApartOfSpec)

/-- 'laws.FnExactOffWay', WHERE WHAT IT READS IS OF BULK AT MOST 1048576: true; the input reads as it did. -/
def fnExactOffWayUptoRow : OpenClaim := { program := "ytiaebemlcjjjhaa", sum := "a4e42438e6ef9b9794e2f515f7c405096512eb653c353bf5855299d0f14ecd5d", func := "loop.example/g01341/laws.FnExactOffWay", spec := "fnExactOffWay", inPlace := ["math.Float64frombits", "math.sqrt", "math.Float64bits", "math.archTrunc"], unfollowed := true, recurses := true, apart := false, narrowed := true }
def FnExactOffWayUptoSaid : Prop := fnExactOffWayUptoRow.holds Try.pinned (OpenSpec.upto fnExactOffWaySpec)

/-- 'laws.FnExactNearestPlace', WHERE WHAT IT READS IS OF BULK AT MOST 1048576: true; the input reads as it did. -/
def fnExactNearestPlaceUptoRow : OpenClaim := { program := "ytiaebemlcjjjhaa", sum := "a4e42438e6ef9b9794e2f515f7c405096512eb653c353bf5855299d0f14ecd5d", func := "loop.example/g01341/laws.FnExactNearestPlace", spec := "fnExactNearestPlace", inPlace := ["math.Float64frombits", "math.sqrt", "math.Float64bits", "math.archTrunc"], unfollowed := true, recurses := true, apart := false, narrowed := true }
def FnExactNearestPlaceUptoSaid : Prop := fnExactNearestPlaceUptoRow.holds Try.pinned (OpenSpec.upto fnExactNearestPlaceSpec)

/-- 'laws.FnExactBoxOfPlaces', WHERE WHAT IT READS IS OF BULK AT MOST 1048576: true; the input reads as it did. -/
def fnExactBoxOfPlacesUptoRow : OpenClaim := { program := "ytiaebemlcjjjhaa", sum := "a4e42438e6ef9b9794e2f515f7c405096512eb653c353bf5855299d0f14ecd5d", func := "loop.example/g01341/laws.FnExactBoxOfPlaces", spec := "fnExactBoxOfPlaces", unfollowed := true, recurses := true, apart := false, narrowed := true }
def FnExactBoxOfPlacesUptoSaid : Prop := fnExactBoxOfPlacesUptoRow.holds Try.pinned (OpenSpec.upto fnExactBoxOfPlacesSpec)

/-- 'laws.FnExactArePlaces', WHERE WHAT IT READS IS OF BULK AT MOST 1048576: true; the input reads as it did. -/
def fnExactArePlacesUptoRow : OpenClaim := { program := "ytiaebemlcjjjhaa", sum := "a4e42438e6ef9b9794e2f515f7c405096512eb653c353bf5855299d0f14ecd5d", func := "loop.example/g01341/laws.FnExactArePlaces", spec := "fnExactArePlaces", unfollowed := true, recurses := true, apart := false, narrowed := true }
def FnExactArePlacesUptoSaid : Prop := fnExactArePlacesUptoRow.holds Try.pinned (OpenSpec.upto fnExactArePlacesSpec)

end Rows
end Go.Proofs.Ytiaebemlcjjjhaa
