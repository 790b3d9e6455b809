/-
  No cell of these rows narrows 'for every input' (looked for: loops, veiled, ifaces, maps, wideKeys, modest, calm, conditions, laid).
  DERIVED. THE GIVEN ROWS OF THIS SEAT. 7 by the template 'for every input the law returns true; each argument reads behind the call as it read before'; 0 by the template 'total and deterministic' (their statements: YtpmeccjfjjklkaaTotals.lean).
  GIVEN WITH THE SEED: the statements are not yours to turn. If you find one false, say at which input.
  Laid BY PROGRAM, IN A SANDBOX (cutbox-rows.mjs): the forced cells as the released guide's own fill.sh prints them over the translation 110cdd118c8c5f30… (all of the seat's roots in one cut). By AI agents, Wed Nov 11 2026. No macro, syntax, notation, axiom, sorry.
-/
import Derived.Test.YtpmeccjfjjklkaaChecked
import GoSem.Claim
import GoSem.ClaimJoined
import GoSem.ClaimMapViews
import Derived.JoinedTies
import Derived.KernelRfl
namespace Go.Proofs.Ytpmeccjfjjklkaa
/- THE CELL 'sum', in the pinned program and in every row, IS THE sha256 OF THE DUMP (.gsa) THAT YtpmeccjfjjklkaaProg.lean LOADS. Nothing in Lean hashes anything: it is a label: what it is worth is what the hold of that sum in a sandbox is worth. -/
noncomputable def Try.pinned : Pinned := { name := "ytpmeccjfjjklkaa", sum := "110cdd118c8c5f304079543732554bf01ed39db830cb79dde2ff89d2c3815d67", checked := Try.checked }
namespace Rows
def none {H : Type} : Left H := { results := [], args := [] }

/-- 'laws.FnExactValidNet': WHATEVER THE INPUT: true; the input reads as it did. -/
def fnExactValidNetSpec : ChangeSpec := { name := "fnExactValidNet", fn := fun _ => fun
  | [d] => { results := [.lit (.bool true)], args := [d] }
  | _ => none }
def fnExactValidNetRow : OpenClaim := { program := "ytpmeccjfjjklkaa", sum := "110cdd118c8c5f304079543732554bf01ed39db830cb79dde2ff89d2c3815d67", func := "loop.example/g01341/laws.FnExactValidNet", spec := "fnExactValidNet", unfollowed := true, recurses := true, apart := false }
def FnExactValidNetSaid : Prop := fnExactValidNetRow.holds Try.pinned (OpenSpec.ofChange fnExactValidNetSpec)

/-- ITS FALSE NEIGHBOUR: 'it returns false'. Refute it at one input. -/
def fnExactValidNetWrong : ChangeSpec := { name := "fnExactValidNet", fn := fun _ => fun
  | [d] => { results := [.lit (.bool false)], args := [d] }
  | _ => none }
def FnExactValidNetWrongFalsely : Prop := fnExactValidNetRow.holds Try.pinned (OpenSpec.ofChange fnExactValidNetWrong)

/-- 'laws.FnExactPlainNet': WHATEVER THE INPUT: true; the input reads as it did. -/
def fnExactPlainNetSpec : ChangeSpec := { name := "fnExactPlainNet", fn := fun _ => fun
  | [d1, d2] => { results := [.lit (.bool true)], args := [d1, d2] }
  | _ => none }
def fnExactPlainNetRow : OpenClaim := { program := "ytpmeccjfjjklkaa", sum := "110cdd118c8c5f304079543732554bf01ed39db830cb79dde2ff89d2c3815d67", func := "loop.example/g01341/laws.FnExactPlainNet", spec := "fnExactPlainNet", unfollowed := true, recurses := true, apart := false }
def FnExactPlainNetSaid : Prop := fnExactPlainNetRow.holds Try.pinned (OpenSpec.ofChange fnExactPlainNetSpec)

/-- ITS FALSE NEIGHBOUR: 'it returns false'. Refute it at one input. -/
def fnExactPlainNetWrong : ChangeSpec := { name := "fnExactPlainNet", fn := fun _ => fun
  | [d1, d2] => { results := [.lit (.bool false)], args := [d1, d2] }
  | _ => none }
def FnExactPlainNetWrongFalsely : Prop := fnExactPlainNetRow.holds Try.pinned (OpenSpec.ofChange fnExactPlainNetWrong)

/-- 'laws.FnExactRouteLongs': WHATEVER THE INPUT: true; the input reads as it did. -/
def fnExactRouteLongsSpec : ChangeSpec := { name := "fnExactRouteLongs", fn := fun _ => fun
  | [d1, d2] => { results := [.lit (.bool true)], args := [d1, d2] }
  | _ => none }
def fnExactRouteLongsRow : OpenClaim := { program := "ytpmeccjfjjklkaa", sum := "110cdd118c8c5f304079543732554bf01ed39db830cb79dde2ff89d2c3815d67", func := "loop.example/g01341/laws.FnExactRouteLongs", spec := "fnExactRouteLongs", unfollowed := true, recurses := true, apart := false }
def FnExactRouteLongsSaid : Prop := fnExactRouteLongsRow.holds Try.pinned (OpenSpec.ofChange fnExactRouteLongsSpec)

/-- ITS FALSE NEIGHBOUR: 'it returns false'. Refute it at one input. -/
def fnExactRouteLongsWrong : ChangeSpec := { name := "fnExactRouteLongs", fn := fun _ => fun
  | [d1, d2] => { results := [.lit (.bool false)], args := [d1, d2] }
  | _ => none }
def FnExactRouteLongsWrongFalsely : Prop := fnExactRouteLongsRow.holds Try.pinned (OpenSpec.ofChange fnExactRouteLongsWrong)

/-- 'laws.FnExactReachOf': WHATEVER THE INPUT: true; the input reads as it did. -/
def fnExactReachOfSpec : ChangeSpec := { name := "fnExactReachOf", fn := fun _ => fun
  | [d1, d2, d3] => { results := [.lit (.bool true)], args := [d1, d2, d3] }
  | _ => none }
def fnExactReachOfRow : OpenClaim := { program := "ytpmeccjfjjklkaa", sum := "110cdd118c8c5f304079543732554bf01ed39db830cb79dde2ff89d2c3815d67", func := "loop.example/g01341/laws.FnExactReachOf", spec := "fnExactReachOf", unfollowed := true, recurses := true, apart := false }
def FnExactReachOfSaid : Prop := fnExactReachOfRow.holds Try.pinned (OpenSpec.ofChange fnExactReachOfSpec)

/-- ITS FALSE NEIGHBOUR: 'it returns false'. Refute it at one input. -/
def fnExactReachOfWrong : ChangeSpec := { name := "fnExactReachOf", fn := fun _ => fun
  | [d1, d2, d3] => { results := [.lit (.bool false)], args := [d1, d2, d3] }
  | _ => none }
def FnExactReachOfWrongFalsely : Prop := fnExactReachOfRow.holds Try.pinned (OpenSpec.ofChange fnExactReachOfWrong)

/-- 'laws.FnExactRoutesShared': WHATEVER THE INPUT: true; the input reads as it did. -/
def fnExactRoutesSharedSpec : ChangeSpec := { name := "fnExactRoutesShared", fn := fun _ => fun
  | [d1, d2, d3] => { results := [.lit (.bool true)], args := [d1, d2, d3] }
  | _ => none }
def fnExactRoutesSharedRow : OpenClaim := { program := "ytpmeccjfjjklkaa", sum := "110cdd118c8c5f304079543732554bf01ed39db830cb79dde2ff89d2c3815d67", func := "loop.example/g01341/laws.FnExactRoutesShared", spec := "fnExactRoutesShared", unfollowed := true, recurses := true, apart := false }
def FnExactRoutesSharedSaid : Prop := fnExactRoutesSharedRow.holds Try.pinned (OpenSpec.ofChange fnExactRoutesSharedSpec)

/-- ITS FALSE NEIGHBOUR: 'it returns false'. Refute it at one input. -/
def fnExactRoutesSharedWrong : ChangeSpec := { name := "fnExactRoutesShared", fn := fun _ => fun
  | [d1, d2, d3] => { results := [.lit (.bool false)], args := [d1, d2, d3] }
  | _ => none }
def FnExactRoutesSharedWrongFalsely : Prop := fnExactRoutesSharedRow.holds Try.pinned (OpenSpec.ofChange fnExactRoutesSharedWrong)

/-- 'laws.FnExactRoutePath': WHATEVER THE INPUT: true; the input reads as it did. -/
def fnExactRoutePathSpec : ChangeSpec := { name := "fnExactRoutePath", fn := fun _ => fun
  | [d1, d2, d3] => { results := [.lit (.bool true)], args := [d1, d2, d3] }
  | _ => none }
def fnExactRoutePathRow : OpenClaim := { program := "ytpmeccjfjjklkaa", sum := "110cdd118c8c5f304079543732554bf01ed39db830cb79dde2ff89d2c3815d67", func := "loop.example/g01341/laws.FnExactRoutePath", spec := "fnExactRoutePath", unfollowed := true, recurses := true, apart := false }
def FnExactRoutePathSaid : Prop := fnExactRoutePathRow.holds Try.pinned (OpenSpec.ofChange fnExactRoutePathSpec)

/-- ITS FALSE NEIGHBOUR: 'it returns false'. Refute it at one input. -/
def fnExactRoutePathWrong : ChangeSpec := { name := "fnExactRoutePath", fn := fun _ => fun
  | [d1, d2, d3] => { results := [.lit (.bool false)], args := [d1, d2, d3] }
  | _ => none }
def FnExactRoutePathWrongFalsely : Prop := fnExactRoutePathRow.holds Try.pinned (OpenSpec.ofChange fnExactRoutePathWrong)

/-- 'laws.FnRoutes': WHATEVER THE INPUT: true; the input reads as it did. -/
def fnRoutesSpec : ChangeSpec := { name := "fnRoutes", fn := fun _ => fun
  | [d1, d2] => { results := [.lit (.bool true)], args := [d1, d2] }
  | _ => none }
def fnRoutesRow : OpenClaim := { program := "ytpmeccjfjjklkaa", sum := "110cdd118c8c5f304079543732554bf01ed39db830cb79dde2ff89d2c3815d67", func := "loop.example/g01341/laws.FnRoutes", spec := "fnRoutes", unfollowed := true, recurses := true, apart := false }
def FnRoutesSaid : Prop := fnRoutesRow.holds Try.pinned (OpenSpec.ofChange fnRoutesSpec)

/-- ITS FALSE NEIGHBOUR: 'it returns false'. Refute it at one input. -/
def fnRoutesWrong : ChangeSpec := { name := "fnRoutes", fn := fun _ => fun
  | [d1, d2] => { results := [.lit (.bool false)], args := [d1, d2] }
  | _ => none }
def FnRoutesWrongFalsely : Prop := fnRoutesRow.holds Try.pinned (OpenSpec.ofChange fnRoutesWrong)

/- THE SECOND FORM. 'bulk': how many values and letters a reading holds, each counted each time it is reached (what is shared counts as often as it is met; a slice's spare places count too). A statement '..UptoSaid' is the law's where the arguments, and the package variables that the reading takes, are together of bulk at most 1048576: NARROWER than '..Said'. Prove '..Said' where nothing that the law and all that it calls make is longer than what came in: it says more and counts as full. Else prove '..UptoSaid'. A law counts once. -/
mutual
def uptoBulk {H : Type} : DataW H → Nat
  | .lit (.string bytes) => bytes.length + 1
  | .lit _ => 1
  | .nil => 1
  | .ptr d => uptoBulk d + 1
  | .slice elems spare => uptoBulkAll elems + uptoBulkAll spare + 1
  | .agg parts => uptoBulkAll parts + 1
  | .iface _ d => uptoBulk d + 1
  | .map entries => uptoBulkEntries entries + 1
  | .held _ => 1
def uptoBulkAll {H : Type} : List (DataW H) → Nat
  | [] => 0
  | d :: r => uptoBulk d + uptoBulkAll r
def uptoBulkEntries {H : Type} : List (Lit × DataW H) → Nat
  | [] => 0
  | x :: r => uptoBulkEntry x + uptoBulkEntries r
def uptoBulkEntry {H : Type} : Lit × DataW H → Nat
  | (.string bytes, d) => bytes.length + uptoBulk d + 1
  | (_, d) => uptoBulk d + 1
 end
def uptoSmall : (H : Type) → List (DataW H) → Bool := fun _ ds => decide (uptoBulkAll ds ≤ 1048576)
def OpenSpec.upto (s : _root_.Go.ChangeSpec) : _root_.Go.OpenSpec := { _root_.Go.OpenSpec.ofChange s with cond := some uptoSmall }

/-- 'laws.FnExactValidNet', WHERE WHAT IT READS IS OF BULK AT MOST 1048576: true; the input reads as it did. -/
def fnExactValidNetUptoRow : OpenClaim := { program := "ytpmeccjfjjklkaa", sum := "110cdd118c8c5f304079543732554bf01ed39db830cb79dde2ff89d2c3815d67", func := "loop.example/g01341/laws.FnExactValidNet", spec := "fnExactValidNet", unfollowed := true, recurses := true, apart := false, narrowed := true }
def FnExactValidNetUptoSaid : Prop := fnExactValidNetUptoRow.holds Try.pinned (OpenSpec.upto fnExactValidNetSpec)

/-- 'laws.FnExactPlainNet', WHERE WHAT IT READS IS OF BULK AT MOST 1048576: true; the input reads as it did. -/
def fnExactPlainNetUptoRow : OpenClaim := { program := "ytpmeccjfjjklkaa", sum := "110cdd118c8c5f304079543732554bf01ed39db830cb79dde2ff89d2c3815d67", func := "loop.example/g01341/laws.FnExactPlainNet", spec := "fnExactPlainNet", unfollowed := true, recurses := true, apart := false, narrowed := true }
def FnExactPlainNetUptoSaid : Prop := fnExactPlainNetUptoRow.holds Try.pinned (OpenSpec.upto fnExactPlainNetSpec)

/-- 'laws.FnExactRouteLongs', WHERE WHAT IT READS IS OF BULK AT MOST 1048576: true; the input reads as it did. -/
def fnExactRouteLongsUptoRow : OpenClaim := { program := "ytpmeccjfjjklkaa", sum := "110cdd118c8c5f304079543732554bf01ed39db830cb79dde2ff89d2c3815d67", func := "loop.example/g01341/laws.FnExactRouteLongs", spec := "fnExactRouteLongs", unfollowed := true, recurses := true, apart := false, narrowed := true }
def FnExactRouteLongsUptoSaid : Prop := fnExactRouteLongsUptoRow.holds Try.pinned (OpenSpec.upto fnExactRouteLongsSpec)

/-- 'laws.FnExactReachOf', WHERE WHAT IT READS IS OF BULK AT MOST 1048576: true; the input reads as it did. -/
def fnExactReachOfUptoRow : OpenClaim := { program := "ytpmeccjfjjklkaa", sum := "110cdd118c8c5f304079543732554bf01ed39db830cb79dde2ff89d2c3815d67", func := "loop.example/g01341/laws.FnExactReachOf", spec := "fnExactReachOf", unfollowed := true, recurses := true, apart := false, narrowed := true }
def FnExactReachOfUptoSaid : Prop := fnExactReachOfUptoRow.holds Try.pinned (OpenSpec.upto fnExactReachOfSpec)

/-- 'laws.FnExactRoutesShared', WHERE WHAT IT READS IS OF BULK AT MOST 1048576: true; the input reads as it did. -/
def fnExactRoutesSharedUptoRow : OpenClaim := { program := "ytpmeccjfjjklkaa", sum := "110cdd118c8c5f304079543732554bf01ed39db830cb79dde2ff89d2c3815d67", func := "loop.example/g01341/laws.FnExactRoutesShared", spec := "fnExactRoutesShared", unfollowed := true, recurses := true, apart := false, narrowed := true }
def FnExactRoutesSharedUptoSaid : Prop := fnExactRoutesSharedUptoRow.holds Try.pinned (OpenSpec.upto fnExactRoutesSharedSpec)

/-- 'laws.FnExactRoutePath', WHERE WHAT IT READS IS OF BULK AT MOST 1048576: true; the input reads as it did. -/
def fnExactRoutePathUptoRow : OpenClaim := { program := "ytpmeccjfjjklkaa", sum := "110cdd118c8c5f304079543732554bf01ed39db830cb79dde2ff89d2c3815d67", func := "loop.example/g01341/laws.FnExactRoutePath", spec := "fnExactRoutePath", unfollowed := true, recurses := true, apart := false, narrowed := true }
def FnExactRoutePathUptoSaid : Prop := fnExactRoutePathUptoRow.holds Try.pinned (OpenSpec.upto fnExactRoutePathSpec)

/-- 'laws.FnRoutes', WHERE WHAT IT READS IS OF BULK AT MOST 1048576: true; the input reads as it did. -/
def fnRoutesUptoRow : OpenClaim := { program := "ytpmeccjfjjklkaa", sum := "110cdd118c8c5f304079543732554bf01ed39db830cb79dde2ff89d2c3815d67", func := "loop.example/g01341/laws.FnRoutes", spec := "fnRoutes", unfollowed := true, recurses := true, apart := false, narrowed := true }
def FnRoutesUptoSaid : Prop := fnRoutesUptoRow.holds Try.pinned (OpenSpec.upto fnRoutesSpec)

end Rows
end Go.Proofs.Ytpmeccjfjjklkaa
