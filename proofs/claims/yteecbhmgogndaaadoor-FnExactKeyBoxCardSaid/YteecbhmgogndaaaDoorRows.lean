/-
  NARROWER THAN 'FOR EVERY INPUT', by the rows' own cells (each row's printed sentence says how): FnExactIsKey: laid · FnExactKeyParent: laid · FnExactKeyTile: laid · FnExactKeyBeside: laid · FnExactKeyBox: laid · FnExactGatherKeys: laid.
  DERIVED. THE GIVEN ROWS OF THIS SEAT. 6 by the template 'for every input the law returns true; each argument reads behind the call as it read before'; 0 by the template 'total and deterministic' (their statements: YteecbhmgogndaaaDoorTotals.lean).
  GIVEN WITH THE SEED: the statements are not yours to turn. If you find one false, say at which input.
  Laid BY PROGRAM, IN A SANDBOX (cutbox-rows.mjs): the forced cells as the released guide's own fill.sh prints them over the translation 792caafa3578a7bf… (all of the seat's roots in one cut). By AI agents, Wed Nov 11 2026. No macro, syntax, notation, axiom, sorry.
-/
import Derived.Test.YteecbhmgogndaaaDoorChecked
import GoSem.PinnedTables
import GoSem.Claim
import GoSem.ClaimJoined
import GoSem.ClaimMapViews
import Derived.JoinedTies
import Derived.KernelRfl
namespace Go.Proofs.YteecbhmgogndaaaDoor
/- THE CELL 'sum', in the pinned program and in every row, IS THE sha256 OF THE DUMP (.gsa) THAT YteecbhmgogndaaaDoorProg.lean LOADS. Nothing in Lean hashes anything: it is a label: what it is worth is what the hold of that sum in a sandbox is worth. -/
noncomputable def Tryd.pinned : Pinned := { name := "yteecbhmgogndaaadoor", sum := "792caafa3578a7bfff17197556742d4aaa4a9fded908b4ab593df08ed379d8b2", checked := Tryd.checked }
namespace Rows
def none {H : Type} : Left H := { results := [], args := [] }

/- WHAT THE LISTED PACKAGE-LEVEL VARIABLES READ AS WHEN THE CALL BEGINS. Each datum BY PROGRAM (the guide's laid-datum.mjs) off the statement by which the dump's own 'gosem.cut.vars' lays the variable. In a bare row this is a premise. The card (YteecbhmgogndaaaDoorCards.lean) ties it to the program's text. -/
def laid_unicode_utf8_acceptRanges {H : Type} : DataW H := .agg [.agg [.lit (.int .u8 128), .lit (.int .u8 191)], .agg [.lit (.int .u8 160), .lit (.int .u8 191)], .agg [.lit (.int .u8 128), .lit (.int .u8 159)], .agg [.lit (.int .u8 144), .lit (.int .u8 191)], .agg [.lit (.int .u8 128), .lit (.int .u8 143)], .agg [.lit (.int .u8 0), .lit (.int .u8 0)], .agg [.lit (.int .u8 0), .lit (.int .u8 0)], .agg [.lit (.int .u8 0), .lit (.int .u8 0)], .agg [.lit (.int .u8 0), .lit (.int .u8 0)], .agg [.lit (.int .u8 0), .lit (.int .u8 0)], .agg [.lit (.int .u8 0), .lit (.int .u8 0)], .agg [.lit (.int .u8 0), .lit (.int .u8 0)], .agg [.lit (.int .u8 0), .lit (.int .u8 0)], .agg [.lit (.int .u8 0), .lit (.int .u8 0)], .agg [.lit (.int .u8 0), .lit (.int .u8 0)], .agg [.lit (.int .u8 0), .lit (.int .u8 0)]]
/-- One of Go's own tables, pinned by name: the form's constant. -/
def laid_unicode_utf8_first : DataW Unit := Go.Pinned.utf8First

/-- 'laws.FnExactIsKey': WHATEVER THE INPUT: true; the input reads as it did. -/
def fnExactIsKeySpec : ChangeSpec := { name := "fnExactIsKey", fn := fun _ => fun
  | [d] => { results := [.lit (.bool true)], args := [d] }
  | _ => none }
def fnExactIsKeyRow : OpenClaim := { program := "yteecbhmgogndaaadoor", sum := "792caafa3578a7bfff17197556742d4aaa4a9fded908b4ab593df08ed379d8b2", func := "loop.example/g01341/laws.FnExactIsKey", spec := "fnExactIsKey", inPlace := ["internal/bytealg.IndexByteString", "internal/bytealg.IndexString"], named := ["unicode/utf8.first", "unicode/utf8.acceptRanges", "internal/bytealg.MaxLen"], apart := false, laid := [("unicode/utf8.acceptRanges", laid_unicode_utf8_acceptRanges), ("unicode/utf8.first", laid_unicode_utf8_first)] }
def FnExactIsKeySaid : Prop := fnExactIsKeyRow.holds Tryd.pinned (OpenSpec.ofChange fnExactIsKeySpec)

/-- ITS FALSE NEIGHBOUR: 'it returns false'. Refute it at one input. -/
def fnExactIsKeyWrong : ChangeSpec := { name := "fnExactIsKey", fn := fun _ => fun
  | [d] => { results := [.lit (.bool false)], args := [d] }
  | _ => none }
def FnExactIsKeyWrongFalsely : Prop := fnExactIsKeyRow.holds Tryd.pinned (OpenSpec.ofChange fnExactIsKeyWrong)

/-- 'laws.FnExactKeyParent': WHATEVER THE INPUT: true; the input reads as it did. -/
def fnExactKeyParentSpec : ChangeSpec := { name := "fnExactKeyParent", fn := fun _ => fun
  | [d] => { results := [.lit (.bool true)], args := [d] }
  | _ => none }
def fnExactKeyParentRow : OpenClaim := { program := "yteecbhmgogndaaadoor", sum := "792caafa3578a7bfff17197556742d4aaa4a9fded908b4ab593df08ed379d8b2", func := "loop.example/g01341/laws.FnExactKeyParent", spec := "fnExactKeyParent", inPlace := ["internal/bytealg.IndexByteString", "internal/bytealg.IndexString"], named := ["unicode/utf8.first", "unicode/utf8.acceptRanges", "internal/bytealg.MaxLen"], apart := false, laid := [("unicode/utf8.acceptRanges", laid_unicode_utf8_acceptRanges), ("unicode/utf8.first", laid_unicode_utf8_first)] }
def FnExactKeyParentSaid : Prop := fnExactKeyParentRow.holds Tryd.pinned (OpenSpec.ofChange fnExactKeyParentSpec)

/-- ITS FALSE NEIGHBOUR: 'it returns false'. Refute it at one input. -/
def fnExactKeyParentWrong : ChangeSpec := { name := "fnExactKeyParent", fn := fun _ => fun
  | [d] => { results := [.lit (.bool false)], args := [d] }
  | _ => none }
def FnExactKeyParentWrongFalsely : Prop := fnExactKeyParentRow.holds Tryd.pinned (OpenSpec.ofChange fnExactKeyParentWrong)

/-- 'laws.FnExactKeyTile': WHATEVER THE INPUT: true; the input reads as it did. -/
def fnExactKeyTileSpec : ChangeSpec := { name := "fnExactKeyTile", fn := fun _ => fun
  | [d] => { results := [.lit (.bool true)], args := [d] }
  | _ => none }
def fnExactKeyTileRow : OpenClaim := { program := "yteecbhmgogndaaadoor", sum := "792caafa3578a7bfff17197556742d4aaa4a9fded908b4ab593df08ed379d8b2", func := "loop.example/g01341/laws.FnExactKeyTile", spec := "fnExactKeyTile", inPlace := ["internal/bytealg.IndexByteString", "internal/bytealg.IndexString"], named := ["unicode/utf8.first", "unicode/utf8.acceptRanges", "internal/bytealg.MaxLen"], apart := false, laid := [("unicode/utf8.acceptRanges", laid_unicode_utf8_acceptRanges), ("unicode/utf8.first", laid_unicode_utf8_first)] }
def FnExactKeyTileSaid : Prop := fnExactKeyTileRow.holds Tryd.pinned (OpenSpec.ofChange fnExactKeyTileSpec)

/-- ITS FALSE NEIGHBOUR: 'it returns false'. Refute it at one input. -/
def fnExactKeyTileWrong : ChangeSpec := { name := "fnExactKeyTile", fn := fun _ => fun
  | [d] => { results := [.lit (.bool false)], args := [d] }
  | _ => none }
def FnExactKeyTileWrongFalsely : Prop := fnExactKeyTileRow.holds Tryd.pinned (OpenSpec.ofChange fnExactKeyTileWrong)

/-- 'laws.FnExactKeyBeside': WHATEVER THE INPUT: true; the input reads as it did. -/
def fnExactKeyBesideSpec : ChangeSpec := { name := "fnExactKeyBeside", fn := fun _ => fun
  | [d1, d2, d3] => { results := [.lit (.bool true)], args := [d1, d2, d3] }
  | _ => none }
def fnExactKeyBesideRow : OpenClaim := { program := "yteecbhmgogndaaadoor", sum := "792caafa3578a7bfff17197556742d4aaa4a9fded908b4ab593df08ed379d8b2", func := "loop.example/g01341/laws.FnExactKeyBeside", spec := "fnExactKeyBeside", inPlace := ["internal/bytealg.IndexByteString", "internal/bytealg.IndexString"], named := ["unicode/utf8.first", "unicode/utf8.acceptRanges", "internal/bytealg.MaxLen"], apart := false, laid := [("unicode/utf8.acceptRanges", laid_unicode_utf8_acceptRanges), ("unicode/utf8.first", laid_unicode_utf8_first)] }
def FnExactKeyBesideSaid : Prop := fnExactKeyBesideRow.holds Tryd.pinned (OpenSpec.ofChange fnExactKeyBesideSpec)

/-- ITS FALSE NEIGHBOUR: 'it returns false'. Refute it at one input. -/
def fnExactKeyBesideWrong : ChangeSpec := { name := "fnExactKeyBeside", fn := fun _ => fun
  | [d1, d2, d3] => { results := [.lit (.bool false)], args := [d1, d2, d3] }
  | _ => none }
def FnExactKeyBesideWrongFalsely : Prop := fnExactKeyBesideRow.holds Tryd.pinned (OpenSpec.ofChange fnExactKeyBesideWrong)

/-- 'laws.FnExactKeyBox': WHATEVER THE INPUT: true; the input reads as it did. -/
def fnExactKeyBoxSpec : ChangeSpec := { name := "fnExactKeyBox", fn := fun _ => fun
  | [d] => { results := [.lit (.bool true)], args := [d] }
  | _ => none }
def fnExactKeyBoxRow : OpenClaim := { program := "yteecbhmgogndaaadoor", sum := "792caafa3578a7bfff17197556742d4aaa4a9fded908b4ab593df08ed379d8b2", func := "loop.example/g01341/laws.FnExactKeyBox", spec := "fnExactKeyBox", inPlace := ["internal/bytealg.IndexByteString", "internal/bytealg.IndexString"], unfollowed := true, recurses := true, named := ["unicode/utf8.first", "unicode/utf8.acceptRanges", "internal/bytealg.MaxLen"], apart := false, laid := [("unicode/utf8.acceptRanges", laid_unicode_utf8_acceptRanges), ("unicode/utf8.first", laid_unicode_utf8_first)] }
def FnExactKeyBoxSaid : Prop := fnExactKeyBoxRow.holds Tryd.pinned (OpenSpec.ofChange fnExactKeyBoxSpec)

/-- ITS FALSE NEIGHBOUR: 'it returns false'. Refute it at one input. -/
def fnExactKeyBoxWrong : ChangeSpec := { name := "fnExactKeyBox", fn := fun _ => fun
  | [d] => { results := [.lit (.bool false)], args := [d] }
  | _ => none }
def FnExactKeyBoxWrongFalsely : Prop := fnExactKeyBoxRow.holds Tryd.pinned (OpenSpec.ofChange fnExactKeyBoxWrong)

/-- 'laws.FnExactGatherKeys': WHATEVER THE INPUT: true; the input reads as it did. -/
def fnExactGatherKeysSpec : ChangeSpec := { name := "fnExactGatherKeys", fn := fun _ => fun
  | [d] => { results := [.lit (.bool true)], args := [d] }
  | _ => none }
def fnExactGatherKeysRow : OpenClaim := { program := "yteecbhmgogndaaadoor", sum := "792caafa3578a7bfff17197556742d4aaa4a9fded908b4ab593df08ed379d8b2", func := "loop.example/g01341/laws.FnExactGatherKeys", spec := "fnExactGatherKeys", inPlace := ["internal/bytealg.IndexByteString", "internal/bytealg.IndexString", "slices.overlaps[string]"], unfollowed := true, recurses := true, named := ["unicode/utf8.first", "unicode/utf8.acceptRanges", "internal/bytealg.MaxLen"], apart := false, laid := [("unicode/utf8.acceptRanges", laid_unicode_utf8_acceptRanges), ("unicode/utf8.first", laid_unicode_utf8_first)] }
def FnExactGatherKeysSaid : Prop := fnExactGatherKeysRow.holds Tryd.pinned (OpenSpec.ofChange fnExactGatherKeysSpec)

/-- ITS FALSE NEIGHBOUR: 'it returns false'. Refute it at one input. -/
def fnExactGatherKeysWrong : ChangeSpec := { name := "fnExactGatherKeys", fn := fun _ => fun
  | [d] => { results := [.lit (.bool false)], args := [d] }
  | _ => none }
def FnExactGatherKeysWrongFalsely : Prop := fnExactGatherKeysRow.holds Tryd.pinned (OpenSpec.ofChange fnExactGatherKeysWrong)

/- THE SECOND FORM. 'bulk': how many values and letters a reading holds, each counted each time it is reached (what is shared counts as often as it is met; a slice's spare places count too). A statement '..UptoSaid' is the law's where the arguments, and the package variables that the reading takes, are together of bulk at most 1048576: NARROWER than '..Said'. Prove '..Said' where nothing that the law and all that it calls make is longer than what came in: it says more and counts as full. Else prove '..UptoSaid'. A law counts once. -/
mutual
def uptoBulk {H : Type} : DataW H → Nat
  | .lit (.string bytes) => bytes.length + 1
  | .lit _ => 1
  | .nil => 1
  | .ptr d => uptoBulk d + 1
  | .slice elems spare => uptoBulkAll elems + uptoBulkAll spare + 1
  | .agg parts => uptoBulkAll parts + 1
  | .iface _ d => uptoBulk d + 1
  | .map entries => uptoBulkEntries entries + 1
  | .held _ => 1
def uptoBulkAll {H : Type} : List (DataW H) → Nat
  | [] => 0
  | d :: r => uptoBulk d + uptoBulkAll r
def uptoBulkEntries {H : Type} : List (Lit × DataW H) → Nat
  | [] => 0
  | x :: r => uptoBulkEntry x + uptoBulkEntries r
def uptoBulkEntry {H : Type} : Lit × DataW H → Nat
  | (.string bytes, d) => bytes.length + uptoBulk d + 1
  | (_, d) => uptoBulk d + 1
 end
def uptoSmall : (H : Type) → List (DataW H) → Bool := fun _ ds => decide (uptoBulkAll ds ≤ 1048576)
def OpenSpec.upto (s : _root_.Go.ChangeSpec) : _root_.Go.OpenSpec := { _root_.Go.OpenSpec.ofChange s with cond := some uptoSmall }

/-- 'laws.FnExactIsKey', WHERE WHAT IT READS IS OF BULK AT MOST 1048576: true; the input reads as it did. -/
def fnExactIsKeyUptoRow : OpenClaim := { program := "yteecbhmgogndaaadoor", sum := "792caafa3578a7bfff17197556742d4aaa4a9fded908b4ab593df08ed379d8b2", func := "loop.example/g01341/laws.FnExactIsKey", spec := "fnExactIsKey", inPlace := ["internal/bytealg.IndexByteString", "internal/bytealg.IndexString"], named := ["unicode/utf8.first", "unicode/utf8.acceptRanges", "internal/bytealg.MaxLen"], apart := false, laid := [("unicode/utf8.acceptRanges", laid_unicode_utf8_acceptRanges), ("unicode/utf8.first", laid_unicode_utf8_first)], narrowed := true }
def FnExactIsKeyUptoSaid : Prop := fnExactIsKeyUptoRow.holds Tryd.pinned (OpenSpec.upto fnExactIsKeySpec)

/-- 'laws.FnExactKeyParent', WHERE WHAT IT READS IS OF BULK AT MOST 1048576: true; the input reads as it did. -/
def fnExactKeyParentUptoRow : OpenClaim := { program := "yteecbhmgogndaaadoor", sum := "792caafa3578a7bfff17197556742d4aaa4a9fded908b4ab593df08ed379d8b2", func := "loop.example/g01341/laws.FnExactKeyParent", spec := "fnExactKeyParent", inPlace := ["internal/bytealg.IndexByteString", "internal/bytealg.IndexString"], named := ["unicode/utf8.first", "unicode/utf8.acceptRanges", "internal/bytealg.MaxLen"], apart := false, laid := [("unicode/utf8.acceptRanges", laid_unicode_utf8_acceptRanges), ("unicode/utf8.first", laid_unicode_utf8_first)], narrowed := true }
def FnExactKeyParentUptoSaid : Prop := fnExactKeyParentUptoRow.holds Tryd.pinned (OpenSpec.upto fnExactKeyParentSpec)

/-- 'laws.FnExactKeyTile', WHERE WHAT IT READS IS OF BULK AT MOST 1048576: true; the input reads as it did. -/
def fnExactKeyTileUptoRow : OpenClaim := { program := "yteecbhmgogndaaadoor", sum := "792caafa3578a7bfff17197556742d4aaa4a9fded908b4ab593df08ed379d8b2", func := "loop.example/g01341/laws.FnExactKeyTile", spec := "fnExactKeyTile", inPlace := ["internal/bytealg.IndexByteString", "internal/bytealg.IndexString"], named := ["unicode/utf8.first", "unicode/utf8.acceptRanges", "internal/bytealg.MaxLen"], apart := false, laid := [("unicode/utf8.acceptRanges", laid_unicode_utf8_acceptRanges), ("unicode/utf8.first", laid_unicode_utf8_first)], narrowed := true }
def FnExactKeyTileUptoSaid : Prop := fnExactKeyTileUptoRow.holds Tryd.pinned (OpenSpec.upto fnExactKeyTileSpec)

/-- 'laws.FnExactKeyBeside', WHERE WHAT IT READS IS OF BULK AT MOST 1048576: true; the input reads as it did. -/
def fnExactKeyBesideUptoRow : OpenClaim := { program := "yteecbhmgogndaaadoor", sum := "792caafa3578a7bfff17197556742d4aaa4a9fded908b4ab593df08ed379d8b2", func := "loop.example/g01341/laws.FnExactKeyBeside", spec := "fnExactKeyBeside", inPlace := ["internal/bytealg.IndexByteString", "internal/bytealg.IndexString"], named := ["unicode/utf8.first", "unicode/utf8.acceptRanges", "internal/bytealg.MaxLen"], apart := false, laid := [("unicode/utf8.acceptRanges", laid_unicode_utf8_acceptRanges), ("unicode/utf8.first", laid_unicode_utf8_first)], narrowed := true }
def FnExactKeyBesideUptoSaid : Prop := fnExactKeyBesideUptoRow.holds Tryd.pinned (OpenSpec.upto fnExactKeyBesideSpec)

/-- 'laws.FnExactKeyBox', WHERE WHAT IT READS IS OF BULK AT MOST 1048576: true; the input reads as it did. -/
def fnExactKeyBoxUptoRow : OpenClaim := { program := "yteecbhmgogndaaadoor", sum := "792caafa3578a7bfff17197556742d4aaa4a9fded908b4ab593df08ed379d8b2", func := "loop.example/g01341/laws.FnExactKeyBox", spec := "fnExactKeyBox", inPlace := ["internal/bytealg.IndexByteString", "internal/bytealg.IndexString"], unfollowed := true, recurses := true, named := ["unicode/utf8.first", "unicode/utf8.acceptRanges", "internal/bytealg.MaxLen"], apart := false, laid := [("unicode/utf8.acceptRanges", laid_unicode_utf8_acceptRanges), ("unicode/utf8.first", laid_unicode_utf8_first)], narrowed := true }
def FnExactKeyBoxUptoSaid : Prop := fnExactKeyBoxUptoRow.holds Tryd.pinned (OpenSpec.upto fnExactKeyBoxSpec)

/-- 'laws.FnExactGatherKeys', WHERE WHAT IT READS IS OF BULK AT MOST 1048576: true; the input reads as it did. -/
def fnExactGatherKeysUptoRow : OpenClaim := { program := "yteecbhmgogndaaadoor", sum := "792caafa3578a7bfff17197556742d4aaa4a9fded908b4ab593df08ed379d8b2", func := "loop.example/g01341/laws.FnExactGatherKeys", spec := "fnExactGatherKeys", inPlace := ["internal/bytealg.IndexByteString", "internal/bytealg.IndexString", "slices.overlaps[string]"], unfollowed := true, recurses := true, named := ["unicode/utf8.first", "unicode/utf8.acceptRanges", "internal/bytealg.MaxLen"], apart := false, laid := [("unicode/utf8.acceptRanges", laid_unicode_utf8_acceptRanges), ("unicode/utf8.first", laid_unicode_utf8_first)], narrowed := true }
def FnExactGatherKeysUptoSaid : Prop := fnExactGatherKeysUptoRow.holds Tryd.pinned (OpenSpec.upto fnExactGatherKeysSpec)

end Rows
end Go.Proofs.YteecbhmgogndaaaDoor
