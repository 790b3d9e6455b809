/-
  DERIVED. GIVEN WITH THE SEED: THE CARDS: each row of YteecbhmgogndaaaDoorRows.lean that lists a variable, with what it lists TIED to the program's text (the seventh form; the later family's looks); each row that meets fmt, with fmt's text TOLD by the authors' own Lean function (tested against real Go, not proved from fmt's source: count such statements apart). THE CARD IS WHAT COUNTS. Prove the row's statement (the work); the ties are given (YteecbhmgogndaaaDoorTie.lean); close each card by the builder's one call (the guide's Derived/Test/ToyasCard.lean, 'card_holds'). Laid BY PROGRAM, IN A SANDBOX (cutbox-door.mjs). By AI agents, Wed Nov 11 2026. No macro, syntax, notation, axiom, sorry.
-/
import Derived.Test.YteecbhmgogndaaaDoorRows
import GoSem.ClaimSeven
namespace Go.Proofs.YteecbhmgogndaaaDoor
namespace Rows

/-- THE TIED CARD OF 'laws.FnExactIsKey'. -/
def fnExactIsKeyCard : Claim7 := { stood := { row := fnExactIsKeyRow, standIns := [], harness := (true, "9c5c794e5529f2c8b215396bf58e6b485e1d3f5383c478f333a4a6d389d2c643"), looks := false }, kinds := [], alts := [], laidByText := true, laidKinds := [.data, .pinned], laidTests := true, laidLooks := .later }
def FnExactIsKeyCardSaid : Prop := Claim7.holds Tryd.pinned (.plain (OpenSpec.ofChange fnExactIsKeySpec)) fnExactIsKeyCard

/-- THE TIED CARD OF 'laws.FnExactKeyParent'. -/
def fnExactKeyParentCard : Claim7 := { stood := { row := fnExactKeyParentRow, standIns := [], harness := (true, "9c5c794e5529f2c8b215396bf58e6b485e1d3f5383c478f333a4a6d389d2c643"), looks := false }, kinds := [], alts := [], laidByText := true, laidKinds := [.data, .pinned], laidTests := true, laidLooks := .later }
def FnExactKeyParentCardSaid : Prop := Claim7.holds Tryd.pinned (.plain (OpenSpec.ofChange fnExactKeyParentSpec)) fnExactKeyParentCard

/-- THE TIED CARD OF 'laws.FnExactKeyTile'. -/
def fnExactKeyTileCard : Claim7 := { stood := { row := fnExactKeyTileRow, standIns := [], harness := (true, "9c5c794e5529f2c8b215396bf58e6b485e1d3f5383c478f333a4a6d389d2c643"), looks := false }, kinds := [], alts := [], laidByText := true, laidKinds := [.data, .pinned], laidTests := true, laidLooks := .later }
def FnExactKeyTileCardSaid : Prop := Claim7.holds Tryd.pinned (.plain (OpenSpec.ofChange fnExactKeyTileSpec)) fnExactKeyTileCard

/-- THE TIED CARD OF 'laws.FnExactKeyBeside'. -/
def fnExactKeyBesideCard : Claim7 := { stood := { row := fnExactKeyBesideRow, standIns := [], harness := (true, "9c5c794e5529f2c8b215396bf58e6b485e1d3f5383c478f333a4a6d389d2c643"), looks := false }, kinds := [], alts := [], laidByText := true, laidKinds := [.data, .pinned], laidTests := true, laidLooks := .later }
def FnExactKeyBesideCardSaid : Prop := Claim7.holds Tryd.pinned (.plain (OpenSpec.ofChange fnExactKeyBesideSpec)) fnExactKeyBesideCard

/-- THE TIED CARD OF 'laws.FnExactKeyBox'. -/
def fnExactKeyBoxCard : Claim7 := { stood := { row := fnExactKeyBoxRow, standIns := [], harness := (true, "9c5c794e5529f2c8b215396bf58e6b485e1d3f5383c478f333a4a6d389d2c643"), looks := false }, kinds := [], alts := [], laidByText := true, laidKinds := [.data, .pinned], laidTests := true, laidLooks := .later }
def FnExactKeyBoxCardSaid : Prop := Claim7.holds Tryd.pinned (.plain (OpenSpec.ofChange fnExactKeyBoxSpec)) fnExactKeyBoxCard

/-- THE TIED CARD OF 'laws.FnExactGatherKeys'. -/
def fnExactGatherKeysCard : Claim7 := { stood := { row := fnExactGatherKeysRow, standIns := [], harness := (true, "9c5c794e5529f2c8b215396bf58e6b485e1d3f5383c478f333a4a6d389d2c643"), looks := false }, kinds := [], alts := [], laidByText := true, laidKinds := [.data, .pinned], laidTests := true, laidLooks := .later }
def FnExactGatherKeysCardSaid : Prop := Claim7.holds Tryd.pinned (.plain (OpenSpec.ofChange fnExactGatherKeysSpec)) fnExactGatherKeysCard

/-- THE SECOND FORM's CARD OF 'laws.FnExactIsKey'. -/
def fnExactIsKeyUptoCard : Claim7 := { stood := { row := fnExactIsKeyUptoRow, standIns := [], harness := (true, "9c5c794e5529f2c8b215396bf58e6b485e1d3f5383c478f333a4a6d389d2c643"), looks := false }, kinds := [], alts := [], laidByText := true, laidKinds := [.data, .pinned], laidTests := true, laidLooks := .later }
def FnExactIsKeyUptoCardSaid : Prop := Claim7.holds Tryd.pinned (.plain (OpenSpec.upto fnExactIsKeySpec)) fnExactIsKeyUptoCard

/-- THE SECOND FORM's CARD OF 'laws.FnExactKeyParent'. -/
def fnExactKeyParentUptoCard : Claim7 := { stood := { row := fnExactKeyParentUptoRow, standIns := [], harness := (true, "9c5c794e5529f2c8b215396bf58e6b485e1d3f5383c478f333a4a6d389d2c643"), looks := false }, kinds := [], alts := [], laidByText := true, laidKinds := [.data, .pinned], laidTests := true, laidLooks := .later }
def FnExactKeyParentUptoCardSaid : Prop := Claim7.holds Tryd.pinned (.plain (OpenSpec.upto fnExactKeyParentSpec)) fnExactKeyParentUptoCard

/-- THE SECOND FORM's CARD OF 'laws.FnExactKeyTile'. -/
def fnExactKeyTileUptoCard : Claim7 := { stood := { row := fnExactKeyTileUptoRow, standIns := [], harness := (true, "9c5c794e5529f2c8b215396bf58e6b485e1d3f5383c478f333a4a6d389d2c643"), looks := false }, kinds := [], alts := [], laidByText := true, laidKinds := [.data, .pinned], laidTests := true, laidLooks := .later }
def FnExactKeyTileUptoCardSaid : Prop := Claim7.holds Tryd.pinned (.plain (OpenSpec.upto fnExactKeyTileSpec)) fnExactKeyTileUptoCard

/-- THE SECOND FORM's CARD OF 'laws.FnExactKeyBeside'. -/
def fnExactKeyBesideUptoCard : Claim7 := { stood := { row := fnExactKeyBesideUptoRow, standIns := [], harness := (true, "9c5c794e5529f2c8b215396bf58e6b485e1d3f5383c478f333a4a6d389d2c643"), looks := false }, kinds := [], alts := [], laidByText := true, laidKinds := [.data, .pinned], laidTests := true, laidLooks := .later }
def FnExactKeyBesideUptoCardSaid : Prop := Claim7.holds Tryd.pinned (.plain (OpenSpec.upto fnExactKeyBesideSpec)) fnExactKeyBesideUptoCard

/-- THE SECOND FORM's CARD OF 'laws.FnExactKeyBox'. -/
def fnExactKeyBoxUptoCard : Claim7 := { stood := { row := fnExactKeyBoxUptoRow, standIns := [], harness := (true, "9c5c794e5529f2c8b215396bf58e6b485e1d3f5383c478f333a4a6d389d2c643"), looks := false }, kinds := [], alts := [], laidByText := true, laidKinds := [.data, .pinned], laidTests := true, laidLooks := .later }
def FnExactKeyBoxUptoCardSaid : Prop := Claim7.holds Tryd.pinned (.plain (OpenSpec.upto fnExactKeyBoxSpec)) fnExactKeyBoxUptoCard

/-- THE SECOND FORM's CARD OF 'laws.FnExactGatherKeys'. -/
def fnExactGatherKeysUptoCard : Claim7 := { stood := { row := fnExactGatherKeysUptoRow, standIns := [], harness := (true, "9c5c794e5529f2c8b215396bf58e6b485e1d3f5383c478f333a4a6d389d2c643"), looks := false }, kinds := [], alts := [], laidByText := true, laidKinds := [.data, .pinned], laidTests := true, laidLooks := .later }
def FnExactGatherKeysUptoCardSaid : Prop := Claim7.holds Tryd.pinned (.plain (OpenSpec.upto fnExactGatherKeysSpec)) fnExactGatherKeysUptoCard
end Rows
end Go.Proofs.YteecbhmgogndaaaDoor
