/- The laws of lists of places: whether they are places. No condition. -/
import Derived.Test.YtnkimeeofmbhkaaPls
import Derived.Deep.DeepCutAuto
namespace Go.Proofs.Ytnkimeeofmbhkaa
open Go.RowKit
set_option linter.unusedSimpArgs false

def canon (x : Nat → Nat) (j : Nat) : Nat := cn .f32 (x j)
theorem PlBlk.canon {w : World} {b n : Nat} {x y : Nat → Nat} (h : PlBlk w b n x y) : PlCells w b n (canon x) (canon y) := h.cells (fun _ _ => rfl) (fun _ _ => rfl)
theorem PlBlk.below {w w' : World} {B b n : Nat} {x y : Nat → Nat} (h : PlBlk w b n x y) (hb : Below B w w') (hlt : b < B) : PlBlk w' b n x y := rowIs_below h hb hlt
theorem PlArg.below {w w' : World} {A : Option Addr} {n : Nat} {x y : Nat → Nat} (h : PlArg w A n x y) (hb : Below w.heap.size w w') : PlArg w' A n x y := fun j hj => by
  obtain ⟨a, e, h0, h1, h2⟩ := h j hj
  exact ⟨a, e, Nat.lt_of_lt_of_le h0 hb.size, by rw [hb.cell (p := a.add (j * 2)) (by rw [block_add]; exact h0)]; exact h1, by rw [hb.cell (p := a.add (j * 2 + 1)) (by rw [block_add]; exact h0)]; exact h2⟩

-- left out here: loop.example/g01341/spec.ArePlaces

-- left out here: loop.example/g01341/laws.FnExactArePlaces