/- Contracts of the way to a place. No condition. -/
import Derived.Test.YtnkimeeofmbhkaaPl
namespace Go.Proofs.Ytnkimeeofmbhkaa
open Go.RowKit
set_option linter.unusedSimpArgs false

def WayX (x y : Nat) : Nat := fop .mul .f32 (Cos x) (Cos y)
def WayY (x y : Nat) : Nat := fop .mul .f32 (Cos x) (SinT y)
/-- The way to a place. -/
def RWay (x y z : Nat) (v : Value) : Prop := ∃ a b c, v = .agg #[.float .f32 a, .float .f32 b, .float .f32 c] ∧ (cn .f32 a = x ∧ cn .f32 b = y ∧ cn .f32 c = z) ∧ okf .f32 a ∧ okf .f32 b ∧ okf .f32 c

-- left out here: loop.example/g01341/impl.cosine

-- left out here: loop.example/g01341/spec.l02Way

-- left out here: loop.example/g01341/impl.isWay

-- left out here: loop.example/g01341/impl.finiteWay