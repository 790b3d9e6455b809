/- Contracts of the way to a place. No condition. -/
import Derived.Test.YtnkfbinppikhkaaPl
namespace Go.Proofs.Ytnkfbinppikhkaa
open Go.RowKit
set_option linter.unusedSimpArgs false

def WayX (x y : Nat) : Nat := fop .mul .f32 (Cos x) (Cos y)
def WayY (x y : Nat) : Nat := fop .mul .f32 (Cos x) (SinT y)
/-- The way to a place. -/
def RWay (x y z : Nat) (v : Value) : Prop := ∃ a b c, v = .agg #[.float .f32 a, .float .f32 b, .float .f32 c] ∧ (cn .f32 a = x ∧ cn .f32 b = y ∧ cn .f32 c = z) ∧ okf .f32 a ∧ okf .f32 b ∧ okf .f32 c

-- left out here: iWay_c
-- left out here: l02Way_c
-- left out here: isWay_c
-- left out here: finiteWay_c
end Go.Proofs.Ytnkfbinppikhkaa