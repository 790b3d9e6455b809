/- Contracts of products of ways, and of numbers that are finite. No condition. -/
import Derived.Test.YtnkfbinppikhkaaWay
namespace Go.Proofs.Ytnkfbinppikhkaa
open Go.RowKit
set_option linter.unusedSimpArgs false

def mulF (x y : Nat) : Nat := fop .mul .f32 x y
def Dot (x y z x' y' z' : Nat) : Nat := fop .add .f32 (fop .add .f32 (fop .mul .f32 x x') (fop .mul .f32 y y')) (fop .mul .f32 z z')
def Cr (y z y' z' : Nat) : Nat := fop .sub .f32 (fop .mul .f32 y z') (fop .mul .f32 z y')

-- left out here: iDot_c
-- left out here: sDot_c
-- left out here: iCross_c
-- left out here: sCross_c
def numRes (ok : Bool) (X : Nat) : Value → Prop := RP (RF .f32 (gd (ok && fin .f32 X) X)) (RV (.bool (ok && fin .f32 X)))

-- left out here: finite_c
-- left out here: number_c
end Go.Proofs.Ytnkfbinppikhkaa
