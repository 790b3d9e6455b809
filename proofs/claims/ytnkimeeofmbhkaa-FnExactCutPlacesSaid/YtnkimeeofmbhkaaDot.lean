/- Contracts of products of ways, and of numbers that are finite. No condition. -/
import Derived.Test.YtnkimeeofmbhkaaWay
namespace Go.Proofs.Ytnkimeeofmbhkaa
open Go.RowKit
set_option linter.unusedSimpArgs false

def mulF (x y : Nat) : Nat := fop .mul .f32 x y
def Dot (x y z x' y' z' : Nat) : Nat := fop .add .f32 (fop .add .f32 (fop .mul .f32 x x') (fop .mul .f32 y y')) (fop .mul .f32 z z')
def Cr (y z y' z' : Nat) : Nat := fop .sub .f32 (fop .mul .f32 y z') (fop .mul .f32 z y')

-- left out here: loop.example/g01341/impl.dotOf

-- left out here: loop.example/g01341/spec.l02Dot

-- left out here: loop.example/g01341/impl.cross

-- left out here: loop.example/g01341/spec.l02Cross

def numRes (ok : Bool) (X : Nat) : Value → Prop := RP (RF .f32 (gd (ok && fin .f32 X) X)) (RV (.bool (ok && fin .f32 X)))

-- left out here: loop.example/g01341/impl.finite

-- left out here: loop.example/g01341/spec.l02Number