/- Legs between marks at quarters, in plain words: each leg's numbers, by calculation. No condition. -/
import Derived.Test.YtnkfbinppikhkaaAngN
import Derived.Test.YtnkfbinppikhkaaWCx
namespace Go.Proofs.Ytnkfbinppikhkaa
open Go.RowKit Ieee
set_option linter.unusedSimpArgs false
/-- Quarters. -/
def qz (z : Int) : Nat := fop .quo .f32 (fofI .f32 z) 1082130432
def Posi (x : Nat) : Nat := if flt .f32 x 0 then fop .add .f32 x 1065353216 else x
/-- The quarter of a turn that a fraction lies in, and what is left. -/
def Qua : Nat → Nat → Nat → Nat × Nat
  | 0, f, q => (f, q)
  | n + 1, f, q => if fge .f64 f 4598175219545276416 then Qua n (fop .sub .f64 f 4598175219545276416) (q + 1) else (f, q)
def phC (f q : Nat) : Nat := match q with
  | 1 => fop .sub .f64 0 (SineF (Frac f))
  | 2 => fop .sub .f64 0 (SineF (Frac (fop .sub .f64 4598175219545276416 f)))
  | 3 => SineF (Frac f)
  | _ => SineF (Frac (fop .sub .f64 4598175219545276416 f))
def phS (f q : Nat) : Nat := match q with
  | 1 => SineF (Frac (fop .sub .f64 4598175219545276416 f))
  | 2 => fop .sub .f64 0 (SineF (Frac f))
  | 3 => fop .sub .f64 0 (SineF (Frac (fop .sub .f64 4598175219545276416 f)))
  | _ => SineF (Frac f)
/-- A phasor's parts in 64 bits. -/
def PhC (t : Nat) : Nat := let p := Qua 3 (Frac t) 0; phC p.1 p.2
def PhS (t : Nat) : Nat := let p := Qua 3 (Frac t) 0; phS p.1 p.2
def fitsB (k k' : FloatKind) (x : Nat) : Bool := match k.format.read x with
  | .number s m p => !(k'.format.read (k'.format.write (.number s m p))).isInfinity
  | _ => true
theorem fits_ofB {k k' : FloatKind} {x : Nat} (h : fitsB k k' x = true) : fits k k' x := fun s m p e => by
  unfold fitsB at h
  rw [e] at h
  simpa using h
/-- What a phasor needs to be known of its turns. -/
def phB (t : Nat) : Bool := fin .f64 t && !fge .f64 (fabs t) 4841369599423283200 && !fge .f64 (Qua 3 (Frac t) 0).1 4598175219545276416 && fitsB .f64 .f32 (PhC t) && fitsB .f64 .f32 (PhS t)
/-- A leg: its turn, its length, the turns of its way, its step. -/
def lgT (x y : Nat) : Nat := Posi (fop .sub .f32 1048576000 (AngF y x))
def lgW (t : Nat) : Nat := fcv .f32 .f64 (fop .sub .f32 1048576000 t)
def stX (t l : Nat) : Nat := fop .mul .f32 (fcv .f64 .f32 (PhC (lgW t))) l
def stY (t l : Nat) : Nat := fop .mul .f32 (fcv .f64 .f32 (PhS (lgW t))) l
def eps : Nat := 939524096
def lgB (dx dy : Int) : Bool :=
  let x := qz dx; let y := qz dy; let t := lgT x y; let l := lng x y; let p := stX t l; let q := stY t l
  fitsB .f64 .f32 (fsq (pww x y)) && fin .f32 t && fin .f32 l && !flt .f32 t 0 && !fgt .f32 t 1065353216 && fge .f32 l 1040187392 && fle .f32 l 1090519040 &&
  phB (lgW t) && fin .f32 p && fin .f32 q && fle .f32 (fop .sub .f32 x eps) p && fle .f32 p (fop .add .f32 x eps) && fle .f32 (fop .sub .f32 y eps) q && fle .f32 q (fop .add .f32 y eps)
end Go.Proofs.Ytnkfbinppikhkaa
