/- Contracts of products of ways, and of numbers that are finite. No condition. -/
import Derived.Test.YtiaebemlcjjjhaaWay
namespace Go.Proofs.Ytiaebemlcjjjhaa
open Go.RowKit
set_option linter.unusedSimpArgs false

def mulF (x y : Nat) : Nat := fop .mul .f32 x y
def Dot (x y z x' y' z' : Nat) : Nat := fop .add .f32 (fop .add .f32 (fop .mul .f32 x x') (fop .mul .f32 y y')) (fop .mul .f32 z z')
def Cr (y z y' z' : Nat) : Nat := fop .sub .f32 (fop .mul .f32 y z') (fop .mul .f32 z y')

set_option maxHeartbeats 400000 in
theorem iDot_c (x y z x' y' z' X Y Z X' Y' Z' : Nat) (hx : cn .f32 x = X) (hy : cn .f32 y = Y) (hz : cn .f32 z = Z) (hx' : cn .f32 x' = X') (hy' : cn .f32 y' = Y') (hz' : cn .f32 z' = Z') (w : World) : Calls Try.prog 69 #[.agg #[.float .f32 x, .float .f32 y, .float .f32 z], .agg #[.float .f32 x', .float .f32 y', .float .f32 z']] w (Ret (RF .f32 (Dot X Y Z X' Y' Z')) w) := by
  subst hx hy hz hx' hy' hz'
  go_enter Try.func69, Try.ntmps69
  go_wp2_with (first | (refine wpL_farith rfl _ _ _ _ _ rfl rfl _ _ _ rfl rfl ?_; intro r n hr hw))
  go_ret
  exact ⟨⟨_, rfl, _, rfl, by simp only [Dot, *], okf_of (by assumption)⟩, by (with_reducible repeat (first | exact Below.refl _ _ | apply below_alloc | apply below_dN | apply below_d | refine below_setCell ?_ (by dsimp only; omega) | refine below_call (by assumption) ?_))⟩

set_option maxHeartbeats 400000 in
theorem sDot_c (x y z x' y' z' X Y Z X' Y' Z' : Nat) (hx : cn .f32 x = X) (hy : cn .f32 y = Y) (hz : cn .f32 z = Z) (hx' : cn .f32 x' = X') (hy' : cn .f32 y' = Y') (hz' : cn .f32 z' = Z') (w : World) : Calls Try.prog 97 #[.agg #[.float .f32 x, .float .f32 y, .float .f32 z], .agg #[.float .f32 x', .float .f32 y', .float .f32 z']] w (Ret (RF .f32 (Dot X Y Z X' Y' Z')) w) := by
  subst hx hy hz hx' hy' hz'
  go_enter Try.func97, Try.ntmps97
  go_wp2_with (first | (refine wpL_farith rfl _ _ _ _ _ rfl rfl _ _ _ rfl rfl ?_; intro r n hr hw))
  go_ret
  exact ⟨⟨_, rfl, _, rfl, by simp only [Dot, *], okf_of (by assumption)⟩, by (with_reducible repeat (first | exact Below.refl _ _ | apply below_alloc | apply below_dN | apply below_d | refine below_setCell ?_ (by dsimp only; omega) | refine below_call (by assumption) ?_))⟩

set_option maxHeartbeats 1000000 in
theorem iCross_c (x y z x' y' z' X Y Z X' Y' Z' : Nat) (hx : cn .f32 x = X) (hy : cn .f32 y = Y) (hz : cn .f32 z = Z) (hx' : cn .f32 x' = X') (hy' : cn .f32 y' = Y') (hz' : cn .f32 z' = Z') (w : World) : Calls Try.prog 70 #[.agg #[.float .f32 x, .float .f32 y, .float .f32 z], .agg #[.float .f32 x', .float .f32 y', .float .f32 z']] w (Ret (RWay (Cr Y Z Y' Z') (Cr Z X Z' X') (Cr X Y X' Y')) w) := by
  subst hx hy hz hx' hy' hz'
  go_enter Try.func70, Try.ntmps70
  go_wp2_with (first | (refine wpL_farith rfl _ _ _ _ _ rfl rfl _ _ _ rfl rfl ?_; intro r n hr hw))
  refine bodyPost_ret (v := .agg #[.float .f32 _, .float .f32 _, .float .f32 _]) (by simp [results, Try.results70, go_sem, *] <;> (first | rfl | exact ⟨rfl, rfl⟩ | exact ⟨rfl, rfl, rfl⟩ | exact ⟨rfl, rfl, rfl, rfl⟩)) rfl ?_
  exact ⟨⟨_, rfl, _, _, _, rfl, ⟨by simp only [Cr, *], by simp only [Cr, *], by simp only [Cr, *]⟩, okf_of (by assumption), okf_of (by assumption), okf_of (by assumption)⟩, by (with_reducible repeat (first | exact Below.refl _ _ | apply below_alloc | apply below_dN | apply below_d | refine below_setCell ?_ (by dsimp only; omega) | refine below_call (by assumption) ?_))⟩

set_option maxHeartbeats 1000000 in
theorem sCross_c (x y z x' y' z' X Y Z X' Y' Z' : Nat) (hx : cn .f32 x = X) (hy : cn .f32 y = Y) (hz : cn .f32 z = Z) (hx' : cn .f32 x' = X') (hy' : cn .f32 y' = Y') (hz' : cn .f32 z' = Z') (w : World) : Calls Try.prog 79 #[.agg #[.float .f32 x, .float .f32 y, .float .f32 z], .agg #[.float .f32 x', .float .f32 y', .float .f32 z']] w (Ret (RWay (Cr Y Z Y' Z') (Cr Z X Z' X') (Cr X Y X' Y')) w) := by
  subst hx hy hz hx' hy' hz'
  go_enter Try.func79, Try.ntmps79
  go_wp2_with (first | (refine wpL_farith rfl _ _ _ _ _ rfl rfl _ _ _ rfl rfl ?_; intro r n hr hw))
  refine bodyPost_ret (v := .agg #[.float .f32 _, .float .f32 _, .float .f32 _]) (by simp [results, Try.results79, go_sem, *] <;> (first | rfl | exact ⟨rfl, rfl⟩ | exact ⟨rfl, rfl, rfl⟩ | exact ⟨rfl, rfl, rfl, rfl⟩)) rfl ?_
  exact ⟨⟨_, rfl, _, _, _, rfl, ⟨by simp only [Cr, *], by simp only [Cr, *], by simp only [Cr, *]⟩, okf_of (by assumption), okf_of (by assumption), okf_of (by assumption)⟩, by (with_reducible repeat (first | exact Below.refl _ _ | apply below_alloc | apply below_dN | apply below_d | refine below_setCell ?_ (by dsimp only; omega) | refine below_call (by assumption) ?_))⟩

def numRes (ok : Bool) (X : Nat) : Value → Prop := RP (RF .f32 (gd (ok && fin .f32 X) X)) (RV (.bool (ok && fin .f32 X)))

set_option maxHeartbeats 400000 in
theorem finite_c (x X : Nat) (ok : Bool) (hx : cn .f32 x = X) (hw : okf .f32 x) (w : World) : Calls Try.prog 68 #[.float .f32 x, .bool ok] w (Ret (numRes ok X) w) := by
  unfold numRes
  cases ok
  · go_enter Try.func68, Try.ntmps68
    go_wp2
    refine bodyPost_ret (v := .tuple #[.float .f32 0, .bool false]) (by simp [results, Try.results68, go_sem, *] <;> (first | rfl | exact ⟨rfl, rfl⟩ | exact ⟨rfl, rfl, rfl⟩ | exact ⟨rfl, rfl, rfl, rfl⟩)) rfl ?_
    exact ⟨⟨_, rfl, _, _, rfl, ⟨0, rfl, by simp [gd], okf_of (by decide)⟩, rfl⟩, by (with_reducible repeat (first | exact Below.refl _ _ | apply below_alloc | apply below_dN | apply below_d | refine below_setCell ?_ (by dsimp only; omega) | refine below_call (by assumption) ?_))⟩
  · cases hf : fin .f32 X
    · go_enter Try.func68, Try.ntmps68
      go_wp2_with (first | (go_at_call 98; ((with_reducible refine (iFinite_c _ _ hx _).mono ?_); rintro e w1 ⟨⟨v, rfl, rfl⟩, hb⟩)))
      refine bodyPost_ret (v := .tuple #[.float .f32 0, .bool false]) (by simp [results, Try.results68, go_sem, *] <;> (first | rfl | exact ⟨rfl, rfl⟩ | exact ⟨rfl, rfl, rfl⟩ | exact ⟨rfl, rfl, rfl, rfl⟩)) rfl ?_
      exact ⟨⟨_, rfl, _, _, rfl, ⟨0, rfl, by simp [gd], okf_of (by decide)⟩, rfl⟩, by (with_reducible repeat (first | exact Below.refl _ _ | apply below_alloc | apply below_dN | apply below_d | refine below_setCell ?_ (by dsimp only; omega) | refine below_call (by assumption) ?_))⟩
    · go_enter Try.func68, Try.ntmps68
      go_wp2_with (first | (go_at_call 98; ((with_reducible refine (iFinite_c _ _ hx _).mono ?_); rintro e w1 ⟨⟨v, rfl, rfl⟩, hb⟩)))
      refine bodyPost_ret (v := .tuple #[.float .f32 x, .bool true]) (by simp [results, Try.results68, go_sem, *] <;> (first | rfl | exact ⟨rfl, rfl⟩ | exact ⟨rfl, rfl, rfl⟩ | exact ⟨rfl, rfl, rfl, rfl⟩)) rfl ?_
      exact ⟨⟨_, rfl, _, _, rfl, ⟨x, rfl, by simpa [gd] using hx, hw⟩, rfl⟩, by (with_reducible repeat (first | exact Below.refl _ _ | apply below_alloc | apply below_dN | apply below_d | refine below_setCell ?_ (by dsimp only; omega) | refine below_call (by assumption) ?_))⟩

set_option maxHeartbeats 400000 in
theorem number_c (x X : Nat) (hx : cn .f32 x = X) (hw : okf .f32 x) (w : World) : Calls Try.prog 66 #[.float .f32 x] w (Ret (numRes true X) w) := by
  unfold numRes
  cases hf : fin .f32 X
  · go_enter Try.func66, Try.ntmps66
    go_wp2_with (first | (go_at_call 96; ((with_reducible refine (sFinite_c _ _ hx _).mono ?_); rintro e w1 ⟨⟨v, rfl, rfl⟩, hb⟩)))
    refine bodyPost_ret (v := .tuple #[.float .f32 0, .bool false]) (by simp [results, Try.results66, go_sem, *] <;> (first | rfl | exact ⟨rfl, rfl⟩ | exact ⟨rfl, rfl, rfl⟩ | exact ⟨rfl, rfl, rfl, rfl⟩)) rfl ?_
    exact ⟨⟨_, rfl, _, _, rfl, ⟨0, rfl, by simp [gd], okf_of (by decide)⟩, rfl⟩, by (with_reducible repeat (first | exact Below.refl _ _ | apply below_alloc | apply below_dN | apply below_d | refine below_setCell ?_ (by dsimp only; omega) | refine below_call (by assumption) ?_))⟩
  · go_enter Try.func66, Try.ntmps66
    go_wp2_with (first | (go_at_call 96; ((with_reducible refine (sFinite_c _ _ hx _).mono ?_); rintro e w1 ⟨⟨v, rfl, rfl⟩, hb⟩)))
    refine bodyPost_ret (v := .tuple #[.float .f32 x, .bool true]) (by simp [results, Try.results66, go_sem, *] <;> (first | rfl | exact ⟨rfl, rfl⟩ | exact ⟨rfl, rfl, rfl⟩ | exact ⟨rfl, rfl, rfl, rfl⟩)) rfl ?_
    exact ⟨⟨_, rfl, _, _, rfl, ⟨x, rfl, by simpa [gd] using hx, hw⟩, rfl⟩, by (with_reducible repeat (first | exact Below.refl _ _ | apply below_alloc | apply below_dN | apply below_d | refine below_setCell ?_ (by dsimp only; omega) | refine below_call (by assumption) ?_))⟩
end Go.Proofs.Ytiaebemlcjjjhaa
