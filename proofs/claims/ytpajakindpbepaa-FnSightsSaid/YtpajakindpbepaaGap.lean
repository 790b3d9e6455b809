/- Drops: how they grow. No condition. -/
import Derived.Test.YtpajakindpbepaaSFl
namespace Go.Proofs.Ytpajakindpbepaa
open Go.RowKit Go.IntWalk
set_option linter.unusedSimpArgs false
theorem max00 (w : World) : (Builtin.max_ #[62, 62] 62 #[.float .f64 0, .float .f64 0]).run Try.prog w = .ok (.float .f64 0) w := by
  have h : FloatKind.f64.format.order 0 0 = some .eq := by decide +kernel
  simp [Builtin.max_, Builtin.max2, h]
set_option maxHeartbeats 1000000 in
theorem r8Gap_c (x y X Y : Nat) (hx : cn .f64 x = X) (hy : cn .f64 y = Y) (h1 : fop .sub .f64 X Y = 0) (h2 : fop .sub .f64 Y X = 0) (w : World) : Calls Try.prog 42 #[.float .f64 x, .float .f64 y] w (Ret (RV (.float .f64 0)) w) := by
  have hmx := max00
  have h0 : nanB .f64 0 = false := by decide +kernel
  go_enter Try.func42, Try.ntmps42
  go_wp2_with (refine wpL_farith rfl _ _ _ _ _ rfl rfl _ _ _ rfl rfl ?_; intro r n hr hw; rw [hx, hy] at hr; (first | rw [h1] at hr | rw [h2] at hr); obtain rfl := raw_of h0 hr; clear hr)
  go_ret
  exact ⟨⟨_, rfl, rfl⟩, by (with_reducible repeat (first | exact Below.refl _ _ | apply below_alloc | apply below_dN | apply below_d | refine below_setCell ?_ (by dsimp only; omega) | refine below_call (by assumption) ?_))⟩
end Go.Proofs.Ytpajakindpbepaa
