/- Contracts of the laws' comparison of floats, places and ways that are the same. No condition. -/
import Derived.Test.YtnkimeeofmbhkaaSinS
namespace Go.Proofs.Ytnkimeeofmbhkaa
open Go.RowKit
set_option linter.unusedSimpArgs false

theorem feq_self (k : FloatKind) (x : Nat) : feq k x x = !nanB k x := by
  unfold feq nanB Ieee.Format.order
  cases e : k.format.read x with
  | nan s f => rfl
  | infinity s => cases s <;> rfl
  | number s m p => simp [Ieee.Datum.order, Ieee.Datum.isNaN]


set_option maxHeartbeats 400000 in
theorem sameFloat_c (a b A : Nat) (ha : cn .f64 a = A) (hb : cn .f64 b = A) (w : World) : Calls Try.prog 67 #[.float .f64 a, .float .f64 b] w (Ret (RV (.bool true)) w) := by
  have hs := feq_self .f64 A
  cases c1 : nanB .f64 A <;> cases c2 : feq .f64 A 0 <;> cases c3 : fgt .f64 (fop .quo .f64 4607182418800017408 A) 0 <;> rw [c1] at hs <;>
  (go_enter Try.func67, Try.ntmps67
   go_wp2_with (first | (refine wpL_farith rfl _ _ _ _ _ rfl rfl _ _ _ rfl rfl ?_; intro r n hr hw))
   go_ret
   exact ⟨⟨_, rfl, rfl⟩, by (with_reducible repeat (first | exact Below.refl _ _ | apply below_alloc | apply below_dN | apply below_d | refine below_setCell ?_ (by dsimp only; omega) | refine below_call (by assumption) ?_))⟩)

set_option maxHeartbeats 400000 in
theorem eqPlace_c (x y x' y' X Y : Nat) (hx : cn .f32 x = X) (hy : cn .f32 y = Y) (hx' : cn .f32 x' = X) (hy' : cn .f32 y' = Y) (w : World) : Calls Try.prog 30 #[.agg #[.float .f32 x, .float .f32 y], .agg #[.float .f32 x', .float .f32 y']] w (Ret (RV (.bool true)) w) := by
  subst hx hy
  go_enter Try.func30, Try.ntmps30
  go_wp2_with (first | (go_at_call 67; ((with_reducible refine (sameFloat_c _ _ _ (by assumption) (by simp only [*]) _).mono ?_); rintro e w1 ⟨⟨v, rfl, rfl⟩, hb⟩); obtain ⟨hc, hfz⟩ := bcell hb; (try simp only [World.heap_drewN] at hc hfz); have hz : w.heap.size + 2 ≤ w1.heap.size := (by (have hz_ := hb.size; (try simp at hz_); omega)); have hz0 : w.heap.size < w1.heap.size := (by omega); have hz1 : w.heap.size + 1 < w1.heap.size := (by omega)) | (refine wpL_fconv_fits rfl 22 98 _ rfl .f32 .f64 _ rfl (by decide) Try.underlying22 Try.underlying98 (fits_wide _) ?_; intro r n hr hw))
  go_ret
  exact ⟨⟨_, rfl, rfl⟩, by (with_reducible repeat (first | exact Below.refl _ _ | apply below_alloc | apply below_dN | apply below_d | refine below_setCell ?_ (by dsimp only; omega) | refine below_call (by assumption) ?_))⟩

-- left out here: loop.example/g01341/laws.eqWay