/- Contracts of how great a number is, in both spellings. No condition. -/
import Derived.Test.YtnkimeeofmbhkaaCutN
import Derived.Test.YtnkimeeofmbhkaaCut
namespace Go.Proofs.Ytnkimeeofmbhkaa
open Go.RowKit
set_option linter.unusedSimpArgs false
set_option maxHeartbeats 400000 in
theorem absolute_c (x X : Nat) (hx : cn .f32 x = X) (h : inn .f32 X (-128) 128) (w : World) : Calls Try.prog 45 #[.float .f32 x] w (Ret (RF .f32 (szI X)) w) := by
  have HF := Lib.hid (szI_fits h)
  clear h
  unfold szI
  subst hx
  go_enter Try.func45, Try.ntmps45
  go_wp2_with (first | (go_at_call 78; ((with_reducible refine (abs_c _ _ (by assumption) _).mono ?_); rintro e w1 ⟨⟨v, rfl, r, rfl, hr, hw⟩, hb⟩)) | (refine wpL_fconv_fits rfl 22 98 _ rfl .f32 .f64 _ rfl (by decide) Try.underlying22 Try.underlying98 (fits_wide _) ?_; intro r n hr hw) | (refine wpL_fconv_fits rfl 98 22 _ rfl .f64 .f32 _ rfl (by decide) Try.underlying98 Try.underlying22 (by rw [hr]; exact HF.out) ?_; intro r n hr hw))
  go_ret
  exact ⟨⟨_, rfl, _, rfl, by simp only [*], okf_of (by assumption)⟩, by (with_reducible repeat (first | exact Below.refl _ _ | apply below_alloc | apply below_dN | apply below_d | refine below_setCell ?_ (by dsimp only; omega) | refine below_call (by assumption) ?_))⟩
set_option maxHeartbeats 400000 in
theorem l02Size_c (x X : Nat) (hx : cn .f32 x = X) (ho : okf .f32 x) (w : World) : Calls Try.prog 40 #[.float .f32 x] w (Ret (RF .f32 (szS X)) w) := by
  unfold szS
  have h0 : cn .f32 0 = 0 := by decide +kernel
  subst hx
  cases c : fle .f32 (cn .f32 x) 0
  · rw [if_neg (by decide)]
    go_enter Try.func40, Try.ntmps40
    go_wp2_with (refine wpL_farith rfl _ _ _ _ _ rfl rfl _ _ _ rfl rfl ?_; intro r n hr hw)
    go_ret
    exact ⟨⟨_, rfl, _, rfl, rfl, ho⟩, by (with_reducible repeat (first | exact Below.refl _ _ | apply below_alloc | apply below_dN | apply below_d | refine below_setCell ?_ (by dsimp only; omega) | refine below_call (by assumption) ?_))⟩
  · rw [if_pos rfl]
    go_enter Try.func40, Try.ntmps40
    go_wp2_with (refine wpL_farith rfl _ _ _ _ _ rfl rfl _ _ _ rfl rfl ?_; intro r n hr hw)
    go_ret
    exact ⟨⟨_, rfl, _, rfl, by simp only [*], okf_of (by assumption)⟩, by (with_reducible repeat (first | exact Below.refl _ _ | apply below_alloc | apply below_dN | apply below_d | refine below_setCell ?_ (by dsimp only; omega) | refine below_call (by assumption) ?_))⟩
end Go.Proofs.Ytnkimeeofmbhkaa
