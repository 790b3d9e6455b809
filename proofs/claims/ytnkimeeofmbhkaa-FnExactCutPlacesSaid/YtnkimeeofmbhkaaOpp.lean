/- Contracts of wrapping an east, and the law of OppositeOf. No condition. -/
import Derived.Test.YtnkimeeofmbhkaaFlo
namespace Go.Proofs.Ytnkimeeofmbhkaa
open Go.RowKit
set_option linter.unusedSimpArgs false

def FloorT (x : Nat) : Nat := fint .down (fcv .f32 .f64 x)
def WrapY (x : Nat) : Nat := fop .sub .f32 x (fcv .f64 .f32 (FloorT (fop .add .f32 x 1056964608)))
/-- An east that is brought back. -/
def Wrap (x : Nat) : Nat := if fge .f32 (WrapY x) 1056964608 then 3204448256 else WrapY x

theorem isf32_8 : isf .f32 8 := isf_of 1090519040 (by decide +kernel)
theorem isf32_n8 : isf .f32 (-8) := isf_of 3238002688 (by decide +kernel)
/-- The floor of a small number. -/
theorem floor_small {x : Nat} (h : inn .f32 x (-8) 8) : inn .f64 (FloorT x) (-16) 16 ∧ ∃ n : Int, fv .f64 (FloorT x) = n ∧ (n : Rat) ≤ fv .f32 x ∧ fv .f32 x < (n : Rat) + 1 := by
  obtain ⟨w1, w2⟩ := wide_num h.1
  have a := h.2.1
  have b := h.2.2
  obtain ⟨f1, n, f2, f3, f4⟩ := floor_val w1 (by rw [w2]; grind) (by rw [w2]; grind)
  rw [w2] at f3 f4
  refine ⟨⟨f1, ?_, ?_⟩, n, f2, f3, f4⟩ <;> unfold FloorT <;> rw [f2] <;> grind
theorem floor_fits {x : Nat} (h : inn .f32 x (-8) 8) : fits .f64 .f32 (FloorT x) :=
  (floor_small h).1.fits (E := 4) (by decide) (by decide) (by decide +kernel) (by decide +kernel)
theorem half_inn {x : Nat} (h : inn .f32 x (-4) 4) : inn .f32 (fop .add .f32 x 1056964608) (-8) 8 := by
  have a := h.2.1
  have b := h.2.2
  exact (add_rd h.1 num32_h).inn isf32_n8 isf32_8 (by rw [v32_h]; grind) (by rw [v32_h]; grind)

set_option maxHeartbeats 400000 in
theorem iFloor_c (x X : Nat) (hx : cn .f32 x = X) (hf : fits .f64 .f32 (FloorT X)) (w : World) : Calls Try.prog 77 #[.float .f32 x] w (Ret (RF .f32 (fcv .f64 .f32 (FloorT X))) w) := by
  have HF := Lib.hid hf
  clear hf
  unfold FloorT at HF ⊢
  subst hx
  go_enter Try.func77, Try.ntmps77
  go_wp2_with (first | (go_at_call 73; ((with_reducible refine (floor_c _ _ (by assumption) _).mono ?_); rintro e w1 ⟨⟨v, rfl, r, rfl, hr, hw⟩, hb⟩)) | (refine wpL_fconv_fits rfl 22 98 _ rfl .f32 .f64 _ rfl (by decide) Try.underlying22 Try.underlying98 (fits_wide _) ?_; intro r n hr hw) | (refine wpL_fconv_fits rfl 98 22 _ rfl .f64 .f32 _ rfl (by decide) Try.underlying98 Try.underlying22 (by rw [hr]; exact HF.out) ?_; intro r n hr hw))
  go_ret
  exact ⟨⟨_, rfl, _, rfl, by simp only [*], okf_of (by assumption)⟩, by (with_reducible repeat (first | exact Below.refl _ _ | apply below_alloc | apply below_dN | apply below_d | refine below_setCell ?_ (by dsimp only; omega) | refine below_call (by assumption) ?_))⟩

set_option maxHeartbeats 400000 in
theorem iWrap_c (x X : Nat) (hx : cn .f32 x = X) (h : inn .f32 X (-4) 4) (w : World) : Calls Try.prog 44 #[.float .f32 x] w (Ret (RF .f32 (Wrap X)) w) := by
  have hf := floor_fits (half_inn h)
  have HF := Lib.hid hf
  clear hf h
  obtain ⟨Y, hY⟩ : ∃ Y, WrapY X = Y := ⟨_, rfl⟩
  unfold Wrap
  rw [hY]
  unfold WrapY at hY
  subst hx
  cases c : fge .f32 Y 1056964608 <;>
  (go_enter Try.func44, Try.ntmps44
   go_wp2_with (first | (go_at_call 77; ((with_reducible refine (iFloor_c _ _ (by assumption) (by simpa using HF.out) _).mono ?_); rintro e w1 ⟨⟨v, rfl, r, rfl, hr, hw⟩, hb⟩)) | (refine wpL_farith rfl _ _ _ _ _ rfl rfl _ _ _ rfl rfl ?_; intro r n hr hw))
   go_ret
   exact ⟨⟨_, rfl, _, rfl, by simp [*], by first | exact okf_of (by assumption) | exact okf_of (by decide)⟩, by (with_reducible repeat (first | exact Below.refl _ _ | apply below_alloc | apply below_dN | apply below_d | refine below_setCell ?_ (by dsimp only; omega) | refine below_call (by assumption) ?_))⟩)

set_option maxHeartbeats 400000 in
theorem sWrap_c (x X : Nat) (hx : cn .f32 x = X) (h : inn .f32 X (-4) 4) (w : World) : Calls Try.prog 39 #[.float .f32 x] w (Ret (RF .f32 (Wrap X)) w) := by
  have hf := floor_fits (half_inn h)
  have HF := Lib.hid hf
  clear hf h
  obtain ⟨Y, hY⟩ : ∃ Y, WrapY X = Y := ⟨_, rfl⟩
  unfold Wrap
  rw [hY]
  unfold WrapY at hY
  unfold FloorT at hY HF
  subst hx
  cases c : fge .f32 Y 1056964608 <;>
  (go_enter Try.func39, Try.ntmps39
   go_wp2_with (first | (go_at_call 73; ((with_reducible refine (floor_c _ _ (by assumption) _).mono ?_); rintro e w1 ⟨⟨v, rfl, r, rfl, hr, hw⟩, hb⟩)) | (refine wpL_fconv_fits rfl 22 98 _ rfl .f32 .f64 _ rfl (by decide) Try.underlying22 Try.underlying98 (fits_wide _) ?_; intro r n hr hw) | (refine wpL_farith rfl _ _ _ _ _ rfl rfl _ _ _ rfl rfl ?_; intro r n hr hw) | (refine wpL_fconv_fits rfl 98 22 _ rfl .f64 .f32 _ rfl (by decide) Try.underlying98 Try.underlying22 (by rw [hr]; simpa [*] using HF.out) ?_; intro r n hr hw))
   go_ret
   exact ⟨⟨_, rfl, _, rfl, by simp [*], by first | exact okf_of (by assumption) | exact okf_of (by decide)⟩, by (with_reducible repeat (first | exact Below.refl _ _ | apply below_alloc | apply below_dN | apply below_d | refine below_setCell ?_ (by dsimp only; omega) | refine below_call (by assumption) ?_))⟩)
end Go.Proofs.Ytnkimeeofmbhkaa
