/- Contracts of the reference's sine and cosine. No condition. -/
import Derived.Test.YtnkfbinppikhkaaSinC
namespace Go.Proofs.Ytnkfbinppikhkaa
open Go.RowKit
set_option linter.unusedSimpArgs false

theorem run_toint {P : Program} (src dst : TypeId) (s : FloatKind) (k : IntKind) (b : Nat) (n : Int) (w : World) (hs : (P.underlying src).isSome = true) (hd : P.underlying dst = some (.int k)) (h : (s.decode b).toInt .zero = some n) (h1 : k.min ≤ n) (h2 : n ≤ k.max) :
    (convert src dst (.float s b)).run P w = .ok (.int k n) w := by
  obtain ⟨u, hs'⟩ := Option.isSome_iff_exists.1 hs
  cases u <;> simp [convert, run_underlying hs', run_underlying hd, Conv.floatToInt, h, h1, h2]
theorem raw_of {k : FloatKind} {r Y : Nat} (hn : nanB k Y = false) (h : cn k r = Y) : r = Y := by
  cases hb : nanB k r
  · rw [cn_of hb] at h; exact h
  · rw [cn_nan hb] at h; rw [← h, nanB_qn] at hn; cases hn

theorem num64_nb : num .f64 14064741636278059008 := num_of _ (by decide +kernel)
theorem v64_nb : fv .f64 14064741636278059008 = -4503599627370496 := by decide +kernel
theorem far_iff {Y : Nat} (hn : num .f64 Y) : fge .f64 (fabs Y) 4841369599423283200 = (fge .f64 Y 4841369599423283200 || fle .f64 Y 14064741636278059008) := by
  obtain ⟨n, e⟩ := abs_val hn
  rw [fge_val n num64_b, fge_val hn num64_b, fle_val hn num64_nb, v64_b, v64_nb, e]
  rw [Bool.eq_iff_iff]
  simp
  split <;> grind


-- left out here: sSineNan_c
-- left out here: sSineFar_c
-- left out here: sSineNear_c
-- left out here: sSineWide_c
set_option maxHeartbeats 400000 in
theorem sNarrow_c (x X : Nat) (hx : cn .f64 x = X) (hf : fits .f64 .f32 X) (w : World) : Calls Try.prog 43 #[.float .f64 x] w (Ret (RF .f32 (fcv .f64 .f32 X)) w) := by
  go_enter Try.func43, Try.ntmps43
  go_wp2_with (first | (refine wpL_fconv_fits rfl 35 36 _ rfl .f64 .f32 _ rfl (by decide) Try.underlying35 Try.underlying36 (by rw [hx]; exact hf) ?_; intro r n hr hw))
  go_ret
  exact ⟨⟨_, rfl, _, rfl, by rw [hr, hx], okf_of (by assumption)⟩, by (with_reducible repeat (first | exact Below.refl _ _ | apply below_alloc | apply below_dN | apply below_d | refine below_setCell ?_ (by dsimp only; omega) | refine below_call (by assumption) ?_))⟩

-- left out here: sSine_c
-- left out here: iCos_c
-- left out here: sCos_c
end Go.Proofs.Ytnkfbinppikhkaa
