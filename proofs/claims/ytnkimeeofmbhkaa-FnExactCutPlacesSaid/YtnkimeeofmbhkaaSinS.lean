/- Contracts of the reference's sine and cosine. No condition. -/
import Derived.Test.YtnkimeeofmbhkaaSinC
namespace Go.Proofs.Ytnkimeeofmbhkaa
open Go.RowKit
set_option linter.unusedSimpArgs false

theorem run_toint {P : Program} (src dst : TypeId) (s : FloatKind) (k : IntKind) (b : Nat) (n : Int) (w : World) (hs : (P.underlying src).isSome = true) (hd : P.underlying dst = some (.int k)) (h : (s.decode b).toInt .zero = some n) (h1 : k.min ≤ n) (h2 : n ≤ k.max) :
    (convert src dst (.float s b)).run P w = .ok (.int k n) w := by
  obtain ⟨u, hs'⟩ := Option.isSome_iff_exists.1 hs
  cases u <;> simp [convert, run_underlying hs', run_underlying hd, Conv.floatToInt, h, h1, h2]
theorem raw_of {k : FloatKind} {r Y : Nat} (hn : nanB k Y = false) (h : cn k r = Y) : r = Y := by
  cases hb : nanB k r
  · rw [cn_of hb] at h; exact h
  · rw [cn_nan hb] at h; rw [← h, nanB_qn] at hn; cases hn

theorem num64_nb : num .f64 14064741636278059008 := num_of _ (by decide +kernel)
theorem v64_nb : fv .f64 14064741636278059008 = -4503599627370496 := by decide +kernel
theorem far_iff {Y : Nat} (hn : num .f64 Y) : fge .f64 (fabs Y) 4841369599423283200 = (fge .f64 Y 4841369599423283200 || fle .f64 Y 14064741636278059008) := by
  obtain ⟨n, e⟩ := abs_val hn
  rw [fge_val n num64_b, fge_val hn num64_b, fle_val hn num64_nb, v64_b, v64_nb, e]
  rw [Bool.eq_iff_iff]
  simp
  split <;> grind

-- left out here: loop.example/g01341/spec.l01SineWide

-- left out here: loop.example/g01341/spec.l01SineWide

-- left out here: loop.example/g01341/spec.l01SineWide

-- left out here: loop.example/g01341/spec.l01SineWide


set_option maxHeartbeats 400000 in
theorem sNarrow_c (x X : Nat) (hx : cn .f64 x = X) (hf : fits .f64 .f32 X) (w : World) : Calls Try.prog 85 #[.float .f64 x] w (Ret (RF .f32 (fcv .f64 .f32 X)) w) := by
  go_enter Try.func85, Try.ntmps85
  go_wp2_with (first | (refine wpL_fconv_fits rfl 98 22 _ rfl .f64 .f32 _ rfl (by decide) Try.underlying98 Try.underlying22 (by rw [hx]; exact hf) ?_; intro r n hr hw))
  go_ret
  exact ⟨⟨_, rfl, _, rfl, by rw [hr, hx], okf_of (by assumption)⟩, by (with_reducible repeat (first | exact Below.refl _ _ | apply below_alloc | apply below_dN | apply below_d | refine below_setCell ?_ (by dsimp only; omega) | refine below_call (by assumption) ?_))⟩

-- left out here: loop.example/g01341/spec.l01Sine

-- left out here: loop.example/g01341/impl.cosine

-- left out here: loop.example/g01341/spec.l02Cosine