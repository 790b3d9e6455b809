/- Contracts of the sine and the cosine of a number of turns in both spellings. No condition. -/
import Derived.Test.YtnkfbinppikhkaaSinN
namespace Go.Proofs.Ytnkfbinppikhkaa
open Go.RowKit
set_option linter.unusedSimpArgs false

theorem abs_val {x : Nat} (hx : num .f64 x) : num .f64 (fabs x) ∧ fv .f64 (fabs x) = if fv .f64 x < 0 then -fv .f64 x else fv .f64 x := by
  have hn := num_notnan hx
  obtain ⟨s, m, p, e⟩ := hx
  have hs : FloatKind.f64.format.signWeight = 9223372036854775808 := rfl
  have hf : fabs x = x % 9223372036854775808 := by unfold fabs; rw [hn]; rfl
  have hr : FloatKind.f64.format.read (x % 9223372036854775808) = .number false m p := by
    have h1 : x % 9223372036854775808 % FloatKind.f64.format.signWeight = x % FloatKind.f64.format.signWeight := by rw [hs]; exact Nat.mod_mod _ _
    have h2 : (x % 9223372036854775808 / FloatKind.f64.format.signWeight % 2 == 1) = false := by rw [hs, Nat.div_eq_of_lt (Nat.mod_lt _ (by decide))]; rfl
    unfold Ieee.Format.read at e ⊢
    simp only [h1, h2] at e ⊢
    split at e
    · rename_i h; rw [if_pos h]; cases e; rfl
    · rename_i h
      rw [if_neg h]
      split at e
      · rename_i h; rw [if_pos h]; cases e; rfl
      · split at e <;> cases e
  have h3 := sgn_nonneg m p
  rw [hf]
  refine ⟨⟨_, _, _, hr⟩, ?_⟩
  unfold fv
  rw [hr, e]
  cases s
  · rw [dval_pos, if_neg (by grind)]
  · rw [dval_pos, dval_neg]
    split <;> grind

/-- The sine of some turns in 64 bits. -/
def SinW (y : Nat) : Nat := if fin .f64 y then if fge .f64 (fabs y) 4841369599423283200 then 0 else SineF (Frac y) else qn .f64
theorem small_of {y : Nat} (hf : num .f64 y) (h : fge .f64 (fabs y) 4841369599423283200 = false) : -4503599627370496 < fv .f64 y ∧ fv .f64 y < 4503599627370496 := by
  obtain ⟨n, e⟩ := abs_val hf
  rw [fge_val n num64_b, v64_b, e] at h
  simp only [decide_eq_false_iff_not] at h
  split at h <;> grind
theorem sinW_inn {y : Nat} (hf : num .f64 y) : inn .f64 (SinW y) (-2) 2 := by
  unfold SinW
  rw [(fin_num y).2 hf, if_pos rfl]
  cases h : fge .f64 (fabs y) 4841369599423283200
  · obtain ⟨a, b⟩ := small_of hf h
    exact sineF_inn (frac_inn hf a b)
  · exact ⟨num64_0, by rw [if_pos rfl, v64_0]; decide, by rw [if_pos rfl, v64_0]; decide⟩
theorem fits_nan {k k' : FloatKind} {x : Nat} (h : nanB k x = true) : fits k k' x := by
  intro s m p e
  unfold nanB at h
  rw [e] at h
  cases h
theorem sinW_fits (y : Nat) : fits .f64 .f32 (SinW y) := by
  cases h : fin .f64 y
  · unfold SinW
    rw [h, if_neg (by decide)]
    exact fits_nan (nanB_qn _)
  · exact (sinW_inn ((fin_num y).1 h)).fits (E := 1) (by decide) (by decide) (by decide +kernel) (by decide +kernel)
theorem wide_num {x : Nat} (hx : num .f32 x) : num .f64 (fcv .f32 .f64 x) ∧ fv .f64 (fcv .f32 .f64 x) = fv .f32 x := by
  have hn := num_notnan hx
  have hx' := hx
  obtain ⟨s, m, p, e⟩ := hx
  obtain ⟨h1, h2⟩ := read_digits e
  have h3 := read_le e
  have hE : (m : Rat) * p2 p ≤ p2 (maxE FloatKind.f64.format) := by
    have a := num_bound hx'
    have b : p2 (maxE FloatKind.f32.format + 1) ≤ p2 (maxE FloatKind.f64.format) := p2_mono (by decide)
    unfold fv at a
    rw [e] at a
    cases s
    · rw [dval_pos] at a; grind
    · rw [dval_neg] at a; grind
  have h4 := exact_nearest .f64 s m p (Nat.lt_of_lt_of_le h1 (by decide)) (Int.le_trans (by decide) h2) hE
  have hf : fcv .f32 .f64 x = FloatKind.f64.format.nearest s m p := by unfold fcv; rw [hn, e, write_number, if_neg (by decide)]
  rw [hf]
  exact ⟨h4.1, by rw [h4.2]; unfold fv; rw [e]⟩

/-- The sine of some turns. -/
def SinT (x : Nat) : Nat := fcv .f64 .f32 (SinW (fcv .f32 .f64 x))
def Cos (x : Nat) : Nat := SinT (fop .add .f32 x 1048576000)
theorem sinT_inn {x : Nat} (hx : num .f32 x) : inn .f32 (SinT x) (-2) 2 := by
  have h := sinW_inn (wide_num hx).1
  exact (conv_rd h.1).inn isf32_n2 isf32_2 h.2.1 h.2.2


theorem cv0 : fcv .f64 .f32 0 = 0 := by decide +kernel
theorem cvn : fcv .f64 .f32 (qn .f64) = qn .f32 := by decide +kernel

-- left out here: sineT_c
end Go.Proofs.Ytnkfbinppikhkaa
