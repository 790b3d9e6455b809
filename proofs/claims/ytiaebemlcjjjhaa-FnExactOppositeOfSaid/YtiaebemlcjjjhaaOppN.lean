/- The place opposite of a valid place is valid. No condition. -/
import Derived.Test.YtiaebemlcjjjhaaOpp
namespace Go.Proofs.Ytiaebemlcjjjhaa
open Ieee
set_option linter.unusedSimpArgs false

theorem fop_read {op : BinOp} {k : FloatKind} {x x' : Nat} (y : Nat) (h : k.format.read x = k.format.read x') : fop op k x y = fop op k x' y := by
  unfold fop fopO
  cases op <;> simp only [Format.add, Format.sub, Format.mul, Format.div, h]
theorem isf_self {x : Nat} (h : inn .f32 x (-8) 8) : isf .f32 (fv .f32 x) := by
  have a := h.2.1
  have b := h.2.2
  have c : (8 : Rat) ≤ p2 (maxE FloatKind.f32.format) := by decide +kernel
  exact isf_fv h.1 (by grind) (by grind)
theorem isf32_ge : isf .f32 (1 - 1/16777216) := isf_of 1065353215 (by decide +kernel)
/-- A float just below a half. -/
theorem just_below {u : Nat} (h : num .f32 u) (h1 : 1/2 - 1/16777216 < fv .f32 u) (h2 : fv .f32 u < 1/2) : FloatKind.f32.format.read u = FloatKind.f32.format.read 1056964607 := by
  obtain ⟨s, m, p, e⟩ := h
  have hv : fv .f32 u = dval (.number s m p) := by unfold fv; rw [e]
  obtain ⟨d1, d2⟩ := read_digits e
  have d1' : m < 16777216 := d1
  have hp := p2_pos p
  have hm0 : (0 : Rat) ≤ m := by exact_mod_cast Nat.zero_le m
  rw [hv] at h1 h2
  cases s
  · rw [dval_pos] at h1 h2
    have c24 : p2 (-24) = 1/16777216 := by decide +kernel
    have c25 : p2 (-25) = 1/33554432 := by decide +kernel
    have c26 : p2 (-26) = 1/67108864 := by decide +kernel
    rcases Int.lt_trichotomy p (-25) with hp1 | hp1 | hp1
    · have a : p2 p ≤ p2 (-26) := p2_mono (by omega)
      rw [c26] at a
      have b : (m : Rat) ≤ 16777216 := by exact_mod_cast (by omega : m ≤ 16777216)
      have c := Rat.mul_le_mul_of_nonneg_right b (Rat.le_of_lt hp)
      have d : (16777216 : Rat) * p2 p ≤ 16777216 * (1/67108864) := Rat.mul_le_mul_of_nonneg_left a (by decide)
      grind
    · subst hp1
      rw [c25] at h1 h2
      have a : (16777214 : Rat) < m := by grind
      have a' : 16777214 < m := by exact_mod_cast a
      obtain rfl : m = 16777215 := by omega
      rw [e]
      decide +kernel
    · obtain ⟨q, hq⟩ : ∃ q : Nat, p = q + -24 := ⟨(p + 24).toNat, by omega⟩
      have a : p2 p = ((2 ^ q : Nat) : Rat) * (1/16777216) := by rw [hq, p2_add, p2_nat, c24]
      rw [a] at h1 h2
      have b : (m : Rat) * ((2 ^ q : Nat) : Rat) = ((m * 2 ^ q : Nat) : Rat) := by rw [Rat.natCast_mul]
      have c1 : (8388607 : Rat) < ((m * 2 ^ q : Nat) : Rat) := by grind
      have c2 : ((m * 2 ^ q : Nat) : Rat) < (8388608 : Rat) := by grind
      have c1' : 8388607 < m * 2 ^ q := by exact_mod_cast c1
      have c2' : m * 2 ^ q < 8388608 := by exact_mod_cast c2
      omega
  · rw [dval_neg] at h1
    have := Rat.mul_nonneg hm0 (Rat.le_of_lt hp)
    grind

/-- What is brought back of a number from 0 to 1. -/
theorem wrap_inn {u : Nat} (h : inn .f32 u 0 1) : num .f32 (WrapY u) ∧ -1/2 ≤ fv .f32 (WrapY u) ∧ fv .f32 (WrapY u) < 1/2 := by
  have h0 := h.2.1
  have h1 := h.2.2
  have hw0 := add_rd h.1 num32_h
  have hw := hw0.inn isf32_h (isf_of (k := .f32) 1069547520 (A := 3/2) (by decide +kernel)) (by rw [v32_h]; grind) (by rw [v32_h]; grind)
  have a := hw.2.1
  have b := hw.2.2
  obtain ⟨w1, w2⟩ := wide_num hw.1
  obtain ⟨f1, s, M, f2, f3, f4, f5⟩ := floor_bits w1 (by rw [w2]; grind) (by rw [w2]; grind)
  rw [w2] at f4 f5
  have hn : (if s then -(M : Int) else M : Int) = 0 ∨ (if s then -(M : Int) else M : Int) = 1 := by
    generalize (if s then -(M : Int) else M : Int) = n at *
    have c1 : (n : Rat) < ((2 : Int) : Rat) := by simp; grind
    have c2 : ((-1 : Int) : Rat) < (n : Rat) := by simp; grind
    have c1' : n < 2 := by exact_mod_cast c1
    have c2' : -1 < n := by exact_mod_cast c2
    omega
  unfold WrapY FloorT
  rcases hn with hn | hn
  · rw [hn] at f3 f4 f5
    have hlt : fv .f32 (fop .add .f32 u 1056964608) < 1 := by have e0 : ((0 : Int) : Rat) = 0 := rfl; grind
    have hu : fv .f32 u < 1/2 := by
      apply Classical.byContradiction
      intro hc
      have hge := (hw0.inn isf32_1 (isf_of (k := .f32) 1069547520 (A := 3/2) (by decide +kernel)) (by rw [v32_h]; grind) (by rw [v32_h]; grind)).2.1
      grind
    have hF := (conv_rd (k' := .f32) f1).same (by rw [f3]; simpa using isf32_0)
    have hy := (sub_rd h.1 hF.1).same (by
      rw [hF.2, f3, show fv .f32 u - ((0 : Int) : Rat) = fv .f32 u by have e0 : ((0 : Int) : Rat) = 0 := rfl; grind]
      exact isf_self (h.mono (A' := -8) (B' := 8) (by decide) (by decide)))
    have hv : fv .f32 (fop .sub .f32 u (fcv .f64 .f32 (fint .down (fcv .f32 .f64 (fop .add .f32 u 1056964608))))) = fv .f32 u := by
      rw [hy.2, hF.2, f3]; have e0 : ((0 : Int) : Rat) = 0 := rfl; grind
    refine ⟨hy.1, ?_, ?_⟩ <;> rw [hv] <;> grind
  · have hF : fint .down (fcv .f32 .f64 (fop .add .f32 u 1056964608)) = 4607182418800017408 := by
      rw [f2]
      cases s
      · simp at hn
        obtain rfl : M = 1 := by omega
        decide +kernel
      · simp at hn; omega
    rw [hF, show fcv .f64 .f32 4607182418800017408 = 1065353216 by decide +kernel]
    have n1 : num .f32 1065353216 := num_of _ (by decide +kernel)
    have v1 : fv .f32 1065353216 = 1 := by decide +kernel
    by_cases hu : fv .f32 u < 1/2
    · rw [hn] at f4
      have hge : 1 ≤ fv .f32 (fop .add .f32 u 1056964608) := by have e0 : ((1 : Int) : Rat) = 1 := rfl; grind
      have hgt : 1/2 - 1/16777216 < fv .f32 u := by
        apply Classical.byContradiction
        intro hc
        have := (hw0.inn isf32_h isf32_ge (by rw [v32_h]; grind) (by rw [v32_h]; grind)).2.2
        grind
      rw [fop_read _ (just_below h.1 hgt hu), show fop .sub .f32 1056964607 1065353216 = 3204448256 by decide +kernel, v32_nh]
      exact ⟨num32_nh, by decide +kernel, by decide +kernel⟩
    · have := (sub_rd h.1 n1).inn isf32_nh isf32_0 (by rw [v1]; grind) (by rw [v1]; grind)
      exact ⟨this.1, this.2.1, by have := this.2.2; grind⟩

/-- The place on the other side is valid. -/
theorem opp_valid {x y : Nat} (h : vplace x y = true) : inn .f32 (fop .add .f32 y 1056964608) (-4) 4 ∧ vplace (fneg .f32 x) (Wrap (fop .add .f32 y 1056964608)) = true := by
  obtain ⟨hx, hy⟩ := vplace_num h
  have a := hy.2.1
  have b := hy.2.2
  have hu := (add_rd hy.1 num32_h).inn isf32_0 isf32_1 (by rw [v32_h]; grind) (by rw [v32_h]; grind)
  refine ⟨hu.mono (by decide +kernel) (by decide +kernel), ?_⟩
  obtain ⟨y1, y2, y3⟩ := wrap_inn hu
  obtain ⟨z1, z2⟩ := neg_val hx.1
  have hc : fge .f32 (WrapY (fop .add .f32 y 1056964608)) 1056964608 = false := by
    rw [fge_val y1 num32_h, v32_h]; simp only [decide_eq_false_iff_not]; grind
  have hW : Wrap (fop .add .f32 y 1056964608) = WrapY (fop .add .f32 y 1056964608) := by unfold Wrap; rw [hc]; rfl
  have a2 := hx.2.1
  have b2 := hx.2.2
  rw [hW]
  simp only [vplace, fge_val z1 num32_nq, fle_val z1 num32_q, fge_val y1 num32_nh, flt_val y1 num32_h, v32_nq, v32_q, v32_nh, v32_h, Bool.and_eq_true, decide_eq_true_eq, z2]
  refine ⟨?_, ?_, y2, y3⟩ <;> grind
end Go.Proofs.Ytiaebemlcjjjhaa
