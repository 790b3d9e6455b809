/- The way to a valid place has finite numbers. No condition. -/
import Derived.Test.YtnkfbinppikhkaaWay
namespace Go.Proofs.Ytnkfbinppikhkaa
open Ieee
set_option linter.unusedSimpArgs false

theorem num_between {k : FloatKind} {x a b : Nat} (ha : num k a) (hb : num k b) (h1 : fge k x a = true) (h2 : fle k x b = true) : num k x := by
  obtain ⟨s1, m1, p1, e1⟩ := ha
  obtain ⟨s2, m2, p2, e2⟩ := hb
  unfold fge Format.order at h1
  unfold fle Format.order at h2
  rw [e1] at h1
  rw [e2] at h2
  cases e : k.format.read x with
  | nan s t => rw [e] at h1; simp [Datum.order] at h1
  | infinity s =>
    rw [e] at h1 h2
    cases s
    · simp [Datum.order] at h2
    · simp [Datum.order] at h1
  | number s m p => exact ⟨s, m, p, e⟩
theorem mul_bound {x y : Rat} (a : -2 ≤ x) (b : x ≤ 2) (c : -2 ≤ y) (d : y ≤ 2) : -4 ≤ x * y ∧ x * y ≤ 4 := by
  have h1 := Rat.mul_nonneg (a := 2 - x) (b := 2 + y) (by grind) (by grind)
  have h2 := Rat.mul_nonneg (a := 2 + x) (b := 2 - y) (by grind) (by grind)
  have h3 := Rat.mul_nonneg (a := 2 - x) (b := 2 - y) (by grind) (by grind)
  have h4 := Rat.mul_nonneg (a := 2 + x) (b := 2 + y) (by grind) (by grind)
  constructor <;> grind

theorem isf32_4 : isf .f32 4 := isf_of 1082130432 (by decide +kernel)
theorem isf32_n4 : isf .f32 (-4) := isf_of 3229614080 (by decide +kernel)
theorem isf32_h : isf .f32 (1/2) := isf_of 1056964608 (by decide +kernel)
theorem isf32_nh : isf .f32 (-1/2) := isf_of 3204448256 (by decide +kernel)
theorem num32_q : num .f32 1048576000 := num_of _ (by decide +kernel)
theorem num32_nq : num .f32 3196059648 := num_of _ (by decide +kernel)
theorem num32_h : num .f32 1056964608 := num_of _ (by decide +kernel)
theorem num32_nh : num .f32 3204448256 := num_of _ (by decide +kernel)
theorem v32_q : fv .f32 1048576000 = 1/4 := by decide +kernel
theorem v32_nq : fv .f32 3196059648 = -1/4 := by decide +kernel
theorem v32_h : fv .f32 1056964608 = 1/2 := by decide +kernel
theorem v32_nh : fv .f32 3204448256 = -1/2 := by decide +kernel
theorem num_between' {k : FloatKind} {x a b : Nat} (ha : num k a) (hb : num k b) (h1 : fge k x a = true) (h2 : flt k x b = true) : num k x := by
  obtain ⟨s1, m1, p1, e1⟩ := ha
  obtain ⟨s2, m2, p2, e2⟩ := hb
  unfold fge Format.order at h1
  unfold flt Format.order at h2
  rw [e1] at h1
  rw [e2] at h2
  cases e : k.format.read x with
  | nan s t => rw [e] at h1; simp [Datum.order] at h1
  | infinity s =>
    rw [e] at h1 h2
    cases s
    · simp [Datum.order] at h2
    · simp [Datum.order] at h1
  | number s m p => exact ⟨s, m, p, e⟩
/-- What is known of the numbers of a valid place. -/
theorem vplace_num {x y : Nat} (h : vplace x y = true) : inn .f32 x (-1/4) (1/4) ∧ inn .f32 y (-1/2) (1/2) := by
  simp only [vplace, Bool.and_eq_true] at h
  obtain ⟨h1, h2, h3, h4⟩ := h
  have a := num_between num32_nq num32_q h1 h2
  have b := num_between' num32_nh num32_h h3 h4
  rw [fge_val a num32_nq, v32_nq] at h1
  rw [fle_val a num32_q, v32_q] at h2
  rw [fge_val b num32_nh, v32_nh] at h3
  rw [flt_val b num32_h, v32_h] at h4
  simp only [decide_eq_true_eq] at h1 h2 h3 h4
  exact ⟨⟨a, h1, h2⟩, ⟨b, h3, Rat.le_of_lt h4⟩⟩
theorem cos_inn {x : Nat} (h : inn .f32 x (-1/2) (1/2)) : inn .f32 (Cos x) (-2) 2 := by
  have a := h.2.1
  have b := h.2.2
  exact sinT_inn ((add_rd h.1 num32_q).inn isf32_n1 isf32_1 (by rw [v32_q]; grind) (by rw [v32_q]; grind)).1
theorem prod_inn {x y : Nat} (hx : inn .f32 x (-2) 2) (hy : inn .f32 y (-2) 2) : inn .f32 (fop .mul .f32 x y) (-4) 4 := by
  obtain ⟨a, b⟩ := mul_bound hx.2.1 hx.2.2 hy.2.1 hy.2.2
  exact (mul_rd hx.1 hy.1).inn isf32_n4 isf32_4 a b
theorem way_fin {x y : Nat} (h : vplace x y = true) : (fin .f32 (WayX x y) && (fin .f32 (WayY x y) && fin .f32 (SinT x))) = true := by
  obtain ⟨hx, hy⟩ := vplace_num h
  have hc := cos_inn (hx.mono (by decide +kernel) (by decide +kernel))
  simp only [Bool.and_eq_true, fin_num]
  exact ⟨(prod_inn hc (cos_inn hy)).1, (prod_inn hc (sinT_inn hy.1)).1, (sinT_inn hx.1).1⟩
end Go.Proofs.Ytnkfbinppikhkaa
