/- Bounds for the way off a line. No condition. -/
import Derived.Test.YtiaebemlcjjjhaaCT
namespace Go.Proofs.Ytiaebemlcjjjhaa
open Ieee
set_option linter.unusedSimpArgs false

theorem sq_inn {x : Nat} {e : Int} (hx : sym .f32 x e) (h0 : 0 ≤ e + e) (h : e + e ≤ maxE FloatKind.f32.format) : inn .f32 (fop .mul .f32 x x) 0 (p2 (e + e)) := by
  have hl := lp_le0 .f32
  have := abs_mul hx.2.1 hx.2.2 hx.2.1 hx.2.2
  rw [← p2_add] at this
  have h2 : 0 ≤ fv .f32 x * fv .f32 x := by
    rcases (by grind : 0 ≤ fv .f32 x ∨ 0 ≤ -fv .f32 x) with h | h
    · exact Rat.mul_nonneg h h
    · have := Rat.mul_nonneg h h
      grind
  exact (mul_rd hx.1 hx.1).inn isf32_0 (isf_p2 (by omega) h) h2 this.2
theorem nn_add {x y : Nat} {e : Int} (hx : inn .f32 x 0 (p2 e)) (hy : inn .f32 y 0 (p2 e)) (h0 : 0 ≤ e) (h : e + 1 ≤ maxE FloatKind.f32.format) : inn .f32 (fop .add .f32 x y) 0 (p2 (e + 1)) := by
  have hl := lp_le0 .f32
  have a := hx.2.1; have b := hx.2.2; have c := hy.2.1; have d := hy.2.2
  have := p2_succ e
  exact (add_rd hx.1 hy.1).inn isf32_0 (isf_p2 (by omega) h) (by grind) (by grind)
theorem nn_mono {x : Nat} {e f : Int} (h : inn .f32 x 0 (p2 e)) (hf : e ≤ f) : inn .f32 x 0 (p2 f) := inn.mono h Rat.le_refl (p2_mono hf)
theorem max32 : (60 : Int) ≤ maxE FloatKind.f32.format := by decide
theorem sym_2 {x : Nat} (h : inn .f32 x (-2) 2) : sym .f32 x 1 := inn.mono h (by rw [p2_1]; exact Rat.le_refl) (by rw [p2_1]; exact Rat.le_refl)
theorem sym_4 {x : Nat} (h : inn .f32 x (-4) 4) : sym .f32 x 2 := inn.mono h (by rw [p2_2]; exact Rat.le_refl) (by rw [p2_2]; exact Rat.le_refl)
theorem way_sym {x y : Nat} (h : vplace x y = true) : sym .f32 (WayX x y) 2 ∧ sym .f32 (WayY x y) 2 ∧ sym .f32 (SinT x) 2 := by
  obtain ⟨hx, hy⟩ := vplace_num h
  have hc := cos_inn (hx.mono (by decide +kernel) (by decide +kernel))
  exact ⟨sym_4 (prod_inn hc (cos_inn hy)), sym_4 (prod_inn hc (sinT_inn hy.1)), (sym_2 (sinT_inn hx.1)).mono (by omega)⟩
theorem cr_sym {y z y' z' : Nat} (h1 : sym .f32 y 2) (h2 : sym .f32 z 2) (h3 : sym .f32 y' 2) (h4 : sym .f32 z' 2) : sym .f32 (Cr y z y' z') 5 := by
  have hm := max32
  exact (sym_sub (sym_mul h1 h4 (by omega) (by omega)) (sym_mul h2 h3 (by omega) (by omega)) (by omega) (by omega)).mono (by omega)
theorem long_inn {x y z : Nat} (h1 : sym .f32 x 5) (h2 : sym .f32 y 5) (h3 : sym .f32 z 5) : inn .f32 (LongV x y z) 0 (p2 64) := by
  have hm := max32
  have a := sq_inn h1 (by omega) (by omega)
  have b := sq_inn h2 (by omega) (by omega)
  have c := sq_inn h3 (by omega) (by omega)
  have d := nn_add (nn_add a b (by omega) (by omega)) (nn_mono c (by omega)) (by omega) (by omega)
  exact rot_num d.1 d.2.1
theorem crl_fin {a1 a2 b1 b2 : Nat} (h1 : vplace a1 a2 = true) (h2 : vplace b1 b2 = true) : fin .f32 (CrL a1 a2 b1 b2) = true := by
  obtain ⟨x1, x2, x3⟩ := way_sym h1
  obtain ⟨y1, y2, y3⟩ := way_sym h2
  exact (fin_num _).2 (long_inn (cr_sym x2 x3 y2 y3) (cr_sym x3 x1 y3 y1) (cr_sym x1 x2 y1 y2)).1

/-! The greater one of a number and 0. -/
def Mx0 (x : Nat) : Nat := if flt .f32 x 0 then 0 else x
theorem zero_bits {x : Nat} (hw : x < 4294967296) (h : FloatKind.f32.format.order x 0 = some .eq) : x = 0 ∨ x = 2147483648 := by
  have hn : num .f32 x := by
    cases e : FloatKind.f32.format.read x with
    | number s m p => exact ⟨s, m, p, e⟩
    | nan s f => rw [order_nan_left (by unfold nanB; rw [e]; rfl)] at h; cases h
    | infinity s =>
      have h0 : FloatKind.f32.format.read 0 = .number false 0 FloatKind.f32.format.leastPlace := by decide +kernel
      unfold Format.order at h
      rw [e, h0] at h
      cases s <;> simp [Datum.order] at h
  have hv : fv .f32 x = 0 := by
    have := feq_val hn num32_0
    unfold feq at this
    rw [h, v32_0] at this
    simpa using this.symm
  obtain ⟨s, m, p, e⟩ := hn
  have hm : m = 0 := by
    rcases Nat.eq_zero_or_pos m with h | h
    · exact h
    · exfalso
      unfold fv at hv
      rw [e] at hv
      have a : (0 : Rat) < m := by exact_mod_cast h
      have b := Rat.mul_pos a (p2_pos p)
      cases s
      · rw [dval_pos] at hv; grind
      · rw [dval_neg] at hv; grind
  subst hm
  have hs : FloatKind.f32.format.signWeight = 2147483648 := rfl
  have hB : FloatKind.f32.format.binade = 8388608 := rfl
  unfold Format.read at e
  simp only [hs, hB] at e
  split at e
  · simp only [Datum.number.injEq] at e; omega
  · split at e
    · simp only [Datum.number.injEq] at e; omega
    · split at e <;> cases e
theorem order_none {x : Nat} (h : FloatKind.f32.format.order x 0 = none) : nanB .f32 x = true := by
  unfold nanB
  have h0 : FloatKind.f32.format.read 0 = .number false 0 FloatKind.f32.format.leastPlace := by decide +kernel
  unfold Format.order at h
  rw [h0] at h
  cases e : FloatKind.f32.format.read x with
  | nan s f => rfl
  | number s m p => rw [e] at h; simp [Datum.order] at h
  | infinity s => rw [e] at h; cases s <;> simp [Datum.order] at h
theorem fl_cn0 (x : Nat) : flt .f32 (cn .f32 x) 0 = flt .f32 x 0 := by
  have := flt_cn .f32 x 0
  rwa [show cn .f32 0 = 0 by decide +kernel] at this
theorem ang_zero (Y : Nat) : AngF Y (Rot 2147483648) = AngF Y (Rot 0) := by
  have h1 : fin .f32 (Rot 2147483648) = fin .f32 (Rot 0) := by decide +kernel
  have h2 : feq .f32 (Rot 2147483648) 0 = feq .f32 (Rot 0) 0 := by decide +kernel
  have h3 : flt .f32 (Rot 2147483648) 0 = flt .f32 (Rot 0) 0 := by decide +kernel
  have h4 : fabs (wid (Rot 2147483648)) = fabs (wid (Rot 0)) := by decide +kernel
  unfold AngF
  rw [h1, h2, h3, h4]
end Go.Proofs.Ytiaebemlcjjjhaa
