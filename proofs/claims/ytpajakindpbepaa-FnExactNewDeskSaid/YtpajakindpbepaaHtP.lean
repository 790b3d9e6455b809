/- The height at a number of a grid, in plain words; numbers between two places. No condition. -/
import Derived.Test.YtpajakindpbepaaFlg
import Derived.Test.YtpajakindpbepaaGf
import Derived.Test.YtpajakindpbepaaDr
namespace Go.Proofs.Ytpajakindpbepaa
open Go.RowKit Ieee
set_option linter.unusedSimpArgs false
def flB (X : Nat) : Nat := fint .down (fcv .f32 .f64 X)
def flI (X : Nat) : Int := ((FloatKind.f64.decode (flB X)).toInt .zero).getD 0
def flOkB (s : Bool) (M : Nat) : Bool :=
  ((FloatKind.f64.decode (FloatKind.f64.format.nearest s M 0)).toInt .zero == some (M : Int)) && fitsB .f64 .f32 (FloatKind.f64.format.nearest s M 0) &&
  ((FloatKind.f32.decode (fcv .f64 .f32 (FloatKind.f64.format.nearest s M 0))).toInt .zero == some (M : Int)) && !nanB .f64 (FloatKind.f64.format.nearest s M 0) && !nanB .f32 (fcv .f64 .f32 (FloatKind.f64.format.nearest s M 0))
theorem flOk_all : ∀ M : Fin 17, flOkB false M.val = true := by decide +kernel
theorem flOk_neg : flOkB true 0 = true := by decide +kernel
/-- The floor of a small number, as a whole number. -/
structure FlOk (X : Nat) (M : Nat) : Prop where
  i64 : (FloatKind.f64.decode (flB X)).toInt .zero = some (M : Int)
  fit : fits .f64 .f32 (flB X)
  i32 : (FloatKind.f32.decode (fcv .f64 .f32 (flB X))).toInt .zero = some (M : Int)
  n64 : nanB .f64 (flB X) = false
  n32 : nanB .f32 (fcv .f64 .f32 (flB X)) = false
  eq : flI X = (M : Int)
  le : (M : Rat) ≤ fv .f32 X
theorem flOk_of {X : Nat} (h : inn .f32 X 0 16) : ∃ M, FlOk X M := by
  obtain ⟨n1, n2⟩ := wide_num h.1
  have a := h.2.1
  have b := h.2.2
  obtain ⟨f1, s, M, e, e2, e3, e4⟩ := floor_bits n1 (by rw [n2]; grind) (by rw [n2]; grind)
  rw [n2] at e3 e4
  have hk : flOkB s M = true := by
    cases s
    · have : (M : Rat) ≤ 16 := by simp [Rat.intCast_natCast] at e3; grind
      have hM : M ≤ 16 := by exact_mod_cast this
      exact flOk_all ⟨M, by omega⟩
    · have h1 : fv .f32 X < -(M : Rat) + 1 := by simpa [Rat.intCast_neg, Rat.intCast_natCast] using e4
      have : (M : Rat) < 1 := by grind
      have hM : M < 1 := by exact_mod_cast this
      obtain rfl : M = 0 := by omega
      exact flOk_neg
  have hle : (M : Rat) ≤ fv .f32 X := by
    cases s
    · simpa [Rat.intCast_natCast] using e3
    · have h1 : fv .f32 X < -(M : Rat) + 1 := by simpa [Rat.intCast_neg, Rat.intCast_natCast] using e4
      have : (M : Rat) < 1 := by grind
      have hM : M < 1 := by exact_mod_cast this
      obtain rfl : M = 0 := by omega
      simpa using a
  have hB : flB X = FloatKind.f64.format.nearest s M 0 := e
  unfold flOkB at hk
  simp only [Bool.and_eq_true, beq_iff_eq, Bool.not_eq_true'] at hk
  obtain ⟨⟨⟨⟨k1, k2⟩, k3⟩, k4⟩, k5⟩ := hk
  refine ⟨M, ?_, ?_, ?_, ?_, ?_, ?_, hle⟩
  · rw [hB]; exact k1
  · rw [hB]; exact fits_ofB k2
  · rw [hB]; exact k3
  · rw [hB]; exact k4
  · rw [hB]; exact k5
  · unfold flI; rw [hB, k1]; rfl
theorem FlOk.lt {X M n : Nat} (h : FlOk X M) (hb : fv .f32 X ≤ (n : Rat)) : M ≤ n := by
  have := h.le
  have h2 : (M : Rat) ≤ (n : Rat) := by grind
  exact_mod_cast h2
/-- A part of a share. -/
def lerpF (u p q : Nat) : Nat := fop .add .f32 (fop .mul .f32 (fop .sub .f32 1065353216 u) p) (fop .mul .f32 u q)
/-- The height at a number. -/
def htC (X W : Nat) : Nat := min (flI X).toNat (W - 2)
def htU (X W : Nat) : Nat := fop .sub .f32 X (fofI .f32 (htC X W : Int))
def htF (H : Nat → Nat) (W D X Y : Nat) : Nat :=
  lerpF (htU Y D) (lerpF (htU X W) (H (htC Y D * W + htC X W)) (H (htC Y D * W + htC X W + 1))) (lerpF (htU X W) (H (htC Y D * W + htC X W + W)) (H (htC Y D * W + htC X W + W + 1)))
theorem ht_lt {W D i k : Nat} (h1 : 2 ≤ W) (h3 : 2 ≤ D) (hi : i ≤ W - 2) (hk : k ≤ D - 2) : k * W + i + W + 1 < W * D := by
  have h : k * W ≤ (D - 2) * W := Nat.mul_le_mul_right W hk
  have e : (D - 2) * W + 2 * W = W * D := by rw [← Nat.add_mul, Nat.sub_add_cancel h3, Nat.mul_comm]
  omega
/-- Whole numbers up to 15 and what lies between them. -/
theorem int_all : ∀ u : Fin 17, (isfB .f32 (fofI .f32 (u.val : Int)) (u.val : Rat)) = true := by decide +kernel
theorem isf_int {u : Nat} (h : u ≤ 16) : isf .f32 (u : Rat) := isf_of _ (int_all ⟨u, by omega⟩)
theorem fofI_val {u : Nat} (h : u ≤ 16) : num .f32 (fofI .f32 (u : Int)) ∧ fv .f32 (fofI .f32 (u : Int)) = (u : Rat) := by
  have h1 := int_all ⟨u, by omega⟩
  unfold isfB at h1
  simp only at h1
  cases e : FloatKind.f32.format.read (fofI .f32 (u : Int)) with
  | number s m p =>
    rw [e] at h1
    simp only [Bool.and_eq_true, decide_eq_true_eq] at h1
    exact ⟨⟨s, m, p, e⟩, by unfold fv; rw [e]; exact h1.1.1⟩
  | nan s f => rw [e] at h1; cases h1
  | infinity s => rw [e] at h1; cases h1
theorem isf_nint {u : Nat} (h : u ≤ 16) : isf .f32 (-(u : Rat)) := by
  have : ∀ u : Fin 17, (isfB .f32 (fneg .f32 (fofI .f32 (u.val : Int))) (-(u.val : Rat))) = true := by decide +kernel
  exact isf_of _ (this ⟨u, by omega⟩)
def mixF (A C T : Nat) : Nat := fop .add .f32 A (fop .mul .f32 (fop .sub .f32 C A) T)
/-- What lies between two whole numbers stays between them. -/
theorem mix_inn {p q T n : Nat} (hn : n ≤ 16) (hp : p ≤ n) (hq : q ≤ n) (hT : inn .f32 T 0 1) : inn .f32 (mixF (fofI .f32 (p : Int)) (fofI .f32 (q : Int)) T) 0 n := by
  obtain ⟨np, vp⟩ := fofI_val (u := p) (by omega)
  obtain ⟨nq, vq⟩ := fofI_val (u := q) (by omega)
  have t0 := hT.2.1
  have t1 := hT.2.2
  have p0 : (0 : Rat) ≤ p := Rat.natCast_nonneg
  have q0 : (0 : Rat) ≤ q := Rat.natCast_nonneg
  have pn : (p : Rat) ≤ n := by exact_mod_cast hp
  have qn : (q : Rat) ≤ n := by exact_mod_cast hq
  unfold mixF
  rcases Nat.le_total p q with h | h
  · have hpq : ((q - p : Nat) : Rat) = (q : Rat) - p := by have := Rat.natCast_add (q - p) p; rw [Nat.sub_add_cancel h] at this; grind
    have d := (sub_rd nq np).same (by rw [vq, vp, ← hpq]; exact isf_int (by omega))
    rw [vq, vp, ← hpq] at d
    have k0 : (0 : Rat) ≤ ((q - p : Nat) : Rat) := Rat.natCast_nonneg
    have m := (mul_rd d.1 hT.1).inn isf32_0 (isf_int (u := q - p) (by omega)) (by rw [d.2]; exact Rat.mul_nonneg k0 t0) (by rw [d.2]; have := Rat.mul_le_mul_of_nonneg_left t1 k0; grind)
    have m0 := m.2.1
    have m1 := m.2.2
    exact (add_rd np m.1).inn isf32_0 (isf_int hn) (by rw [vp]; grind) (by rw [vp]; grind)
  · have hpq : ((p - q : Nat) : Rat) = (p : Rat) - q := by have := Rat.natCast_add (p - q) q; rw [Nat.sub_add_cancel h] at this; grind
    have e1 : (q : Rat) - p = -((p - q : Nat) : Rat) := by rw [hpq]; grind
    have d := (sub_rd nq np).same (by rw [vq, vp, e1]; exact isf_nint (by omega))
    rw [vq, vp, e1] at d
    have k0 : (0 : Rat) ≤ ((p - q : Nat) : Rat) := Rat.natCast_nonneg
    have k1 := Rat.mul_nonneg k0 t0
    have k2 := Rat.mul_le_mul_of_nonneg_left t1 k0
    have m := (mul_rd d.1 hT.1).inn (isf_nint (u := p - q) (by omega)) isf32_0 (by rw [d.2]; grind) (by rw [d.2]; grind)
    have m0 := m.2.1
    have m1 := m.2.2
    exact (add_rd np m.1).inn isf32_0 (isf_int hn) (by rw [vp]; grind) (by rw [vp]; grind)
end Go.Proofs.Ytpajakindpbepaa
