/- Floors of floats. No condition. -/
import Derived.Test.YtnkimeeofmbhkaaWayN
namespace Go.Proofs.Ytnkimeeofmbhkaa
open Ieee
set_option linter.unusedSimpArgs false

theorem cut_down_pos (n drop : Nat) : Toward.down.cut false n drop = n / 2 ^ drop := by
  have h := cut_zero false n drop
  unfold Toward.cut at h ⊢
  simpa using h
theorem cut_down_neg (n drop : Nat) : Toward.down.cut true n drop = n / 2 ^ drop + (if n % 2 ^ drop = 0 then 0 else 1) := by
  unfold Toward.cut
  simp only [Nat.one_shiftLeft, Bool.true_and]
  by_cases hd : drop ≤ n.log2 + 2
  · rw [Nat.min_eq_left hd]
    by_cases hr : n % 2 ^ drop = 0 <;> simp [hr]
  · rw [Nat.min_eq_right (by omega)]
    have h1 : n < 2 ^ (n.log2 + 1) := Nat.lt_log2_self
    have h2 : 2 ^ (n.log2 + 1) ≤ 2 ^ (n.log2 + 2) := Nat.pow_le_pow_right (by decide) (by omega)
    have h3 : 2 ^ (n.log2 + 2) ≤ 2 ^ drop := Nat.pow_le_pow_right (by decide) (by omega)
    rw [Nat.div_eq_of_lt (by omega), Nat.div_eq_of_lt (by omega), Nat.mod_eq_of_lt (by omega), Nat.mod_eq_of_lt (by omega)]
    by_cases hr : n = 0 <;> simp [hr]
theorem whole_exact (m : Nat) (p : Int) : (m : Rat) * p2 p * ((2 ^ (-p).toNat : Nat) : Rat) = ((m <<< p.toNat : Nat) : Rat) := by
  rw [Nat.shiftLeft_eq]
  rcases Int.le_total 0 p with h | h
  · rw [show (-p).toNat = 0 by omega]
    have e : p2 p = ((2 ^ p.toNat : Nat) : Rat) := by rw [← p2_nat]; congr 1; omega
    rw [e, ← Rat.natCast_mul, ← Rat.natCast_mul]
    simp
  · rw [show p.toNat = 0 by omega]
    have e : p2 p * ((2 ^ (-p).toNat : Nat) : Rat) = 1 := by
      rw [← p2_nat, ← p2_add, show p + ((-p).toNat : Int) = 0 by omega, p2_zero]
    rw [Rat.mul_assoc, e]
    simp
theorem floor_mag (s : Bool) (m : Nat) (p : Int) : ∃ M : Nat, Toward.down.cut s (m <<< p.toNat) (-p).toNat = M ∧ (if s then -(M : Rat) else M) ≤ dval (.number s m p) ∧ dval (.number s m p) < (if s then -(M : Rat) else M) + 1 := by
  have hx := whole_exact m p
  have hb := whole_bounds m p
  generalize (m <<< p.toNat) = n at *
  generalize (-p).toNat = d at *
  have hg : (0 : Rat) < ((2 ^ d : Nat) : Rat) := by exact_mod_cast Nat.two_pow_pos _
  have hdm := Nat.div_add_mod n (2 ^ d)
  cases s
  · refine ⟨_, cut_down_pos n d, ?_, ?_⟩
    · rw [dval_pos]; simp; exact hb.1
    · rw [dval_pos]; simp; exact hb.2
  · refine ⟨_, cut_down_neg n d, ?_, ?_⟩
    · rw [dval_neg]
      by_cases hr : n % 2 ^ d = 0
      · simp only [hr, if_true]
        have h1 : (m : Rat) * p2 p * ((2 ^ d : Nat) : Rat) = ((n / 2 ^ d : Nat) : Rat) * ((2 ^ d : Nat) : Rat) := by
          rw [hx, ← Rat.natCast_mul]
          exact_mod_cast (by rw [hr] at hdm; rw [Nat.mul_comm]; omega)
        have h2 : (m : Rat) * p2 p ≤ ((n / 2 ^ d : Nat) : Rat) := Rat.le_of_mul_le_mul_right (by rw [h1]; exact Rat.le_refl) hg
        simp
        grind
      · simp only [hr, if_false]
        have h2 := hb.2
        rw [Rat.natCast_add]
        simp
        grind
    · rw [dval_neg]
      by_cases hr : n % 2 ^ d = 0
      · simp only [hr, if_true]
        have h2 := hb.1
        simp
        grind
      · simp only [hr, if_false]
        have h1 : ((n / 2 ^ d : Nat) : Rat) < (m : Rat) * p2 p := by
          apply Classical.byContradiction
          intro hc
          have h3 := Rat.mul_le_mul_of_nonneg_right (Rat.not_lt.1 hc) (Rat.le_of_lt hg)
          rw [hx, ← Rat.natCast_mul] at h3
          have h5 : n ≤ (n / 2 ^ d) * 2 ^ d := by exact_mod_cast h3
          rw [Nat.mul_comm] at h5
          omega
        rw [Rat.natCast_add]
        simp
        grind

/-- The floor of a float of less than 2^52, with its bits. -/
theorem floor_bits {t : Nat} (ht : num .f64 t) (h1 : -4503599627370496 < fv .f64 t) (h2 : fv .f64 t < 4503599627370496) :
    num .f64 (fint .down t) ∧ ∃ (s : Bool) (M : Nat), fint .down t = FloatKind.f64.format.nearest s M 0 ∧ fv .f64 (fint .down t) = ((if s then -(M : Int) else M : Int) : Rat) ∧ ((if s then -(M : Int) else M : Int) : Rat) ≤ fv .f64 t ∧ fv .f64 t < ((if s then -(M : Int) else M : Int) : Rat) + 1 := by
  obtain ⟨s, m, p, e⟩ := ht
  have hv : fv .f64 t = dval (.number s m p) := by unfold fv; rw [e]
  obtain ⟨M, hM, b1, b2⟩ := floor_mag s m p
  have hn : nanB .f64 t = false := num_notnan ⟨s, m, p, e⟩
  have hfi : fint .down t = FloatKind.f64.format.nearest s M 0 := by
    unfold fint
    rw [hn, e, integral_number, hM, write_number, if_neg (by decide)]
  rw [← hv] at b1 b2
  have hMr : (M : Rat) ≤ 4503599627370496 := by
    cases s
    · simp at b1; grind
    · simp at b2
      have : (M : Rat) < 4503599627370496 + 1 := by grind
      have h : M < 4503599627370497 := by exact_mod_cast this
      exact_mod_cast (by omega : M ≤ 4503599627370496)
  have hMn : M ≤ 4503599627370496 := by exact_mod_cast hMr
  have hx := exact_nearest .f64 s M 0 (Nat.lt_of_le_of_lt hMn c52n) lp64 (by
    have := c52r
    rw [p2_zero]
    grind)
  have hd : dval (.number s M 0) = if s then -(M : Rat) else M := by
    cases s
    · rw [dval_pos, p2_zero]; simp
    · rw [dval_neg, p2_zero]; simp
  rw [hfi]
  refine ⟨hx.1, s, M, rfl, ?_, ?_, ?_⟩
  · rw [hx.2, hd]; cases s <;> simp [Rat.intCast_neg, Rat.intCast_natCast]
  · cases s <;> simpa [Rat.intCast_neg, Rat.intCast_natCast] using b1
  · cases s <;> simpa [Rat.intCast_neg, Rat.intCast_natCast] using b2

/-- The floor of a float of less than 2^52. -/
theorem floor_val {t : Nat} (ht : num .f64 t) (h1 : -4503599627370496 < fv .f64 t) (h2 : fv .f64 t < 4503599627370496) :
    num .f64 (fint .down t) ∧ ∃ n : Int, fv .f64 (fint .down t) = n ∧ (n : Rat) ≤ fv .f64 t ∧ fv .f64 t < (n : Rat) + 1 := by
  obtain ⟨a, s, M, -, h⟩ := floor_bits ht h1 h2
  exact ⟨a, _, h⟩
end Go.Proofs.Ytnkimeeofmbhkaa
