/- Quotients by value; numbers that are exact; whole parts. No condition. -/
import Derived.Test.YtnkfbinppikhkaaVal2
namespace Go.Proofs.Ytnkfbinppikhkaa
open Ieee
set_option linter.unusedSimpArgs false

/-- A magnitude that stands to the kind's magnitudes as E does is E rounded. -/
theorem Rd.of_abs {k : FloatKind} (s : Bool) (M : Nat) (P : Int) (E : Rat) (hE : 0 ≤ E)
    (h : ∀ (N : Nat) (q : Int), N < 2 ^ (k.format.fractionBits + 1) → k.format.leastPlace ≤ q → ((M : Rat) * p2 P ≤ N * p2 q ↔ E ≤ N * p2 q) ∧ ((N : Rat) * p2 q ≤ M * p2 P ↔ N * p2 q ≤ E)) :
    Rd k (if s then -E else E) (k.format.nearest s M P) := by
  refine ⟨s, M, P, rfl, fun b hb => ?_⟩
  obtain ⟨t, N, q, e⟩ := hb
  obtain ⟨hN, hq⟩ := read_digits e
  have h1 := h N q hN hq
  have h2 := sgn_nonneg N q
  have h3 := sgn_nonneg M P
  have hf : fv k b = dval (.number t N q) := by unfold fv; rw [e]
  rw [hf]
  have ht := h 0 q (Nat.two_pow_pos _) hq
  simp at ht
  cases s <;> cases t <;> simp only [dval_pos, dval_neg, if_true, Bool.false_eq_true, if_false] <;> (generalize (N : Rat) * p2 q = B at *; generalize (M : Rat) * p2 P = D at *; constructor <;> constructor <;> intro h <;> grind)

theorem quo_abs (m : Nat) (i : Int) (n : Nat) (hn : n ≠ 0) (j : Int) (g : Nat) (N : Nat) (q : Int) (hN : N < 2 ^ (g + 1)) :
    let more := g + 2 + n.log2 - m.log2
    let D := m <<< more
    let d := ((2 * (D / n) + (D % n != 0).toNat : Nat) : Rat) * p2 (i - j - more - 1)
    let E := (m : Rat) * p2 i / (n * p2 j)
    (d ≤ N * p2 q ↔ E ≤ N * p2 q) ∧ ((N : Rat) * p2 q ≤ d ↔ N * p2 q ≤ E) := by
  intro more D d E
  have hn0 : (0 : Rat) < n := by exact_mod_cast Nat.pos_of_ne_zero hn
  have hu : p2 i = p2 (i - j - more) * (p2 j * ((2 ^ more : Nat) : Rat)) := by
    rw [← p2_nat, ← p2_add, ← p2_add]; congr 1; omega
  -- E in units
  have hD : (D : Rat) = m * ((2 ^ more : Nat) : Rat) := by
    show ((m <<< more : Nat) : Rat) = _
    rw [Nat.shiftLeft_eq, Rat.natCast_mul]
  have hE : E * n = D * p2 (i - j - more) := by
    show (m : Rat) * p2 i / (n * p2 j) * n = _
    have hj := p2_pos j
    have h0 : (n : Rat) * p2 j ≠ 0 := by have := Rat.mul_pos hn0 hj; grind
    rw [hu, hD, Rat.div_def]
    have : (n * p2 j : Rat) * (n * p2 j)⁻¹ = 1 := Rat.mul_inv_cancel _ h0
    grind
  have hd : d = ((D / n : Nat) : Rat) * p2 (i - j - more) + ((D % n != 0).toNat : Nat) * p2 (i - j - more - 1) := by
    show ((2 * (D / n) + (D % n != 0).toNat : Nat) : Rat) * p2 (i - j - more - 1) = _
    have : p2 (i - j - more) = 2 * p2 (i - j - more - 1) := by
      have h := p2_add (i - j - more - 1) 1
      rw [show i - j - more - 1 + 1 = i - j - more by omega] at h
      have h1 : p2 1 = 2 := by decide +kernel
      rw [h, h1]; grind
    rw [Rat.natCast_add, Rat.natCast_mul, this]; grind
  have hdm := Nat.div_add_mod D n
  have hmod : D % n < n := Nat.mod_lt _ (Nat.pos_of_ne_zero hn)
  have hU := p2_pos (i - j - more)
  have hU2 : p2 (i - j - more) = 2 * p2 (i - j - more - 1) := by
    have h := p2_add (i - j - more - 1) 1
    rw [show i - j - more - 1 + 1 = i - j - more by omega] at h
    have h1 : p2 1 = 2 := by decide +kernel
    rw [h, h1]; grind
  by_cases hr : D % n = 0
  · -- exact
    have e0 : (D % n != 0) = false := by simp [hr]
    rw [e0] at hd
    have hq : (D : Rat) = n * ((D / n : Nat) : Rat) := by
      have : D = n * (D / n) := by omega
      conv => lhs; rw [this]
      rw [Rat.natCast_mul]
    have : d = E := by
      have h1 : E * n = d * n := by rw [hE, hd, hq]; simp; grind
      have a : E ≤ d := Rat.le_of_mul_le_mul_right (c := (n : Rat)) (by rw [h1]; exact Rat.le_refl) hn0
      have b : d ≤ E := Rat.le_of_mul_le_mul_right (c := (n : Rat)) (by rw [h1]; exact Rat.le_refl) hn0
      exact (Rat.le_antisymm a b).symm
    rw [this]
    exact ⟨Iff.rfl, Iff.rfl⟩
  · have e1 : (D % n != 0) = true := by simp [hr]
    rw [e1] at hd
    simp only [Bool.toNat_true] at hd
    -- fl < X < fl + 1
    have lo : ((D / n : Nat) : Rat) * p2 (i - j - more) < E := by
      apply Classical.byContradiction
      intro hc
      have hc := Rat.not_lt.1 hc
      have h1 := Rat.mul_le_mul_of_nonneg_right hc (Rat.le_of_lt hn0)
      rw [hE] at h1
      have h2 : (D : Rat) * p2 (i - j - more) ≤ ((n * (D / n) : Nat) : Rat) * p2 (i - j - more) := by rw [Rat.natCast_mul]; grind
      have h3 := Rat.le_of_mul_le_mul_right h2 hU
      have h4 : D ≤ n * (D / n) := by exact_mod_cast h3
      omega
    have hi : E < ((D / n + 1 : Nat) : Rat) * p2 (i - j - more) := by
      apply Classical.byContradiction
      intro hc
      have hc := Rat.not_lt.1 hc
      have h1 := Rat.mul_le_mul_of_nonneg_right hc (Rat.le_of_lt hn0)
      rw [hE] at h1
      have h2 : ((n * (D / n + 1) : Nat) : Rat) * p2 (i - j - more) ≤ (D : Rat) * p2 (i - j - more) := by rw [Rat.natCast_mul]; grind
      have h3 := Rat.le_of_mul_le_mul_right h2 hU
      have h4 : n * (D / n + 1) ≤ D := by exact_mod_cast h3
      have h5 : n * (D / n + 1) = n * (D / n) + n := by rw [Nat.mul_add, Nat.mul_one]
      omega
    have hi' : E < ((D / n : Nat) : Rat) * p2 (i - j - more) + p2 (i - j - more) := by rw [Rat.natCast_add] at hi; grind
    have hU3 := p2_pos (i - j - more - 1)
    rcases Int.lt_or_le q (i - j - more) with hq | hq
    · -- the bound is far below
      have hm0 : m ≠ 0 := by
        intro h
        apply hr
        show (m <<< more) % n = 0
        rw [h]; simp
      have hbig : N * 2 ^ (q - q).toNat < (D / n) * 2 ^ (i - j - more - q).toNat := by
        have h1 : 2 ^ (g + 2 + n.log2) ≤ D := by
          show _ ≤ m <<< more
          rw [Nat.shiftLeft_eq]
          have a := Nat.log2_self_le hm0
          have b : 2 ^ (g + 2 + n.log2) ≤ 2 ^ m.log2 * 2 ^ more := by
            rw [← Nat.pow_add]
            exact Nat.pow_le_pow_right (by decide) (by show _ ≤ _ + (g + 2 + n.log2 - m.log2); omega)
          exact Nat.le_trans b (Nat.mul_le_mul_right _ a)
        have h2 : n < 2 ^ (n.log2 + 1) := Nat.lt_log2_self
        have h3 : 2 ^ (g + 1) ≤ D / n := by
          rw [Nat.le_div_iff_mul_le (Nat.pos_of_ne_zero hn)]
          have : 2 ^ (g + 1) * n ≤ 2 ^ (g + 1) * 2 ^ (n.log2 + 1) := Nat.mul_le_mul_left _ (Nat.le_of_lt h2)
          rw [← Nat.pow_add] at this
          have e : g + 1 + (n.log2 + 1) = g + 2 + n.log2 := by omega
          rw [e] at this
          omega
        have h4 : D / n ≤ (D / n) * 2 ^ (i - j - more - q).toNat := Nat.le_mul_of_pos_right _ (Nat.two_pow_pos _)
        rw [show (q - q).toNat = 0 by omega]
        simp only [Nat.pow_zero, Nat.mul_one]
        omega
      have hlt : ¬ ((D / n : Nat) : Rat) * p2 (i - j - more) ≤ N * p2 q := by
        rw [le_iff (D / n) (i - j - more) N q q (by omega) (Int.le_refl _)]
        omega
      constructor <;> constructor <;> intro h <;> grind
    · -- the bound is a whole number of units
      have hB : (N : Rat) * p2 q = ((N * 2 ^ (q - (i - j - more)).toNat : Nat) : Rat) * p2 (i - j - more) := by
        rw [p2_sub hq, Rat.natCast_mul]; grind
      rw [hB]
      generalize N * 2 ^ (q - (i - j - more)).toNat = B at *
      rcases Nat.lt_or_ge (D / n) B with hc | hc
      · have h1 : ((D / n + 1 : Nat) : Rat) * p2 (i - j - more) ≤ (B : Rat) * p2 (i - j - more) := Rat.mul_le_mul_of_nonneg_right (by exact_mod_cast hc) (Rat.le_of_lt hU)
        rw [Rat.natCast_add] at h1
        constructor <;> constructor <;> intro h <;> grind
      · have h1 : (B : Rat) * p2 (i - j - more) ≤ ((D / n : Nat) : Rat) * p2 (i - j - more) := Rat.mul_le_mul_of_nonneg_right (by exact_mod_cast hc) (Rat.le_of_lt hU)
        constructor <;> constructor <;> intro h <;> grind

theorem quo_rd {k : FloatKind} {x y : Nat} (hx : num k x) (hy : num k y) (h0 : fv k y ≠ 0) : Rd k (fv k x / fv k y) (fop .quo k x y) := by
  obtain ⟨s, m, i, ex⟩ := hx
  obtain ⟨t, n, j, ey⟩ := hy
  have hn : n ≠ 0 := by
    intro h
    subst h
    apply h0
    unfold fv; rw [ey]; cases t <;> simp [dval]
  have hf : fop .quo k x y = k.format.nearest (s ^^ t) (2 * ((m <<< (k.format.fractionBits + 2 + n.log2 - m.log2)) / n) + ((m <<< (k.format.fractionBits + 2 + n.log2 - m.log2)) % n != 0).toNat) (i - j - ((k.format.fractionBits + 2 + n.log2 - m.log2 : Nat) : Int) - 1) := by
    simp only [fop, fopO, Format.div, ex, ey, Datum.quotient, if_neg hn]; rfl
  have hE : fv k x / fv k y = if (s ^^ t) then -((m : Rat) * p2 i / (n * p2 j)) else (m : Rat) * p2 i / (n * p2 j) := by
    unfold fv
    rw [ex, ey]
    have hi : ∀ a : Rat, (-a)⁻¹ = -a⁻¹ := fun a => by grind
    cases s <;> cases t <;> simp only [dval_pos, dval_neg, Rat.div_def, Bool.xor_false, Bool.xor_true, Bool.not_false, Bool.not_true, if_true, Bool.false_eq_true, if_false, hi] <;> grind
  rw [hf, hE]
  have hEn : 0 ≤ (m : Rat) * p2 i / (n * p2 j) := by
    rw [Rat.div_def]
    have : (0 : Rat) < n * p2 j := Rat.mul_pos (by exact_mod_cast Nat.pos_of_ne_zero hn) (p2_pos j)
    exact Rat.mul_nonneg (sgn_nonneg m i) (Rat.le_of_lt (Rat.inv_pos.2 this))
  exact Rd.of_abs _ _ _ _ hEn fun N q hN _ => quo_abs m i n hn j k.format.fractionBits N q hN
end Go.Proofs.Ytnkfbinppikhkaa
