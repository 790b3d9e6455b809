/- Floats between bounds, operation by operation; numbers that are exact; whole parts. No condition. -/
import Derived.Test.YtnkfbinppikhkaaVal3
import Derived.Test.YtnkfbinppikhkaaSine
namespace Go.Proofs.Ytnkfbinppikhkaa
open Ieee
set_option linter.unusedSimpArgs false

/-- A value that a float of the kind has, not too great. -/
def isf (k : FloatKind) (A : Rat) : Prop := (∃ b, num k b ∧ fv k b = A) ∧ -p2 (maxE k.format) ≤ A ∧ A ≤ p2 (maxE k.format)
def isfB (k : FloatKind) (b : Nat) (A : Rat) : Bool :=
  match k.format.read b with
  | .number s m p => decide (dval (.number s m p) = A) && decide (-p2 (maxE k.format) ≤ A) && decide (A ≤ p2 (maxE k.format))
  | _ => false
theorem isf_of {k : FloatKind} (b : Nat) {A : Rat} (h : isfB k b A = true) : isf k A := by
  unfold isfB at h
  cases e : k.format.read b with
  | number s m p =>
    rw [e] at h
    simp only [Bool.and_eq_true, decide_eq_true_eq] at h
    exact ⟨⟨b, ⟨s, m, p, e⟩, by unfold fv; rw [e]; exact h.1.1⟩, h.1.2, h.2⟩
  | nan s f => rw [e] at h; cases h
  | infinity s => rw [e] at h; cases h
theorem isf_fv {k : FloatKind} {b : Nat} (h : num k b) (h1 : -p2 (maxE k.format) ≤ fv k b) (h2 : fv k b ≤ p2 (maxE k.format)) : isf k (fv k b) := ⟨⟨b, h, rfl⟩, h1, h2⟩

/-- A number between bounds. -/
def inn (k : FloatKind) (x : Nat) (A B : Rat) : Prop := num k x ∧ A ≤ fv k x ∧ fv k x ≤ B
theorem lp_le (k : FloatKind) : k.format.leastPlace ≤ maxE k.format := by cases k <;> decide
theorem Rd.inn {k : FloatKind} {e : Rat} {r : Nat} (h : Rd k e r) {A B : Rat} (hA : isf k A) (hB : isf k B) (h1 : A ≤ e) (h2 : e ≤ B) : inn k r A B := by
  obtain ⟨⟨a, na, ea⟩, a1, a2⟩ := hA
  obtain ⟨⟨b, nb, eb⟩, b1, b2⟩ := hB
  obtain ⟨n, hn⟩ := h.ok (E := maxE k.format) (lp_le k) (Int.le_refl _) (Rat.le_trans a1 h1) (Rat.le_trans h2 b2)
  exact ⟨n, by rw [← ea]; exact (hn a na).2 (by rw [ea]; exact h1), by rw [← eb]; exact (hn b nb).1 (by rw [eb]; exact h2)⟩
/-- What is a float's value stays as it is. -/
theorem Rd.same {k : FloatKind} {e : Rat} {r : Nat} (h : Rd k e r) (hA : isf k e) : num k r ∧ fv k r = e := by
  obtain ⟨n, a, b⟩ := h.inn hA hA Rat.le_refl Rat.le_refl
  exact ⟨n, Rat.le_antisymm b a⟩
theorem inn.mono {k : FloatKind} {x : Nat} {A B A' B' : Rat} (h : inn k x A B) (h1 : A' ≤ A) (h2 : B ≤ B') : inn k x A' B' := ⟨h.1, Rat.le_trans h1 h.2.1, Rat.le_trans h.2.2 h2⟩
theorem inn.fits {k k' : FloatKind} {x : Nat} {A B : Rat} (h : inn k x A B) {E : Int} (he1 : k'.format.leastPlace ≤ E) (he2 : E ≤ maxE k'.format) (h1 : -p2 E ≤ A) (h2 : B ≤ p2 E) : fits k k' x :=
  fits_of he1 he2 fun _ => ⟨Rat.le_trans h1 h.2.1, Rat.le_trans h.2.2 h2⟩

theorem isf64_0 : isf .f64 0 := isf_of 0 (by decide +kernel)
theorem isf64_1 : isf .f64 1 := isf_of 4607182418800017408 (by decide +kernel)
theorem isf64_n1 : isf .f64 (-1) := isf_of 13830554455654793216 (by decide +kernel)
theorem isf64_2 : isf .f64 2 := isf_of 4611686018427387904 (by decide +kernel)
theorem isf64_n2 : isf .f64 (-2) := isf_of 13835058055282163712 (by decide +kernel)
theorem isf64_4 : isf .f64 4 := isf_of 4616189618054758400 (by decide +kernel)
theorem isf64_h : isf .f64 (1/2) := isf_of 4602678819172646912 (by decide +kernel)
theorem isf64_q : isf .f64 (1/4) := isf_of 4598175219545276416 (by decide +kernel)
theorem isf32_2 : isf .f32 2 := isf_of 1073741824 (by decide +kernel)
theorem isf32_n2 : isf .f32 (-2) := isf_of 3221225472 (by decide +kernel)
theorem isf32_0 : isf .f32 0 := isf_of 0 (by decide +kernel)
theorem isf32_1 : isf .f32 1 := isf_of 1065353216 (by decide +kernel)
theorem isf32_n1 : isf .f32 (-1) := isf_of 3212836864 (by decide +kernel)

/-- A float constant: its value. -/
theorem num_of {k : FloatKind} (b : Nat) (h : (match k.format.read b with | .number .. => true | _ => false) = true) : num k b := by
  cases e : k.format.read b with
  | number s m p => exact ⟨s, m, p, e⟩
  | nan s f => rw [e] at h; cases h
  | infinity s => rw [e] at h; cases h


/-- x - x is 0 of numbers alone. -/
theorem fin_num {k : FloatKind} (x : Nat) : fin k x = true ↔ num k x := by
  unfold fin
  constructor
  · intro h
    cases e : k.format.read x with
    | number s m p => exact ⟨s, m, p, e⟩
    | nan s f =>
      have : fop .sub k x x = qn k := by simp only [fop, fopO, Format.sub, e]; rfl
      rw [this] at h
      unfold feq at h
      rw [order_nan_left (nanB_qn k)] at h
      cases h
    | infinity s =>
      have : fop .sub k x x = qn k := by
        simp only [fop, fopO, Format.sub, e, Datum.opposite, Datum.sum]
        cases s <;> rfl
      rw [this] at h
      unfold feq at h
      rw [order_nan_left (nanB_qn k)] at h
      cases h
  · intro hx
    have h1 := sub_rd hx hx
    have h2 : isf k 0 := by cases k <;> first | exact isf32_0 | exact isf64_0
    have h3 := h1.same (by rw [show fv k x - fv k x = 0 by grind]; exact h2)
    have h4 : num k 0 := by cases k <;> exact num_of 0 (by decide +kernel)
    have h5 : fv k 0 = 0 := by cases k <;> decide +kernel
    rw [feq_val h3.1 h4, h3.2, h5]
    simp
    grind
theorem not_fin {k : FloatKind} {x : Nat} (h : fin k x = false) : ¬ num k x := fun hn => by rw [(fin_num x).2 hn] at h; cases h

/-- Exact numbers. -/
theorem exact_nearest (k : FloatKind) (s : Bool) (m : Nat) (p : Int) (hm : m < 2 ^ (k.format.fractionBits + 1)) (hp : k.format.leastPlace ≤ p) (hE : (m : Rat) * p2 p ≤ p2 (maxE k.format)) :
    num k (k.format.nearest s m p) ∧ fv k (k.format.nearest s m p) = dval (.number s m p) := by
  refine ⟨nearest_num k s m p _ hE (lp_le k) (Int.le_refl _), ?_⟩
  by_cases h0 : m = 0
  · subst h0
    unfold fv; rw [nearest_zero]; cases s <;> simp [dval]
  · rw [fv_nearest k s m p _ h0 hE (lp_le k) (Int.le_refl _)]
    have a := kept_up k.format s m p h0 m p hm hp Rat.le_refl
    have b := kept_down k.format s m p h0 m p hm hp Rat.le_refl
    have d := Rat.le_antisymm a b
    cases s
    · rw [dval_pos, dval_pos, d]
    · rw [dval_neg, dval_neg, d]

/-- The whole part towards zero of a magnitude. -/
theorem cut_zero (s : Bool) (n drop : Nat) : Toward.zero.cut s n drop = n / 2 ^ drop := by
  unfold Toward.cut
  simp only [Nat.one_shiftLeft, Bool.toNat_false, Nat.add_zero]
  by_cases hd : drop ≤ n.log2 + 2
  · rw [Nat.min_eq_left hd]
  · rw [Nat.min_eq_right (by omega)]
    have h1 : n < 2 ^ (n.log2 + 1) := Nat.lt_log2_self
    have h2 : 2 ^ (n.log2 + 1) ≤ 2 ^ (n.log2 + 2) := Nat.pow_le_pow_right (by decide) (by omega)
    have h3 : 2 ^ (n.log2 + 2) ≤ 2 ^ drop := Nat.pow_le_pow_right (by decide) (by omega)
    rw [Nat.div_eq_of_lt (by omega), Nat.div_eq_of_lt (by omega)]
theorem whole_bounds (m : Nat) (p : Int) : (((m <<< p.toNat) / 2 ^ (-p).toNat : Nat) : Rat) ≤ m * p2 p ∧ (m : Rat) * p2 p < (((m <<< p.toNat) / 2 ^ (-p).toNat : Nat) : Rat) + 1 := by
  rw [Nat.shiftLeft_eq]
  rcases Int.le_total 0 p with h | h
  · rw [show (-p).toNat = 0 by omega]
    have e : p2 p = ((2 ^ p.toNat : Nat) : Rat) := by rw [← p2_nat]; congr 1; omega
    rw [e, ← Rat.natCast_mul]
    simp only [Nat.pow_zero, Nat.div_one]
    exact ⟨Rat.le_refl, by grind⟩
  · rw [show p.toNat = 0 by omega]
    simp only [Nat.pow_zero, Nat.mul_one]
    have hg : (0 : Rat) < ((2 ^ (-p).toNat : Nat) : Rat) := by exact_mod_cast Nat.two_pow_pos _
    have e : p2 p * ((2 ^ (-p).toNat : Nat) : Rat) = 1 := by
      rw [← p2_nat, ← p2_add, show p + ((-p).toNat : Int) = 0 by omega, p2_zero]
    have hm : (m : Rat) = (m * p2 p) * ((2 ^ (-p).toNat : Nat) : Rat) := by grind
    have h1 := Nat.div_add_mod m (2 ^ (-p).toNat)
    have h2 := Nat.mod_lt m (Nat.two_pow_pos (-p).toNat)
    constructor
    · refine Rat.le_of_mul_le_mul_right (c := ((2 ^ (-p).toNat : Nat) : Rat)) ?_ hg
      rw [← hm, ← Rat.natCast_mul]
      exact_mod_cast (by rw [Nat.mul_comm]; omega)
    · apply Classical.byContradiction
      intro hc
      have h3 := Rat.mul_le_mul_of_nonneg_right (Rat.not_lt.1 hc) (Rat.le_of_lt hg)
      rw [← hm] at h3
      have h4 : ((m / 2 ^ (-p).toNat + 1 : Nat) : Rat) * ((2 ^ (-p).toNat : Nat) : Rat) ≤ m := by rw [Rat.natCast_add]; exact h3
      rw [← Rat.natCast_mul] at h4
      have h5 : (m / 2 ^ (-p).toNat + 1) * 2 ^ (-p).toNat ≤ m := by exact_mod_cast h4
      rw [Nat.add_mul, Nat.mul_comm, Nat.one_mul] at h5
      omega

theorem write_number (f : Format) (s : Bool) (m : Nat) (p : Int) : f.write (.number s m p) = f.nearest s m p := rfl
theorem integral_number (way : Toward) (s : Bool) (m : Nat) (p : Int) : (Datum.number s m p).integral way = .number s (way.cut s (m <<< p.toNat) (-p).toNat) 0 := rfl
theorem toInt_number (way : Toward) (s : Bool) (m : Nat) (p : Int) : (Datum.number s m p).toInt way = some (signed s (way.cut s (m <<< p.toNat) (-p).toNat) 0) := rfl
theorem decode_read (k : FloatKind) (x : Nat) : k.decode x = k.format.read x := rfl
theorem c52n : (4503599627370496 : Nat) < 2 ^ (FloatKind.f64.format.fractionBits + 1) := by decide +kernel
theorem c52r : (4503599627370496 : Rat) ≤ p2 (maxE FloatKind.f64.format) := by decide +kernel
theorem lp64 : FloatKind.f64.format.leastPlace ≤ 0 := by decide +kernel
/-- The whole part of a float of less than 2^52, and its conversion to an integer. -/
theorem trunc_val {t : Nat} (ht : num .f64 t) (h1 : -4503599627370496 < fv .f64 t) (h2 : fv .f64 t < 4503599627370496) :
    ∃ (s : Bool) (M : Nat), M < 4503599627370496 ∧ fint .zero t = FloatKind.f64.format.nearest s M 0 ∧ num .f64 (fint .zero t) ∧ fv .f64 (fint .zero t) = (if s then -(M : Rat) else M) ∧
      (FloatKind.f64.decode t).toInt .zero = some (if s then -(M : Int) else M) ∧ -1 < fv .f64 t - (if s then -(M : Rat) else M) ∧ fv .f64 t - (if s then -(M : Rat) else M) < 1 := by
  obtain ⟨s, m, p, e⟩ := ht
  have hv : fv .f64 t = dval (.number s m p) := by unfold fv; rw [e]
  obtain ⟨b1, b2⟩ := whole_bounds m p
  generalize hM : (m <<< p.toNat) / 2 ^ (-p).toNat = M at *
  have hn : nanB .f64 t = false := num_notnan ⟨s, m, p, e⟩
  have hcut : (Datum.number s m p).integral .zero = .number s M 0 := by
    rw [integral_number, cut_zero, hM]
  have hfi : fint .zero t = FloatKind.f64.format.nearest s M 0 := by
    unfold fint
    rw [hn, e, hcut, write_number, if_neg (by decide)]
  have hMr : (M : Rat) < 4503599627370496 := by
    rw [hv] at h1 h2
    cases s
    · rw [dval_pos] at h2; grind
    · rw [dval_neg] at h1; grind
  have hMn : M < 4503599627370496 := by exact_mod_cast hMr
  have hx := exact_nearest .f64 s M 0 (Nat.lt_trans hMn c52n) lp64 (by
    have := c52r
    rw [p2_zero]
    grind)
  have hd : dval (.number s M 0) = if s then -(M : Rat) else M := by
    cases s
    · rw [dval_pos, p2_zero]; simp
    · rw [dval_neg, p2_zero]; simp
  refine ⟨s, M, hMn, hfi, by rw [hfi]; exact hx.1, by rw [hfi, hx.2, hd], ?_, ?_, ?_⟩
  · rw [decode_read, e, toInt_number, cut_zero, hM]
    cases s <;> simp [signed]
  · rw [hv]; cases s
    · rw [dval_pos]; simp; grind
    · rw [dval_neg]; simp; grind
  · rw [hv]; cases s
    · rw [dval_pos]; simp; grind
    · rw [dval_neg]; simp; grind
end Go.Proofs.Ytnkfbinppikhkaa
