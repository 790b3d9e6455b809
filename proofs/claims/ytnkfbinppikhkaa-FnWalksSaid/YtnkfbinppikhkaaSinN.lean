/- The sine of a number of turns is a number from -2 to 2; its two spellings. No condition. -/
import Derived.Test.YtnkfbinppikhkaaInn
namespace Go.Proofs.Ytnkfbinppikhkaa
open Ieee
set_option linter.unusedSimpArgs false

theorem num64_h : num .f64 4602678819172646912 := num_of _ (by decide +kernel)
theorem num64_q : num .f64 4598175219545276416 := num_of _ (by decide +kernel)
theorem num64_1 : num .f64 4607182418800017408 := num_of _ (by decide +kernel)
theorem num64_0 : num .f64 0 := num_of _ (by decide +kernel)
theorem num64_t : num .f64 4618760256179416344 := num_of _ (by decide +kernel)
theorem num64_b : num .f64 4841369599423283200 := num_of _ (by decide +kernel)
theorem v64_h : fv .f64 4602678819172646912 = 1/2 := by decide +kernel
theorem v64_q : fv .f64 4598175219545276416 = 1/4 := by decide +kernel
theorem v64_1 : fv .f64 4607182418800017408 = 1 := by decide +kernel
theorem v64_0 : fv .f64 0 = 0 := by decide +kernel
theorem v64_t : 6 ≤ fv .f64 4618760256179416344 ∧ fv .f64 4618760256179416344 ≤ 7 := by decide +kernel
theorem v64_b : fv .f64 4841369599423283200 = 4503599627370496 := by decide +kernel

/-- The whole part that is taken away: of no sign if it is 0. -/
def Whole (t : Nat) : Nat := if feq .f64 (fint .zero t) 0 then 0 else fint .zero t
theorem Frac_eq (t : Nat) : Frac t = if flt .f64 (fop .sub .f64 t (Whole t)) 0 then fop .add .f64 (fop .sub .f64 t (Whole t)) 4607182418800017408 else fop .sub .f64 t (Whole t) := rfl

theorem nearest_zero_bits (s : Bool) (p : Int) : FloatKind.f64.format.nearest s 0 p = FloatKind.f64.format.word s 0 := rfl
theorem whole_val {t : Nat} (ht : num .f64 t) (h1 : -4503599627370496 < fv .f64 t) (h2 : fv .f64 t < 4503599627370496) :
    num .f64 (Whole t) ∧ -1 < fv .f64 t - fv .f64 (Whole t) ∧ fv .f64 t - fv .f64 (Whole t) < 1 ∧
      ∃ n : Int, -4503599627370496 < n ∧ n < 4503599627370496 ∧ (FloatKind.f64.decode t).toInt .zero = some n ∧ Whole t = fofI .f64 n := by
  obtain ⟨s, M, hM, e1, e2, e3, e4, e5, e6⟩ := trunc_val ht h1 h2
  by_cases h0 : M = 0
  · subst h0
    have hz : fv .f64 (fint .zero t) = 0 := by rw [e3]; cases s <;> simp
    have hf : feq .f64 (fint .zero t) 0 = true := by rw [feq_val e2 num64_0, hz, v64_0]; simp
    have hw : Whole t = 0 := by unfold Whole; rw [hf]; rfl
    rw [hw, v64_0]
    have e5' : -1 < fv .f64 t - 0 := by cases s <;> simp at e5 <;> grind
    have e6' : fv .f64 t - 0 < 1 := by cases s <;> simp at e6 <;> grind
    exact ⟨num64_0, e5', e6', 0, by decide, by decide, by rw [e4]; cases s <;> simp, by decide +kernel⟩
  · have hMr : (0 : Rat) < M := by exact_mod_cast Nat.pos_of_ne_zero h0
    have hf : feq .f64 (fint .zero t) 0 = false := by
      rw [feq_val e2 num64_0, e3, v64_0]
      simp only [decide_eq_false_iff_not]
      cases s
      · simp; grind
      · simp; grind
    have hw : Whole t = fint .zero t := by unfold Whole; rw [hf]; rfl
    rw [hw, e3]
    refine ⟨e2, e5, e6, _, ?_, ?_, e4, ?_⟩
    · cases s <;> simp <;> omega
    · cases s <;> simp <;> omega
    · rw [e1]
      cases s
      · show FloatKind.f64.format.nearest false M 0 = FloatKind.f64.format.nearest (decide ((M : Int) < 0)) (M : Int).natAbs 0
        rw [show decide ((M : Int) < 0) = false by simp, Int.natAbs_natCast]
      · show FloatKind.f64.format.nearest true M 0 = FloatKind.f64.format.nearest (decide (-(M : Int) < 0)) (-(M : Int)).natAbs 0
        rw [show decide (-(M : Int) < 0) = true by simp; omega, Int.natAbs_neg, Int.natAbs_natCast]

theorem frac_inn {t : Nat} (ht : num .f64 t) (h1 : -4503599627370496 < fv .f64 t) (h2 : fv .f64 t < 4503599627370496) : inn .f64 (Frac t) 0 1 := by
  obtain ⟨w1, w2, w3, _⟩ := whole_val ht h1 h2
  have hs := (sub_rd ht w1).inn isf64_n1 isf64_1 (by grind) (by grind)
  rw [Frac_eq]
  have hc := flt_val hs.1 num64_0
  rw [v64_0] at hc
  split
  · rename_i h
    rw [hc] at h
    have h : fv .f64 (fop .sub .f64 t (Whole t)) < 0 := by simpa using h
    have := hs.2.1
    refine (add_rd hs.1 num64_1).inn isf64_0 isf64_1 ?_ ?_ <;> rw [v64_1] <;> grind
  · rename_i h
    rw [hc] at h
    have h : ¬ fv .f64 (fop .sub .f64 t (Whole t)) < 0 := by simpa using h
    exact ⟨hs.1, by grind, hs.2.2⟩

theorem sin1_inn {f : Nat} (hf : inn .f64 f 0 1) : inn .f64 (sin1 f) 0 (1/2) := by
  unfold sin1
  rw [fge_val hf.1 num64_h, v64_h]
  split
  · rename_i h
    have h : 1/2 ≤ fv .f64 f := by simpa using h
    have := hf.2.2
    refine (sub_rd hf.1 num64_h).inn isf64_0 isf64_h ?_ ?_ <;> rw [v64_h] <;> grind
  · rename_i h
    have h : ¬ 1/2 ≤ fv .f64 f := by simpa using h
    exact ⟨hf.1, hf.2.1, by grind⟩
theorem sin2_inn {f : Nat} (hf : inn .f64 f 0 1) : inn .f64 (sin2 f) 0 (1/4) := by
  have h1 := sin1_inn hf
  unfold sin2
  rw [fgt_val h1.1 num64_q, v64_q]
  split
  · rename_i h
    have h : 1/4 < fv .f64 (sin1 f) := by simpa using h
    have := h1.2.2
    refine (sub_rd num64_h h1.1).inn isf64_0 isf64_q ?_ ?_ <;> rw [v64_h] <;> grind
  · rename_i h
    have h : ¬ 1/4 < fv .f64 (sin1 f) := by simpa using h
    exact ⟨h1.1, h1.2.1, by grind⟩
theorem sinZ_inn {f : Nat} (hf : inn .f64 f 0 1) : inn .f64 (sinZ f) 0 2 := by
  have h1 := sin2_inn hf
  have ht := v64_t
  have a := h1.2.1
  have b := h1.2.2
  have c : fv .f64 (sin2 f) * fv .f64 4618760256179416344 ≤ 1/4 * fv .f64 4618760256179416344 := Rat.mul_le_mul_of_nonneg_right b (by grind)
  have d : 0 ≤ fv .f64 (sin2 f) * fv .f64 4618760256179416344 := Rat.mul_nonneg a (by grind)
  exact (mul_rd h1.1 num64_t).inn isf64_0 isf64_2 d (by grind)
theorem mul_inn {x y : Nat} {A B : Rat} (hx : inn .f64 x 0 A) (hy : inn .f64 y 0 B) (hA : isf .f64 (A * B)) (h0 : 0 ≤ A) : inn .f64 (fop .mul .f64 x y) 0 (A * B) := by
  have a := Rat.mul_le_mul_of_nonneg_right hx.2.2 hy.2.1
  have b := Rat.mul_le_mul_of_nonneg_left hy.2.2 h0
  exact (mul_rd hx.1 hy.1).inn isf64_0 hA (Rat.mul_nonneg hx.2.1 hy.2.1) (Rat.le_trans a b)

theorem den_val (k : Nat) (hk : k < 8) : num .f64 (fofI .f64 (2 * ((k : Int) + 1) * (2 * ((k : Int) + 1) + 1))) ∧ 4 ≤ fv .f64 (fofI .f64 (2 * ((k : Int) + 1) * (2 * ((k : Int) + 1) + 1))) := by
  match k, hk with
  | 0, _ => exact ⟨num_of _ (by decide +kernel), by decide +kernel⟩
  | 1, _ => exact ⟨num_of _ (by decide +kernel), by decide +kernel⟩
  | 2, _ => exact ⟨num_of _ (by decide +kernel), by decide +kernel⟩
  | 3, _ => exact ⟨num_of _ (by decide +kernel), by decide +kernel⟩
  | 4, _ => exact ⟨num_of _ (by decide +kernel), by decide +kernel⟩
  | 5, _ => exact ⟨num_of _ (by decide +kernel), by decide +kernel⟩
  | 6, _ => exact ⟨num_of _ (by decide +kernel), by decide +kernel⟩
  | 7, _ => exact ⟨num_of _ (by decide +kernel), by decide +kernel⟩
  | k + 8, h => omega
theorem sineP_inn {u : Nat} (hu : inn .f64 u 0 4) : ∀ (k p : Nat), k ≤ 8 → inn .f64 p 0 1 → inn .f64 (sineP u k p) 0 1
  | 0, p, _, hp => hp
  | k + 1, p, hk, hp => by
    refine sineP_inn hu k _ (by omega) ?_
    obtain ⟨d1, d2⟩ := den_val k (by omega)
    generalize fofI .f64 (2 * ((k : Int) + 1) * (2 * ((k : Int) + 1) + 1)) = D at *
    have hm := mul_inn hu hp (by rw [Rat.mul_one]; exact isf64_4) (by decide)
    rw [Rat.mul_one] at hm
    have hD : (0 : Rat) < fv .f64 D := by grind
    have hi := Rat.inv_pos.2 hD
    have hc : fv .f64 D * (fv .f64 D)⁻¹ = 1 := Rat.mul_inv_cancel _ (by grind)
    have hq : inn .f64 (fop .quo .f64 (fop .mul .f64 u p) D) 0 1 := by
      refine (quo_rd hm.1 d1 (by grind)).inn isf64_0 isf64_1 ?_ ?_
      · rw [Rat.div_def]; exact Rat.mul_nonneg hm.2.1 (Rat.le_of_lt hi)
      · rw [Rat.div_def]
        have a := Rat.mul_le_mul_of_nonneg_right (Rat.le_trans hm.2.2 d2) (Rat.le_of_lt hi)
        rw [hc] at a; exact a
    have a := hq.2.1
    have b := hq.2.2
    refine (sub_rd num64_1 hq.1).inn isf64_0 isf64_1 ?_ ?_ <;> rw [v64_1] <;> grind
theorem sinO_inn {f : Nat} (hf : inn .f64 f 0 1) : inn .f64 (sinO f) 0 2 := by
  have hz := sinZ_inn hf
  have hu := mul_inn hz hz (by rw [show (2 : Rat) * 2 = 4 by grind]; exact isf64_4) (by decide)
  rw [show (2 : Rat) * 2 = 4 by grind] at hu
  have hp := sineP_inn hu 8 _ (Nat.le_refl _) ⟨num64_1, by rw [v64_1]; decide, by rw [v64_1]; exact Rat.le_refl⟩
  have := mul_inn hz hp (by rw [Rat.mul_one]; exact isf64_2) (by decide)
  rwa [Rat.mul_one] at this

theorem xor_one_mod (y : Nat) : (y ^^^ 1) % 2 = (y + 1) % 2 := by
  have := Nat.xor_mod_two_pow (a := y) (b := 1) (n := 1)
  simp at this
  rw [this]
  rcases Nat.mod_two_eq_zero_or_one y with h | h
  · rw [h]; show 1 = _; omega
  · rw [h]; show 0 = _; omega
theorem neg_val {k : FloatKind} {x : Nat} (hx : num k x) : num k (fneg k x) ∧ fv k (fneg k x) = -fv k x := by
  have hn := num_notnan hx
  obtain ⟨s, m, p, e⟩ := hx
  have hf : fneg k x = Op.negFloat k x := by unfold fneg; rw [hn]; rfl
  have hm := neg_mod k x
  have hd : (Op.negFloat k x / k.format.signWeight % 2 == 1) = !(x / k.format.signWeight % 2 == 1) := by
    unfold Op.negFloat Format.signWeight
    rw [Nat.xor_div_two_pow, Nat.div_self (Nat.two_pow_pos _), xor_one_mod]
    generalize x / 2 ^ (k.format.exponentBits + k.format.fractionBits) = y
    rw [Bool.eq_iff_iff]
    simp
    omega
  have hr : k.format.read (Op.negFloat k x) = .number (!s) m p := by
    unfold Format.read at e ⊢
    simp only [hm, hd] at e ⊢
    split at e
    · rename_i h; rw [if_pos h]; cases e; rfl
    · rename_i h
      rw [if_neg h]
      split at e
      · rename_i h; rw [if_pos h]; cases e; rfl
      · split at e <;> cases e
  rw [hf]
  refine ⟨⟨_, _, _, hr⟩, ?_⟩
  unfold fv
  rw [hr, e]
  exact opp_val s m p
theorem sineF_inn {f : Nat} (hf : inn .f64 f 0 1) : inn .f64 (SineF f) (-2) 2 := by
  have h := sinO_inn hf
  unfold SineF
  split
  · have := neg_val h.1
    have a := h.2.1
    have b := h.2.2
    refine ⟨this.1, ?_, ?_⟩ <;> rw [this.2] <;> grind
  · exact h.mono (by decide) Rat.le_refl
end Go.Proofs.Ytnkfbinppikhkaa
