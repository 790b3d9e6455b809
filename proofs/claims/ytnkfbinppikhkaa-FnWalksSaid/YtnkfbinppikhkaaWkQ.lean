/- Closed walks, in plain words; small differences are short. No condition. -/
import Derived.Test.YtnkfbinppikhkaaWkP
namespace Go.Proofs.Ytnkfbinppikhkaa
open Go.RowKit Ieee
set_option linter.unusedSimpArgs false
theorem f64_m12 : isf .f64 (1/4096) := isf_of 4553139223271571456 (by decide +kernel)
theorem f64_n12 : isf .f64 (-1/4096) := isf_of 13776511260126347264 (by decide +kernel)
theorem f64_m24 : isf .f64 (1/16777216) := isf_of 4499096027743125504 (by decide +kernel)
theorem f64_m23 : isf .f64 (1/8388608) := isf_of 4503599627370496000 (by decide +kernel)
theorem f32_m11 : isf .f32 (1/2048) := isf_of 973078528 (by decide +kernel)
theorem p2_n22 : p2 (2 * -11) = 1/4194304 := by decide +kernel
theorem p2_n11 : p2 (-11) = 1/2048 := by decide +kernel
theorem sq_inn {x : Nat} (h : inn .f32 x (-1/4096) (1/4096)) : inn .f64 (fop .mul .f64 (fcv .f32 .f64 x) (fcv .f32 .f64 x)) 0 (1/16777216) := by
  have c := (conv_rd (k := .f32) (k' := .f64) h.1).inn f64_n12 f64_m12 h.2.1 h.2.2
  have c1 := c.2.1
  have c2 := c.2.2
  refine (mul_rd c.1 c.1).inn isf64_0 f64_m24 ?_ ?_
  all_goals
    generalize fv .f64 (fcv .f32 .f64 x) = v at c1 c2
  · rcases (Rat.le_total : (0 : Rat) ≤ v ∨ v ≤ 0) with h | h
    · exact Rat.mul_nonneg h h
    · have := Rat.mul_nonneg (show (0 : Rat) ≤ -v by grind) (show (0 : Rat) ≤ -v by grind)
      grind
  · have := Rat.mul_nonneg (show (0 : Rat) ≤ 1/4096 - v by grind) (show (0 : Rat) ≤ 1/4096 + v by grind)
    grind
/-- What is small is short. -/
theorem lng_small {x y : Nat} (hx : inn .f32 x (-1/4096) (1/4096)) (hy : inn .f32 y (-1/4096) (1/4096)) : fits .f64 .f32 (fsq (pww x y)) ∧ inn .f32 (lng x y) 0 (1/2048) := by
  have a := sq_inn hx
  have b := sq_inn hy
  have a1 := a.2.1
  have a2 := a.2.2
  have b1 := b.2.1
  have b2 := b.2.2
  have s := (add_rd a.1 b.1).inn isf64_0 f64_m23 (by grind) (by grind)
  have q := fsq_inn s.1 s.2.1 (e := -11) (by rw [p2_n22]; exact Rat.le_trans s.2.2 (by decide +kernel)) (by decide) (by decide)
  rw [p2_n11] at q
  have p5 : p2 5 = 32 := by decide +kernel
  refine ⟨q.fits (E := 5) (by decide) (by decide) (by rw [p5]; decide +kernel) (by rw [p5]; decide +kernel), ?_⟩
  have q1 := q.2.1
  have q2 := q.2.2
  exact (conv_rd (k := .f64) (k' := .f32) q.1).inn isf32_0 f32_m11 q1 q2
/-- The greatest length that the law lets pass. -/
def lim (n : Nat) : Nat := fop .mul .f64 4562254508917369340 (fop .add .f64 4607182418800017408 (fofI .f64 (n : Int)))
theorem isf64_m11 : isf .f64 (1/2048) := isf_of 4557642822898941952 (by decide +kernel)
theorem lim_all : ∀ n : Fin 10, (fin .f64 (lim n.val) && fge .f64 (lim n.val) 4557642822898941952) = true := by decide +kernel
theorem lim1 : fin .f64 4562254508917369340 = true ∧ fge .f64 4562254508917369340 4557642822898941952 = true := by decide +kernel
theorem v64_m11 : num .f64 4557642822898941952 ∧ fv .f64 4557642822898941952 = 1/2048 := isfB_val (by decide +kernel)
theorem not_more {L R : Nat} (h : inn .f32 L 0 (1/2048)) (h1 : fin .f64 R = true) (h2 : fge .f64 R 4557642822898941952 = true) : fgt .f64 (fcv .f32 .f64 L) R = false := by
  have c := (conv_rd (k := .f32) (k' := .f64) h.1).inn isf64_0 isf64_m11 h.2.1 h.2.2
  have nR := (fin_num _).1 h1
  rw [fge_val nR v64_m11.1, v64_m11.2, decide_eq_true_eq] at h2
  rw [fgt_val c.1 nR, decide_eq_false_iff_not]
  have := c.2.2
  intro hx
  grind
theorem fgt_lim {L n : Nat} (h : inn .f32 L 0 (1/2048)) (hn : n ≤ 9) : fgt .f64 (fcv .f32 .f64 L) (lim n) = false := by
  have := lim_all ⟨n, by omega⟩
  simp only [Bool.and_eq_true] at this
  exact not_more h this.1 this.2
theorem fgt_one {L : Nat} (h : inn .f32 L 0 (1/2048)) : fgt .f64 (fcv .f32 .f64 L) 4562254508917369340 = false := not_more h lim1.1 lim1.2
theorem f32_m12 : isf .f32 (1/4096) := isf_g 8 (by decide) (by decide +kernel)
theorem f32_n12 : isf .f32 (-1/4096) := isf_g (-8) (by decide) (by decide +kernel)
/-- A number that is a value differs from it by nothing. -/
theorem same_small {x y : Nat} (hx : num .f32 x) (hy : num .f32 y) (h : fv .f32 x = fv .f32 y) : inn .f32 (fop .sub .f32 x y) (-1/4096) (1/4096) :=
  (sub_rd hx hy).inn f32_n12 f32_m12 (by rw [h]; grind) (by rw [h]; grind)
theorem w_small {n : Nat} {a b : Nat → Int} (h : Mk n a b) {j : Nat} (hj : j < n) : inn .f32 (fop .sub .f32 (wX a b j) (qz (a j))) (-1/4096) (1/4096) ∧ inn .f32 (fop .sub .f32 (wY a b j) (qz (b j))) (-1/4096) (1/4096) := by
  obtain ⟨i1, i2⟩ := w_near h j hj
  have h1 := h.a0 j hj
  have h2 := h.a1 j hj
  have h3 := h.b0 j hj
  have h4 := h.b1 j hj
  have h9 := h.n9
  obtain ⟨m1, m2⟩ := qz_val (z := a j) (by omega) (by omega)
  obtain ⟨m3, m4⟩ := qz_val (z := b j) (by omega) (by omega)
  have hj8 : (j : Rat) ≤ 8 := by
    have : (j : Rat) ≤ ((8 : Nat) : Rat) := Rat.natCast_le_natCast.2 (by omega)
    simpa using this
  have u1 := i1.2.1
  have u2 := i1.2.2
  have v1 := i2.2.1
  have v2 := i2.2.2
  exact ⟨(sub_rd i1.1 m1).inn f32_n12 f32_m12 (by rw [m2]; grind) (by rw [m2]; grind), (sub_rd i2.1 m3).inn f32_n12 f32_m12 (by rw [m4]; grind) (by rw [m4]; grind)⟩
/-- How long a walk is up to a mark. -/
def pS (a b : Nat → Int) : Nat → Nat
  | 0 => 0
  | j + 1 => fop .add .f32 (pS a b j) (lL a b j)
theorem v0 : num .f32 0 ∧ fv .f32 0 = 0 := isfB_val (by decide +kernel)
theorem pS_step {n : Nat} {a b : Nat → Int} (h : Mk n a b) : ∀ j, j < n → inn .f32 (pS a b j) 0 (8 * (j : Rat)) ∧ (j + 1 < n → fv .f32 (pS a b j) ≤ fv .f32 (pS a b (j + 1)) ∧ (1/8 : Rat) ≤ fv .f32 (pS a b (j + 1)))
  | j, hj => by
    have base : inn .f32 (pS a b j) 0 (8 * (j : Rat)) := by
      match j, hj with
      | 0, _ => exact ⟨v0.1, by unfold pS; rw [v0.2]; exact Rat.le_refl, by unfold pS; rw [v0.2]; simp⟩
      | j + 1, hj =>
        obtain ⟨i, -⟩ := pS_step h j (by omega)
        obtain ⟨s1, s2, s3, s4⟩ := h.step hj
        obtain ⟨-, k⟩ := lg_ok s1 s2 s3 s4
        have k1 := k.l0
        have k2 := k.l1
        have i1 := i.2.1
        have i2 := i.2.2
        have := h.n9
        exact (add_rd i.1 k.fl).inn isf32_0 (isf_g (8 * 32768 * ((j + 1 : Nat) : Int)) (by omega) (by push_cast; grind)) (by grind) (by push_cast; grind)
    refine ⟨base, fun hj1 => ?_⟩
    obtain ⟨s1, s2, s3, s4⟩ := h.step hj1
    obtain ⟨-, k⟩ := lg_ok s1 s2 s3 s4
    have k1 := k.l0
    have k2 := k.l1
    have i1 := base.2.1
    have i2 := base.2.2
    have h9 := h.n9
    have hj8 : (j : Rat) ≤ 8 := by
      have : (j : Rat) ≤ ((8 : Nat) : Rat) := Rat.natCast_le_natCast.2 (by omega)
      simpa using this
    have m6 : p2 6 = 64 := by decide +kernel
    have m7 : p2 6 ≤ p2 (maxE FloatKind.f32.format) := p2_mono (by decide)
    have top : isf .f32 (8 * ((j + 1 : Nat) : Rat)) := isf_g (8 * 32768 * ((j + 1 : Nat) : Int)) (by omega) (by push_cast; grind)
    have a1 := (add_rd base.1 k.fl).inn (isf_fv base.1 (by rw [m6] at m7; grind) (by rw [m6] at m7; grind)) top (by grind) (by push_cast; grind)
    have a2 := (add_rd base.1 k.fl).inn (isf_g 4096 (by decide) (by decide +kernel) : isf .f32 (1/8)) top (by grind) (by push_cast; grind)
    exact ⟨a1.2.1, a2.2.1⟩
termination_by j => j
theorem pS_mono {n : Nat} {a b : Nat → Int} (h : Mk n a b) {j : Nat} (hj : j < n) : ∀ k, j + k < n → fv .f32 (pS a b j) ≤ fv .f32 (pS a b (j + k))
  | 0, _ => Rat.le_refl
  | k + 1, hk => Rat.le_trans (pS_mono h hj k (by omega)) ((pS_step h (j + k) (by omega)).2 (by omega)).1
/-- The share of a walk up to a mark; a closed walk. -/
def shr (a b : Nat → Int) (n j : Nat) : Nat := fop .quo .f32 (pS a b j) (pS a b (n - 1))
def cW (a b : Nat → Int) (n d z j : Nat) : Nat := fop .add .f32 z (fop .mul .f32 d (shr a b n j))
theorem shr_ok {n : Nat} {a b : Nat → Int} (h : Mk n a b) {j : Nat} (hj : j < n) : inn .f32 (shr a b n j) 0 1 ∧ fv .f32 (shr a b n 0) = 0 ∧ fv .f32 (shr a b n (n - 1)) = 1 := by
  have h2 := h.n2
  have hp : (1/8 : Rat) ≤ fv .f32 (pS a b (n - 1)) := by
    have := ((pS_step h (n - 2) (by omega)).2 (by omega)).2
    rwa [show n - 2 + 1 = n - 1 by omega] at this
  have hpos : (0 : Rat) < fv .f32 (pS a b (n - 1)) := by grind
  have hne : fv .f32 (pS a b (n - 1)) ≠ 0 := by grind
  have inv0 : 0 ≤ (fv .f32 (pS a b (n - 1)))⁻¹ := Rat.le_of_lt (Rat.inv_pos.2 hpos)
  have inv1 : fv .f32 (pS a b (n - 1)) * (fv .f32 (pS a b (n - 1)))⁻¹ = 1 := Rat.mul_inv_cancel _ hne
  have nA := (pS_step h (n - 1) (by omega)).1.1
  refine ⟨?_, ?_, ?_⟩
  · obtain ⟨i, -⟩ := pS_step h j hj
    have i1 := i.2.1
    have i2 : fv .f32 (pS a b j) ≤ fv .f32 (pS a b (n - 1)) := by
      have := pS_mono h hj (n - 1 - j) (by omega)
      rwa [show j + (n - 1 - j) = n - 1 by omega] at this
    have m := Rat.mul_le_mul_of_nonneg_right i2 inv0
    rw [inv1] at m
    have e := quo_rd i.1 nA hne
    rw [Rat.div_def] at e
    exact e.inn isf32_0 isf32_1 (Rat.mul_nonneg i1 inv0) m
  · have e := quo_rd (pS_step h 0 (by omega)).1.1 nA hne
    have z : fv .f32 (pS a b 0) = 0 := v0.2
    rw [z, Rat.div_def, Rat.zero_mul] at e
    exact (e.same isf32_0).2
  · have e := quo_rd nA nA hne
    rw [Rat.div_def, inv1] at e
    exact (e.same isf32_1).2
/-- A closed walk's number is a number. -/
theorem cW_num {n : Nat} {a b : Nat → Int} (h : Mk n a b) {d z : Nat} {m c : Int} (hd : num .f32 d) (vd : fv .f32 d = (m : Rat) / 4) (hm : m.natAbs ≤ 52) (hz : num .f32 z) (vz : fv .f32 z = (c : Rat) / 4) (hc : c.natAbs ≤ 36) {j : Nat} (hj : j < n) : num .f32 (cW a b n d z j) := by
  obtain ⟨s, -, -⟩ := shr_ok h hj
  have s1 := s.2.1
  have s2 := s.2.2
  have m1 : (m : Rat) ≤ 52 := by have : (m : Rat) ≤ ((52 : Int) : Rat) := Rat.intCast_le_intCast.2 (by omega); simpa using this
  have m2 : (-52 : Rat) ≤ (m : Rat) := by have : ((-52 : Int) : Rat) ≤ (m : Rat) := Rat.intCast_le_intCast.2 (by omega); simpa using this
  have c1 : (c : Rat) ≤ 36 := by have : (c : Rat) ≤ ((36 : Int) : Rat) := Rat.intCast_le_intCast.2 (by omega); simpa using this
  have c2 : (-36 : Rat) ≤ (c : Rat) := by have : ((-36 : Int) : Rat) ≤ (c : Rat) := Rat.intCast_le_intCast.2 (by omega); simpa using this
  have k := (mul_rd hd s.1).inn (isf_g (-524288) (by decide) (by decide +kernel) : isf .f32 (-16)) (isf_g 524288 (by decide) (by decide +kernel) : isf .f32 16)
    (by rw [vd]; have := Rat.mul_nonneg (show (0 : Rat) ≤ (m : Rat) / 4 + 16 by grind) s1; grind)
    (by rw [vd]; have := Rat.mul_nonneg (show (0 : Rat) ≤ 16 - (m : Rat) / 4 by grind) s1; grind)
  have k1 := k.2.1
  have k2 := k.2.2
  exact ((add_rd hz k.1).inn (isf_g (-1048576) (by decide) (by decide +kernel) : isf .f32 (-32)) (isf_g 1048576 (by decide) (by decide +kernel) : isf .f32 32) (by rw [vz]; grind) (by rw [vz]; grind)).1
/-- .. where nothing is to move. -/
theorem cW_zero {n : Nat} {a b : Nat → Int} (h : Mk n a b) {d z : Nat} {c : Int} (hd : num .f32 d) (hz : num .f32 z) (vz : fv .f32 z = (c : Rat) / 4) (hc : c.natAbs ≤ 36) {j : Nat} (hj : j < n) (h0 : fv .f32 d = 0 ∨ j = 0) : fv .f32 (cW a b n d z j) = fv .f32 z := by
  obtain ⟨s, t, -⟩ := shr_ok h hj
  have e : fv .f32 d * fv .f32 (shr a b n j) = 0 := by
    rcases h0 with h0 | rfl
    · rw [h0, Rat.zero_mul]
    · rw [t, Rat.mul_zero]
  have k := mul_rd hd s.1
  rw [e] at k
  obtain ⟨k1, k2⟩ := k.same isf32_0
  have q := add_rd hz k1
  rw [k2, Rat.add_zero] at q
  exact (q.same (isf_g (c * 8192) (by omega) (by rw [vz]; push_cast; grind))).2
theorem cW_last {n : Nat} {a b : Nat → Int} (h : Mk n a b) {d z : Nat} {m c : Int} (hd : num .f32 d) (vd : fv .f32 d = (m : Rat) / 4) (hm : m.natAbs ≤ 52) (hz : num .f32 z) (vz : fv .f32 z = (c : Rat) / 4) (hc : c.natAbs ≤ 36) : fv .f32 (cW a b n d z (n - 1)) = ((c + m : Int) : Rat) / 4 := by
  have h2 := h.n2
  obtain ⟨s, -, t⟩ := shr_ok h (j := n - 1) (by omega)
  have k := mul_rd hd s.1
  rw [t, Rat.mul_one] at k
  obtain ⟨k1, k2⟩ := k.same (isf_g (m * 8192) (by omega) (by rw [vd]; push_cast; grind))
  have q := add_rd hz k1
  rw [k2, vd, vz] at q
  have := (q.same (isf_g ((c + m) * 8192) (by omega) (by push_cast; grind))).2
  unfold cW
  rw [this]
  push_cast
  grind
end Go.Proofs.Ytnkfbinppikhkaa
