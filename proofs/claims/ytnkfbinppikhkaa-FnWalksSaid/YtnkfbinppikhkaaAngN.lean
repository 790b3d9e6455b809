/- Bounds of roots, of sums, products and quotients by powers of two, and of the angle of a point. No condition. -/
import Derived.Test.YtnkfbinppikhkaaWayN
namespace Go.Proofs.Ytnkfbinppikhkaa
open Ieee
set_option linter.unusedSimpArgs false

/-! Roots. -/
theorem rootFrom_sq (n : Nat) : ∀ todo r, r * r ≤ n → Datum.rootFrom n todo r * Datum.rootFrom n todo r ≤ n
  | 0, r, h => h
  | t + 1, r, h => by
    unfold Datum.rootFrom
    dsimp only
    split
    · rename_i h'; exact rootFrom_sq n t _ h'
    · exact rootFrom_sq n t _ h
theorem root_mb {m more r : Nat} {i e : Int} (hp : (i - more) % 2 = 0) (hr : r * r ≤ m <<< more) (h : mb m i (2 * e)) : mb (2 * r + (r * r != m <<< more).toNat) ((i - more) / 2 - 1) e := by
  rw [Nat.shiftLeft_eq] at *
  rcases h with h | ⟨h1, h2⟩
  · subst h
    left
    have : r = 0 := by
      rcases Nat.eq_zero_or_pos r with h | h
      · exact h
      · have := Nat.mul_pos h h; omega
    subst this; simp
  · right
    obtain ⟨q, hq⟩ : ∃ q : Int, i - more = 2 * q := ⟨(i - more) / 2, by omega⟩
    have hq2 : (i - more) / 2 = q := by omega
    rw [hq2]
    have hqe : q ≤ e := by omega
    have hn : m * 2 ^ more ≤ 2 ^ (e - q).toNat * 2 ^ (e - q).toNat := by
      rw [← Nat.pow_add]
      refine Nat.le_trans (Nat.mul_le_mul_right _ h2) ?_
      rw [← Nat.pow_add]
      exact Nat.pow_le_pow_right (by decide) (by omega)
    have e1 : (e - (q - 1)).toNat = (e - q).toNat + 1 := by omega
    rw [e1, Nat.pow_succ]
    generalize 2 ^ (e - q).toNat = K at *
    generalize m * 2 ^ more = n at *
    refine ⟨by omega, ?_⟩
    rcases Nat.lt_trichotomy r K with hlt | heq | hgt
    · have : ∀ b : Bool, b.toNat ≤ 1 := fun b => by cases b <;> decide
      have := this (r * r != n)
      omega
    · subst heq
      have : (r * r != n) = false := by simp; omega
      rw [this]
      simp; omega
    · have h3 : K * K < r * r := Nat.mul_lt_mul'' hgt hgt
      omega

theorem isf_p2 {k : FloatKind} {e : Int} (he1 : k.format.leastPlace ≤ e) (he2 : e ≤ maxE k.format) : isf k (p2 e) := by
  obtain ⟨b, h1, h2⟩ := p2_float k e he1 he2 false
  refine ⟨⟨b, h1, by simpa using h2⟩, ?_, p2_mono he2⟩
  have a := p2_pos e
  have b := p2_pos (maxE k.format)
  grind
theorem isf_np2 {k : FloatKind} {e : Int} (he1 : k.format.leastPlace ≤ e) (he2 : e ≤ maxE k.format) : isf k (-p2 e) := by
  obtain ⟨b, h1, h2⟩ := p2_float k e he1 he2 true
  have a := p2_pos e
  have c := p2_pos (maxE k.format)
  have d := p2_mono he2
  exact ⟨⟨b, h1, by simpa using h2⟩, by grind, by grind⟩

theorem fsq_inn {x : Nat} (hx : num .f64 x) (h0 : 0 ≤ fv .f64 x) {e : Int} (h : fv .f64 x ≤ p2 (2 * e)) (he1 : FloatKind.f64.format.leastPlace ≤ e) (he2 : e ≤ maxE FloatKind.f64.format) : inn .f64 (fsq x) 0 (p2 e) := by
  obtain ⟨s, m, i, er⟩ := hx
  unfold fv at h0 h
  rw [er] at h0 h
  have hp := p2_pos e
  unfold fsq Format.sqrt
  rw [er]
  unfold Datum.root
  dsimp only
  by_cases hm : m = 0
  · subst hm
    rw [if_pos rfl]
    show inn .f64 (FloatKind.f64.format.nearest s 0 i) 0 (p2 e)
    have hr := nearest_zero .f64 s i
    have hv : fv .f64 (FloatKind.f64.format.nearest s 0 i) = 0 := by unfold fv; rw [hr]; cases s <;> simp [dval]
    exact ⟨⟨_, _, _, hr⟩, by rw [hv]; exact Rat.le_refl, by rw [hv]; exact Rat.le_of_lt hp⟩
  · rw [if_neg hm]
    cases s
    · rw [dval_pos] at h
      rw [if_neg (by decide)]
      generalize hmore : 2 * (FloatKind.f64.format.fractionBits + 2) - m.log2 + ((i - ((2 * (FloatKind.f64.format.fractionBits + 2) - m.log2 : Nat) : Int)) % 2).toNat = more
      have hpar : (i - (more : Int)) % 2 = 0 := by omega
      have hr := rootFrom_sq (m <<< more) ((m <<< more).log2 / 2 + 1) 0 (Nat.zero_le _)
      generalize Datum.rootFrom (m <<< more) ((m <<< more).log2 / 2 + 1) 0 = r at *
      have hmb := root_mb hpar hr ((mb_iff m i (2 * e)).2 h)
      show inn .f64 (FloatKind.f64.format.nearest false _ _) 0 (p2 e)
      exact (Rd.exact (k := .f64) (dval_pos _ _)).inn isf64_0 (isf_p2 he1 he2) (sgn_nonneg _ _) ((mb_iff _ _ _).1 hmb)
    · exfalso
      rw [dval_neg] at h0
      have a : (0 : Rat) < m := by exact_mod_cast Nat.pos_of_ne_zero hm
      have b := Rat.mul_pos a (p2_pos i)
      grind

/-! Numbers of absolute value at most 2^e. -/
def sym (k : FloatKind) (x : Nat) (e : Int) : Prop := inn k x (-p2 e) (p2 e)
theorem sym.mono {k : FloatKind} {x : Nat} {e f : Int} (h : sym k x e) (hf : e ≤ f) : sym k x f := by
  have := p2_mono hf
  exact inn.mono h (by grind) this
theorem p2_succ (e : Int) : p2 (e + 1) = 2 * p2 e := by
  rw [p2_add, show p2 1 = 2 by decide +kernel]; grind
theorem lp_le0 (k : FloatKind) : k.format.leastPlace ≤ 0 := by cases k <;> decide
theorem sym_add {k : FloatKind} {x y : Nat} {e : Int} (hx : sym k x e) (hy : sym k y e) (h0 : 0 ≤ e) (h : e + 1 ≤ maxE k.format) : sym k (fop .add k x y) (e + 1) := by
  have hl := lp_le0 k
  have a := hx.2.1; have b := hx.2.2; have c := hy.2.1; have d := hy.2.2
  have := p2_succ e
  exact (add_rd hx.1 hy.1).inn (isf_np2 (by omega) h) (isf_p2 (by omega) h) (by grind) (by grind)
theorem sym_sub {k : FloatKind} {x y : Nat} {e : Int} (hx : sym k x e) (hy : sym k y e) (h0 : 0 ≤ e) (h : e + 1 ≤ maxE k.format) : sym k (fop .sub k x y) (e + 1) := by
  have hl := lp_le0 k
  have a := hx.2.1; have b := hx.2.2; have c := hy.2.1; have d := hy.2.2
  have := p2_succ e
  exact (sub_rd hx.1 hy.1).inn (isf_np2 (by omega) h) (isf_p2 (by omega) h) (by grind) (by grind)
theorem abs_mul {a b A B : Rat} (h1 : -A ≤ a) (h2 : a ≤ A) (h3 : -B ≤ b) (h4 : b ≤ B) : -(A * B) ≤ a * b ∧ a * b ≤ A * B := by
  have hA : 0 ≤ A := by grind
  have hB : 0 ≤ B := by grind
  have p1 := Rat.mul_nonneg (show 0 ≤ A - a by grind) (show 0 ≤ B + b by grind)
  have p2 := Rat.mul_nonneg (show 0 ≤ A + a by grind) (show 0 ≤ B - b by grind)
  have p3 := Rat.mul_nonneg (show 0 ≤ A - a by grind) (show 0 ≤ B - b by grind)
  have p4 := Rat.mul_nonneg (show 0 ≤ A + a by grind) (show 0 ≤ B + b by grind)
  constructor <;> grind
theorem sym_mul {k : FloatKind} {x y : Nat} {e f : Int} (hx : sym k x e) (hy : sym k y f) (h0 : 0 ≤ e + f) (h : e + f ≤ maxE k.format) : sym k (fop .mul k x y) (e + f) := by
  have hl := lp_le0 k
  have := abs_mul hx.2.1 hx.2.2 hy.2.1 hy.2.2
  rw [← p2_add] at this
  exact (mul_rd hx.1 hy.1).inn (isf_np2 (by omega) h) (isf_p2 (by omega) h) this.1 this.2
theorem quo_bound {a b A : Rat} (h1 : -A ≤ a) (h2 : a ≤ A) (h3 : 1 ≤ b) : -A ≤ a / b ∧ a / b ≤ A := by
  have hb : (0 : Rat) < b := by grind
  have hi := Rat.inv_pos.2 hb
  have hc : b * b⁻¹ = 1 := Rat.mul_inv_cancel _ (by grind)
  have hA : 0 ≤ A := by grind
  rw [Rat.div_def]
  have p1 := Rat.mul_nonneg (show 0 ≤ A + a by grind) (Rat.le_of_lt hi)
  have p2 := Rat.mul_nonneg (show 0 ≤ A - a by grind) (Rat.le_of_lt hi)
  have p3 := Rat.mul_nonneg (Rat.mul_nonneg hA (show 0 ≤ b - 1 by grind)) (Rat.le_of_lt hi)
  have e1 : A * (b - 1) * b⁻¹ = A * (b * b⁻¹) - A * b⁻¹ := by grind
  rw [e1, hc] at p3
  constructor <;> grind
theorem sym_quo {k : FloatKind} {x y : Nat} {e : Int} (hx : sym k x e) (hy : num k y) (h1 : 1 ≤ fv k y) (h0 : 0 ≤ e) (h : e ≤ maxE k.format) : sym k (fop .quo k x y) e := by
  have hl := lp_le0 k
  have := quo_bound hx.2.1 hx.2.2 h1
  exact (quo_rd hx.1 hy (by grind)).inn (isf_np2 (by omega) h) (isf_p2 (by omega) h) this.1 this.2
theorem sym_neg {k : FloatKind} {x : Nat} {e : Int} (hx : sym k x e) : sym k (fneg k x) e := by
  obtain ⟨n, v⟩ := neg_val hx.1
  have a := hx.2.1; have b := hx.2.2
  exact ⟨n, by rw [v]; grind, by rw [v]; grind⟩
theorem sym.fits {x : Nat} {e : Int} (h : sym .f64 x e) (h0 : 0 ≤ e) (h1 : e ≤ 100) : fits .f64 .f32 x :=
  inn.fits h (E := e) (by have := lp_le0 .f32; omega) (Int.le_trans h1 (by decide)) Rat.le_refl Rat.le_refl

/-! The angle of a point. -/
theorem p2_0 : p2 0 = 1 := p2_zero
theorem p2_1 : p2 1 = 2 := by decide +kernel
theorem p2_2 : p2 2 = 4 := by decide +kernel
def Rt (t : Nat) : Nat := fop .quo .f64 t (fop .add .f64 4607182418800017408 (fsq (fop .add .f64 4607182418800017408 (fop .mul .f64 t t))))
theorem quo01 {x y : Nat} (hx : inn .f64 x 0 1) (hy : num .f64 y) (h1 : 1 ≤ fv .f64 y) : inn .f64 (fop .quo .f64 x y) 0 1 := by
  have hD : (0 : Rat) < fv .f64 y := by grind
  have hi := Rat.inv_pos.2 hD
  have hq := quo_bound (A := 1) (by have := hx.2.1; grind) hx.2.2 h1
  refine (quo_rd hx.1 hy (by grind)).inn isf64_0 isf64_1 ?_ hq.2
  rw [Rat.div_def]; exact Rat.mul_nonneg hx.2.1 (Rat.le_of_lt hi)
theorem rt_inn {t : Nat} (ht : inn .f64 t 0 1) : inn .f64 (Rt t) 0 1 := by
  have htt := mul_inn ht ht (by rw [Rat.mul_one]; exact isf64_1) (by decide)
  rw [Rat.mul_one] at htt
  have a1 : inn .f64 (fop .add .f64 4607182418800017408 (fop .mul .f64 t t)) 1 2 := by
    have a := htt.2.1; have b := htt.2.2
    refine (add_rd num64_1 htt.1).inn isf64_1 isf64_2 ?_ ?_ <;> rw [v64_1] <;> grind
  have s1 := fsq_inn a1.1 (by have := a1.2.1; grind) (e := 1) (by rw [show (2 * 1 : Int) = 2 from rfl, p2_2]; have := a1.2.2; grind) (by decide) (by decide)
  rw [p2_1] at s1
  have a2 : inn .f64 (fop .add .f64 4607182418800017408 (fsq (fop .add .f64 4607182418800017408 (fop .mul .f64 t t)))) 1 4 := by
    have a := s1.2.1; have b := s1.2.2
    refine (add_rd num64_1 s1.1).inn isf64_1 isf64_4 ?_ ?_ <;> rw [v64_1] <;> grind
  exact quo01 ht a2.1 a2.2.1

def angT (a b : Nat) : Nat := if fgt .f64 a b then fop .quo .f64 b a else fop .quo .f64 a b
theorem ratio01 {a b : Rat} (ha : 0 ≤ a) (hab : a ≤ b) (hb : 0 < b) : 0 ≤ a / b ∧ a / b ≤ 1 := by
  have hi := Rat.inv_pos.2 hb
  have hc : b * b⁻¹ = 1 := Rat.mul_inv_cancel _ (by grind)
  rw [Rat.div_def]
  refine ⟨Rat.mul_nonneg ha (Rat.le_of_lt hi), ?_⟩
  have := Rat.mul_le_mul_of_nonneg_right hab (Rat.le_of_lt hi)
  rwa [hc] at this
theorem angT_inn {a b : Nat} (ha : num .f64 a) (hb : num .f64 b) (a0 : 0 ≤ fv .f64 a) (b0 : 0 ≤ fv .f64 b) (h : ¬(fv .f64 a = 0 ∧ fv .f64 b = 0)) : inn .f64 (angT a b) 0 1 := by
  unfold angT
  rw [fgt_val ha hb]
  split
  · rename_i c
    have c : fv .f64 b < fv .f64 a := by simpa using c
    obtain ⟨x, y⟩ := ratio01 b0 (Rat.le_of_lt c) (by grind)
    exact (quo_rd hb ha (by grind)).inn isf64_0 isf64_1 x y
  · rename_i c
    have c : ¬ fv .f64 b < fv .f64 a := by simpa using c
    obtain ⟨x, y⟩ := ratio01 a0 (by grind) (by grind : (0 : Rat) < fv .f64 b)
    exact (quo_rd ha hb (by grind)).inn isf64_0 isf64_1 x y

/-- The polynomial of the angle, k steps before its end. -/
def angS (u p D : Nat) : Nat := fop .sub .f64 (fop .quo .f64 4607182418800017408 D) (fop .mul .f64 u p)
def iterS (f : Nat → Nat → Nat) : Nat → Nat → Nat
  | 0, p => p
  | k + 1, p => iterS f k (f k p)
theorem iterS_zero (f : Nat → Nat → Nat) (p : Nat) : iterS f 0 p = p := rfl
theorem iterS_succ (f : Nat → Nat → Nat) (k p : Nat) : iterS f (k + 1) p = iterS f k (f k p) := rfl
def angP (u : Nat) (k p : Nat) : Nat := iterS (fun k p => angS u p (fofI .f64 (2 * (k : Int) + 1))) k p
theorem angP_zero (u p : Nat) : angP u 0 p = p := by unfold angP; rw [iterS_zero]
theorem odd_val (k : Nat) (hk : k < 8) : num .f64 (fofI .f64 (2 * (k : Int) + 1)) ∧ 1 ≤ fv .f64 (fofI .f64 (2 * (k : Int) + 1)) := by
  match k, hk with
  | 0, _ => exact ⟨num_of _ (by decide +kernel), by decide +kernel⟩
  | 1, _ => exact ⟨num_of _ (by decide +kernel), by decide +kernel⟩
  | 2, _ => exact ⟨num_of _ (by decide +kernel), by decide +kernel⟩
  | 3, _ => exact ⟨num_of _ (by decide +kernel), by decide +kernel⟩
  | 4, _ => exact ⟨num_of _ (by decide +kernel), by decide +kernel⟩
  | 5, _ => exact ⟨num_of _ (by decide +kernel), by decide +kernel⟩
  | 6, _ => exact ⟨num_of _ (by decide +kernel), by decide +kernel⟩
  | 7, _ => exact ⟨num_of _ (by decide +kernel), by decide +kernel⟩
  | k + 8, h => omega
theorem max64 : (20 : Int) ≤ maxE FloatKind.f64.format := by decide
theorem sym_of (b : Nat) (e : Int) (h : (match FloatKind.f64.format.read b with | .number .. => true | _ => false) = true) (h1 : -p2 e ≤ fv .f64 b) (h2 : fv .f64 b ≤ p2 e) : sym .f64 b e := ⟨num_of b h, h1, h2⟩
theorem sym1 : sym .f64 4607182418800017408 0 := sym_of _ _ (by decide +kernel) (by decide +kernel) (by decide +kernel)
theorem angP_succ (u k p : Nat) : angP u (k + 1) p = angP u k (angS u p (fofI .f64 (2 * (k : Int) + 1))) := by unfold angP; rw [iterS_succ]
theorem angP_step {u D p : Nat} {e : Int} (hu : sym .f64 u 0) (d1 : num .f64 D) (d2 : 1 ≤ fv .f64 D) (he : 0 ≤ e) (h8 : e + 1 ≤ 20) (hp : sym .f64 p e) : sym .f64 (angS u p D) (e + 1) := by
  have hm := max64
  have h1 : sym .f64 (fop .quo .f64 4607182418800017408 D) e := (sym_quo sym1 d1 d2 (by omega) (by omega)).mono he
  have h2 : sym .f64 (fop .mul .f64 u p) e := (sym_mul hu hp (by omega) (by omega)).mono (by omega)
  exact sym_sub h1 h2 he (by omega)
theorem angP_sym {u : Nat} (hu : sym .f64 u 0) (k : Nat) : ∀ (p : Nat) (e : Int), k ≤ 8 → 0 ≤ e → e + k ≤ 20 → sym .f64 p e → sym .f64 (angP u k p) (e + k) := by
  induction k with
  | zero => intro p e _ _ _ hp; rw [angP_zero]; exact hp.mono (by omega)
  | succ k ih =>
    intro p e hk he h8 hp
    obtain ⟨d1, d2⟩ := odd_val k (by omega)
    rw [angP_succ]
    exact (ih _ (e + 1) (by omega) (by omega) (by omega) (angP_step hu d1 d2 he (by omega) hp)).mono (by omega)

def angO (a b : Nat) : Nat := fop .quo .f64 (fop .mul .f64 4620693217682128896 (fop .mul .f64 (Rt (Rt (Rt (angT a b)))) (angP (fop .mul .f64 (Rt (Rt (Rt (angT a b)))) (Rt (Rt (Rt (angT a b))))) 8 0))) 4618760256179416344
def ang1 (a b : Nat) : Nat := if fgt .f64 a b then fop .sub .f64 4598175219545276416 (angO a b) else angO a b
def ang2 (a b : Nat) (xn : Bool) : Nat := if xn then fop .sub .f64 4602678819172646912 (ang1 a b) else ang1 a b
def ang3 (a b : Nat) (xn yn : Bool) : Nat := if yn then fneg .f64 (ang2 a b xn) else ang2 a b xn
theorem sym_01 {x : Nat} (h : inn .f64 x 0 1) : sym .f64 x 0 := inn.mono h (by rw [p2_0]; decide) (by rw [p2_0]; exact Rat.le_refl)
theorem ang3_sym {a b : Nat} (xn yn : Bool) (h : inn .f64 (angT a b) 0 1) : sym .f64 (ang3 a b xn yn) 13 := by
  have hm := max64
  have ht := sym_01 (rt_inn (rt_inn (rt_inn h)))
  have hu : sym .f64 (fop .mul .f64 (Rt (Rt (Rt (angT a b)))) (Rt (Rt (Rt (angT a b))))) 0 := (sym_mul ht ht (by omega) (by omega)).mono (by omega)
  have hp : sym .f64 (angP (fop .mul .f64 (Rt (Rt (Rt (angT a b)))) (Rt (Rt (Rt (angT a b))))) 8 0) 8 := (angP_sym hu 8 0 0 (by omega) (by omega) (by omega) (sym_of _ _ (by decide +kernel) (by decide +kernel) (by decide +kernel))).mono (by omega)
  have h8 : sym .f64 4620693217682128896 3 := sym_of _ _ (by decide +kernel) (by decide +kernel) (by decide +kernel)
  have h1 : sym .f64 (angO a b) 11 := by
    unfold angO
    have : sym .f64 (fop .mul .f64 4620693217682128896 (fop .mul .f64 (Rt (Rt (Rt (angT a b)))) (angP (fop .mul .f64 (Rt (Rt (Rt (angT a b)))) (Rt (Rt (Rt (angT a b))))) 8 0))) 11 := (sym_mul h8 (sym_mul ht hp (by omega) (by omega)) (by omega) (by omega)).mono (by omega)
    exact sym_quo this num64_t (by have := v64_t; grind) (by omega) (by omega)
  have hq : sym .f64 4598175219545276416 11 := sym_of _ _ (by decide +kernel) (by decide +kernel) (by decide +kernel)
  have hh : sym .f64 4602678819172646912 12 := sym_of _ _ (by decide +kernel) (by decide +kernel) (by decide +kernel)
  have h2 : sym .f64 (ang1 a b) 12 := by
    unfold ang1
    split
    · exact (sym_sub hq h1 (by omega) (by omega)).mono (by omega)
    · exact h1.mono (by omega)
  have h3 : sym .f64 (ang2 a b xn) 13 := by
    unfold ang2
    split
    · exact (sym_sub hh h2 (by omega) (by omega)).mono (by omega)
    · exact h2.mono (by omega)
  unfold ang3
  split
  · exact sym_neg h3
  · exact h3

/-- The angle of a point in turns. -/
def wid (x : Nat) : Nat := fcv .f32 .f64 x
def AngF (y x : Nat) : Nat :=
  if fin .f32 x && fin .f32 y then
    if feq .f32 x 0 && feq .f32 y 0 then 0 else fcv .f64 .f32 (ang3 (fabs (wid y)) (fabs (wid x)) (flt .f32 x 0) (flt .f32 y 0))
  else qn .f32
theorem v32_0 : fv .f32 0 = 0 := by decide +kernel
theorem num32_0 : num .f32 0 := num_of _ (by decide +kernel)
theorem ang_inn {x y : Nat} (hx : num .f32 x) (hy : num .f32 y) (h : (feq .f32 x 0 && feq .f32 y 0) = false) : inn .f64 (angT (fabs (wid y)) (fabs (wid x))) 0 1 := by
  obtain ⟨x1, x2⟩ := wide_num hx
  obtain ⟨y1, y2⟩ := wide_num hy
  obtain ⟨x3, x4⟩ := abs_val x1
  obtain ⟨y3, y4⟩ := abs_val y1
  rw [feq_val hx num32_0, feq_val hy num32_0, v32_0] at h
  simp only [Bool.and_eq_false_iff, decide_eq_false_iff_not] at h
  unfold wid
  refine angT_inn y3 x3 ?_ ?_ ?_
  · rw [y4]; split <;> grind
  · rw [x4]; split <;> grind
  · rw [x4, y4, x2, y2]
    rcases h with h | h
    · split <;> split <;> grind
    · split <;> split <;> grind
theorem ang_fits {x y : Nat} (hx : num .f32 x) (hy : num .f32 y) (h : (feq .f32 x 0 && feq .f32 y 0) = false) (xn yn : Bool) : fits .f64 .f32 (ang3 (fabs (wid y)) (fabs (wid x)) xn yn) :=
  (ang3_sym xn yn (ang_inn hx hy h)).fits (by omega) (by omega)
theorem flt_wide {x : Nat} (hx : num .f32 x) : flt .f64 (wid x) 0 = flt .f32 x 0 := by
  obtain ⟨h1, h2⟩ := wide_num hx
  unfold wid
  rw [flt_val h1 num64_0, flt_val hx num32_0, h2, v64_0, v32_0]
theorem feq_wide {x : Nat} (hx : num .f32 x) : feq .f64 (wid x) 0 = feq .f32 x 0 := by
  obtain ⟨h1, h2⟩ := wide_num hx
  unfold wid
  rw [feq_val h1 num64_0, feq_val hx num32_0, h2, v64_0, v32_0]
theorem angF_num {x y : Nat} (hx : num .f32 x) (hy : num .f32 y) : num .f32 (AngF y x) := by
  unfold AngF
  rw [(fin_num x).2 hx, (fin_num y).2 hy]
  cases h : (feq .f32 x 0 && feq .f32 y 0)
  · have hs := ang3_sym (flt .f32 x 0) (flt .f32 y 0) (ang_inn hx hy h)
    exact ((conv_rd hs.1).inn (isf_np2 (by decide) (by decide)) (isf_p2 (by decide) (by decide)) hs.2.1 hs.2.2).1
  · exact num32_0

/-- The root of a number. -/
def Rot (x : Nat) : Nat := fcv .f64 .f32 (fsq (fcv .f32 .f64 x))
theorem fsq_neg {x : Nat} (hx : num .f64 x) (h : fv .f64 x < 0) : nanB .f64 (fsq x) = true := by
  obtain ⟨s, m, i, er⟩ := hx
  unfold fv at h
  rw [er] at h
  cases s
  · rw [dval_pos] at h
    have := sgn_nonneg m i
    grind
  · have hm : m ≠ 0 := by
      intro e; subst e
      rw [dval_neg] at h
      simp at h
    unfold fsq Format.sqrt
    rw [er]
    unfold Datum.root
    dsimp only
    rw [if_neg hm, if_pos rfl]
    exact nanB_qn .f64
theorem max_f32 : p2 (maxE FloatKind.f32.format + 1) = p2 (2 * 64) := by decide +kernel
theorem fsq_wide {x : Nat} (hx : num .f32 x) (h : 0 ≤ fv .f32 x) : inn .f64 (fsq (fcv .f32 .f64 x)) 0 (p2 64) := by
  obtain ⟨h1, h2⟩ := wide_num hx
  have hb := (num_bound hx).2
  rw [max_f32] at hb
  exact fsq_inn h1 (by rw [h2]; exact h) (e := 64) (by rw [h2]; exact hb) (by decide) (by decide)
theorem fsq_fits (x : Nat) : fits .f64 .f32 (fsq (fcv .f32 .f64 x)) := by
  intro s m p e
  by_cases hx : num .f32 x
  · by_cases h : 0 ≤ fv .f32 x
    · have := fsq_wide hx h
      exact this.fits (E := 64) (by decide) (by decide) (by have := p2_pos 64; grind) Rat.le_refl s m p e
    · obtain ⟨h1, h2⟩ := wide_num hx
      have := fsq_neg h1 (by rw [h2]; grind)
      exact fits_nan this s m p e
  · exfalso
    cases er : FloatKind.f32.format.read x with
    | number s m p => exact hx ⟨s, m, p, er⟩
    | nan s t =>
      have hn : nanB .f32 x = true := by unfold nanB; rw [er]; rfl
      have : fcv .f32 .f64 x = qn .f64 := by unfold fcv; rw [hn]; rfl
      rw [this, show fsq (qn .f64) = qn .f64 by decide +kernel] at e
      have hq := nanB_qn .f64
      unfold nanB at hq
      rw [e] at hq; cases hq
    | infinity s =>
      have hn : nanB .f32 x = false := by unfold nanB; rw [er]; rfl
      have : fcv .f32 .f64 x = FloatKind.f64.format.write (.infinity s) := by unfold fcv; rw [hn, er]; rfl
      rw [this] at e
      cases s
      · rw [show FloatKind.f64.format.read (fsq (FloatKind.f64.format.write (.infinity false))) = .infinity false by decide +kernel] at e; cases e
      · rw [show (FloatKind.f64.format.read (fsq (FloatKind.f64.format.write (.infinity true)))) = FloatKind.f64.format.read (qn .f64) by decide +kernel] at e
        have hq := nanB_qn .f64
        unfold nanB at hq
        rw [e] at hq; cases hq
theorem rot_num {x : Nat} (hx : num .f32 x) (h : 0 ≤ fv .f32 x) : inn .f32 (Rot x) 0 (p2 64) := by
  have hs := fsq_wide hx h
  exact (conv_rd hs.1).inn isf32_0 (isf_p2 (by decide) (by decide)) hs.2.1 hs.2.2
end Go.Proofs.Ytnkfbinppikhkaa
