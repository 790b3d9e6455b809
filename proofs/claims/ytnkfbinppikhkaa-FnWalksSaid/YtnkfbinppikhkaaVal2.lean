/- The values of sums, products, quotients, conversions; comparisons by value. No condition. -/
import Derived.Test.YtnkfbinppikhkaaVal
import Derived.Test.YtnkfbinppikhkaaPure
namespace Go.Proofs.Ytnkfbinppikhkaa
open Ieee
set_option linter.unusedSimpArgs false

theorem signed_val (s : Bool) (m up : Nat) : ((signed s m up : Int) : Rat) = (if s then -(m : Rat) else m) * ((2 ^ up : Nat) : Rat) := by
  unfold signed
  rw [Nat.shiftLeft_eq]
  cases s
  · simp [Rat.intCast_natCast, Rat.natCast_mul]
  · simp [Rat.intCast_natCast, Rat.natCast_mul, Rat.intCast_neg]; grind
theorem dval_int (z : Bool) (T : Int) (b : Int) (hz : T ≠ 0 → z = decide (T < 0)) : dval (.number z T.natAbs b) = (T : Rat) * p2 b := by
  by_cases h0 : T = 0
  · subst h0; cases z <;> simp [dval]
  · rw [hz h0]
    rcases Int.lt_or_le T 0 with h | h
    · have e : T = -(T.natAbs : Int) := by omega
      have : decide (T < 0) = true := by simpa using h
      rw [this, dval_neg]
      conv => rhs; rw [e, Rat.intCast_neg, Rat.intCast_natCast]
      grind
    · have e : T = (T.natAbs : Int) := by omega
      have : decide (T < 0) = false := by simpa using h
      rw [this, dval_pos]
      conv => rhs; rw [e, Rat.intCast_natCast]
theorem dval_scale (s : Bool) (m : Nat) (i b : Int) (h : b ≤ i) : ((signed s m (i - b).toNat : Int) : Rat) * p2 b = dval (.number s m i) := by
  rw [signed_val]
  show _ = (if s then -(m : Rat) else m) * p2 i
  rw [p2_sub h]; grind
theorem sum_val {s t : Bool} {m n : Nat} {i j : Int} : ∃ z T b, (Datum.number s m i).sum (.number t n j) = some (.number z T b) ∧ dval (.number z T b) = dval (.number s m i) + dval (.number t n j) := by
  refine ⟨_, _, _, rfl, ?_⟩
  rw [dval_int]
  · rw [Rat.intCast_add, Rat.add_mul, dval_scale s m i _ (by omega), dval_scale t n j _ (by omega)]
  · intro h; rw [if_neg h]
theorem opp_val (s : Bool) (m : Nat) (i : Int) : dval (Datum.number s m i).opposite = -dval (.number s m i) := by
  show (if (!s) then -(m : Rat) else m) * p2 i = -((if s then -(m : Rat) else m) * p2 i)
  cases s <;> simp <;> grind

theorem add_rd {k : FloatKind} {x y : Nat} (hx : num k x) (hy : num k y) : Rd k (fv k x + fv k y) (fop .add k x y) := by
  obtain ⟨s, m, i, ex⟩ := hx
  obtain ⟨t, n, j, ey⟩ := hy
  obtain ⟨z, T, b, h1, h2⟩ := sum_val (s := s) (t := t) (m := m) (n := n) (i := i) (j := j)
  have : fop .add k x y = k.format.nearest z T b := by
    simp only [fop, fopO, Format.add, ex, ey, h1]; rfl
  rw [this]
  exact Rd.exact (by rw [h2]; simp only [fv, ex, ey])
theorem sub_rd {k : FloatKind} {x y : Nat} (hx : num k x) (hy : num k y) : Rd k (fv k x - fv k y) (fop .sub k x y) := by
  obtain ⟨s, m, i, ex⟩ := hx
  obtain ⟨t, n, j, ey⟩ := hy
  obtain ⟨z, T, b, h1, h2⟩ := sum_val (s := s) (t := !t) (m := m) (n := n) (i := i) (j := j)
  have : fop .sub k x y = k.format.nearest z T b := by
    simp only [fop, fopO, Format.sub, ex, ey, Datum.opposite, h1]; rfl
  rw [this]
  refine Rd.exact ?_
  have h3 := opp_val t n j
  simp only [Datum.opposite] at h3
  rw [h2, h3]; simp only [fv, ex, ey]; grind
theorem mul_rd {k : FloatKind} {x y : Nat} (hx : num k x) (hy : num k y) : Rd k (fv k x * fv k y) (fop .mul k x y) := by
  obtain ⟨s, m, i, ex⟩ := hx
  obtain ⟨t, n, j, ey⟩ := hy
  have : fop .mul k x y = k.format.nearest (s ^^ t) (m * n) (i + j) := by
    simp only [fop, fopO, Format.mul, ex, ey, Datum.product]; rfl
  rw [this]
  refine Rd.exact ?_
  simp only [fv, ex, ey, dval, p2_add, Rat.natCast_mul]
  cases s <;> cases t <;> simp <;> grind
theorem conv_rd {k k' : FloatKind} {x : Nat} (hx : num k x) : Rd k' (fv k x) (fcv k k' x) := by
  obtain ⟨s, m, i, ex⟩ := hx
  have hn : nanB k x = false := by simp [nanB, ex, Datum.isNaN]
  have : fcv k k' x = k'.format.nearest s m i := by simp only [fcv, hn, ex]; rfl
  rw [this]
  exact Rd.exact (by simp only [fv, ex])

theorem num_notnan {k : FloatKind} {x : Nat} (hx : num k x) : nanB k x = false := by
  obtain ⟨s, m, i, ex⟩ := hx
  simp [nanB, ex, Datum.isNaN]
theorem num_cn {k : FloatKind} {x : Nat} (hx : num k x) : cn k x = x := cn_of (num_notnan hx)

/-- A number of the one kind fits the other kind, if it isn't too great. -/
theorem fits_of {k k' : FloatKind} {x : Nat} {E : Int} (he1 : k'.format.leastPlace ≤ E) (he2 : E ≤ maxE k'.format) (h : num k x → -p2 E ≤ fv k x ∧ fv k x ≤ p2 E) : fits k k' x := by
  intro s m p e
  have hx : num k x := ⟨s, m, p, e⟩
  obtain ⟨h1, h2⟩ := h hx
  have hv : fv k x = dval (.number s m p) := by unfold fv; rw [e]
  have hm : (m : Rat) * p2 p ≤ p2 E := by
    rw [hv] at h1 h2
    cases s
    · rw [dval_pos] at h2; exact h2
    · rw [dval_neg] at h1; grind
  obtain ⟨s', m', p', h'⟩ := nearest_num k' s m p E hm he1 he2
  show (k'.format.read (k'.format.nearest s m p)).isInfinity = false
  rw [h']; rfl

/-- What is read is at most 2^maxE times 2. -/
theorem read_le {k : FloatKind} {x : Nat} {s : Bool} {m : Nat} {p : Int} (h : k.format.read x = .number s m p) : p + k.format.fractionBits ≤ maxE k.format := by
  unfold Format.read at h
  simp only [] at h
  have hE : 4 ≤ 2 ^ k.format.exponentBits := Nat.le_trans (by decide : 4 ≤ 2 ^ 2) (Nat.pow_le_pow_right (by decide) (expBits k))
  have hcast : ((2 : Int) ^ k.format.exponentBits) = ((2 ^ k.format.exponentBits : Nat) : Int) := by simp
  have hB : 0 < k.format.binade := Nat.two_pow_pos _
  unfold maxE
  rw [hcast]
  split at h
  · cases h; omega
  · split at h
    · rename_i h1 h2
      cases h
      have : x % k.format.signWeight / k.format.binade < 2 ^ k.format.exponentBits - 1 := by
        rw [Nat.div_lt_iff_lt_mul hB]; exact h2
      omega
    · split at h <;> cases h
theorem num_bound {k : FloatKind} {x : Nat} (hx : num k x) : -p2 (maxE k.format + 1) ≤ fv k x ∧ fv k x ≤ p2 (maxE k.format + 1) := by
  obtain ⟨s, m, p, e⟩ := hx
  have h1 := read_le e
  have h2 := (read_digits e).1
  have h3 : (m : Rat) * p2 p ≤ p2 (maxE k.format + 1) := by
    have : (m : Rat) * p2 p ≤ ((1 : Nat) : Rat) * p2 (maxE k.format + 1) := by
      refine (le_iff m p 1 _ p (Int.le_refl _) (by omega)).2 ?_
      rw [show (p - p).toNat = 0 by omega]
      have h4 : 2 ^ (k.format.fractionBits + 1) ≤ 2 ^ (maxE k.format + 1 - p).toNat := Nat.pow_le_pow_right (by decide) (by omega)
      simp only [Nat.pow_zero, Nat.mul_one, Nat.one_mul]
      omega
    simpa using this
  have h4 := sgn_nonneg m p
  have h5 := p2_pos (maxE k.format + 1)
  unfold fv
  rw [e]
  cases s
  · rw [dval_pos]; grind
  · rw [dval_neg]; grind
theorem fits_wide (x : Nat) : fits .f32 .f64 x :=
  fits_of (E := 128) (by decide) (by decide) fun h => by
    have := num_bound h
    exact this

/-- Comparisons of numbers by their values. -/
theorem order_ints {k : FloatKind} {x y : Nat} (hx : num k x) (hy : num k y) : ∃ a b : Int, k.format.order x y = some (compare a b) ∧ (a < b ↔ fv k x < fv k y) ∧ (a = b ↔ fv k x = fv k y) := by
  obtain ⟨s, m, i, ex⟩ := hx
  obtain ⟨t, n, j, ey⟩ := hy
  refine ⟨signed s m (i - min i j).toNat, signed t n (j - min i j).toNat, by simp only [Format.order, ex, ey]; rfl, ?_, ?_⟩
  · simp only [fv, ex, ey]
    rw [← dval_scale s m i (min i j) (by omega), ← dval_scale t n j (min i j) (by omega)]
    constructor
    · intro h; exact Rat.mul_lt_mul_of_pos_right (by exact_mod_cast h) (p2_pos _)
    · intro h
      apply Classical.byContradiction
      intro hn
      have h2 : (signed t n (j - min i j).toNat : Rat) ≤ signed s m (i - min i j).toNat := by exact_mod_cast (Int.not_lt.1 hn)
      have := Rat.mul_le_mul_of_nonneg_right h2 (Rat.le_of_lt (p2_pos (min i j)))
      grind
  · simp only [fv, ex, ey]
    rw [← dval_scale s m i (min i j) (by omega), ← dval_scale t n j (min i j) (by omega)]
    constructor
    · intro h; rw [h]
    · intro h
      have h1 : (signed s m (i - min i j).toNat : Rat) = signed t n (j - min i j).toNat := by
        have hp := p2_pos (min i j)
        have a : (signed s m (i - min i j).toNat : Rat) ≤ signed t n (j - min i j).toNat := Rat.le_of_mul_le_mul_right (c := p2 (min i j)) (by rw [h]; exact Rat.le_refl) hp
        have b : (signed t n (j - min i j).toNat : Rat) ≤ signed s m (i - min i j).toNat := Rat.le_of_mul_le_mul_right (c := p2 (min i j)) (by rw [h]; exact Rat.le_refl) hp
        exact Rat.le_antisymm a b
      exact_mod_cast h1
theorem flt_val {k : FloatKind} {x y : Nat} (hx : num k x) (hy : num k y) : flt k x y = decide (fv k x < fv k y) := by
  obtain ⟨a, b, h1, h2, h3⟩ := order_ints hx hy
  unfold flt
  rw [h1, Bool.eq_iff_iff, decide_eq_true_eq, ← h2]
  simp [Int.compare_eq_lt]
theorem fgt_val {k : FloatKind} {x y : Nat} (hx : num k x) (hy : num k y) : fgt k x y = decide (fv k y < fv k x) := by
  obtain ⟨a, b, h1, h2, h3⟩ := order_ints hx hy
  unfold fgt
  rw [h1, Bool.eq_iff_iff, decide_eq_true_eq]
  simp only [beq_iff_eq, Option.some.injEq, Int.compare_eq_gt]
  constructor
  · intro h; have := mt h2.2 (by omega); have := mt h3.2 (by omega); grind
  · intro h; have := mt h2.1 (by grind); have := mt h3.1 (by grind); omega
theorem feq_val {k : FloatKind} {x y : Nat} (hx : num k x) (hy : num k y) : feq k x y = decide (fv k x = fv k y) := by
  obtain ⟨a, b, h1, h2, h3⟩ := order_ints hx hy
  unfold feq
  rw [h1, Bool.eq_iff_iff, decide_eq_true_eq, ← h3]
  simp [Int.compare_eq_eq]
theorem fge_val {k : FloatKind} {x y : Nat} (hx : num k x) (hy : num k y) : fge k x y = decide (fv k y ≤ fv k x) := by
  have h1 := fgt_val hx hy
  have h2 := feq_val hx hy
  unfold fgt at h1
  unfold feq at h2
  unfold fge
  rw [h1, h2, Bool.eq_iff_iff]
  simp only [Bool.or_eq_true, decide_eq_true_eq]
  grind
theorem fle_val {k : FloatKind} {x y : Nat} (hx : num k x) (hy : num k y) : fle k x y = decide (fv k x ≤ fv k y) := by
  have h1 := flt_val hx hy
  have h2 := feq_val hx hy
  unfold flt at h1
  unfold feq at h2
  unfold fle
  rw [h1, h2, Bool.eq_iff_iff]
  simp only [Bool.or_eq_true, decide_eq_true_eq]
  grind
end Go.Proofs.Ytnkfbinppikhkaa
