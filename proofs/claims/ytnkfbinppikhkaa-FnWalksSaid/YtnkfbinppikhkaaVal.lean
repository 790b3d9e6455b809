/- The value of a float as a fraction, and what rounding does to it. No condition. -/
import Derived.Test.YtnkfbinppikhkaaNum
namespace Go.Proofs.Ytnkfbinppikhkaa
open Ieee

/-- A power of two. -/
def p2 (e : Int) : Rat := (2 : Rat) ^ e
theorem p2_pos (e : Int) : 0 < p2 e := Rat.zpow_pos (by decide)
theorem p2_add (a b : Int) : p2 (a + b) = p2 a * p2 b := Rat.zpow_add (by decide) a b
theorem p2_nat (n : Nat) : p2 n = ((2 ^ n : Nat) : Rat) := by
  unfold p2; rw [Rat.zpow_natCast]; simp
theorem p2_zero : p2 0 = 1 := Rat.zpow_zero _
theorem p2_sub {a b : Int} (h : a ≤ b) : p2 b = p2 a * ((2 ^ (b - a).toNat : Nat) : Rat) := by
  rw [← p2_nat, ← p2_add]; congr 1; omega
theorem p2_mono {a b : Int} (h : a ≤ b) : p2 a ≤ p2 b := by
  rw [p2_sub h]
  have h1 : (1 : Rat) ≤ ((2 ^ (b - a).toNat : Nat) : Rat) := by exact_mod_cast Nat.one_le_two_pow
  have := Rat.mul_le_mul_of_nonneg_left h1 (Rat.le_of_lt (p2_pos a))
  grind

/-- m * 2^p ≤ n * 2^q, as natural numbers. -/
theorem le_iff (m : Nat) (p : Int) (n : Nat) (q b : Int) (hp : b ≤ p) (hq : b ≤ q) : (m : Rat) * p2 p ≤ n * p2 q ↔ m * 2 ^ (p - b).toNat ≤ n * 2 ^ (q - b).toNat := by
  rw [p2_sub hp, p2_sub hq]
  have e1 : (m : Rat) * (p2 b * ((2 ^ (p - b).toNat : Nat) : Rat)) = ((m * 2 ^ (p - b).toNat : Nat) : Rat) * p2 b := by rw [Rat.natCast_mul]; grind
  have e2 : (n : Rat) * (p2 b * ((2 ^ (q - b).toNat : Nat) : Rat)) = ((n * 2 ^ (q - b).toNat : Nat) : Rat) * p2 b := by rw [Rat.natCast_mul]; grind
  rw [e1, e2]
  constructor
  · intro h
    have := Rat.le_of_mul_le_mul_right h (p2_pos b)
    exact_mod_cast this
  · intro h
    exact Rat.mul_le_mul_of_nonneg_right (by exact_mod_cast h) (Rat.le_of_lt (p2_pos b))

theorem mb_iff (m : Nat) (p e : Int) : mb m p e ↔ (m : Rat) * p2 p ≤ p2 e := by
  have h1 : (1 : Rat) * p2 e = p2 e := by grind
  constructor
  · rintro (h | ⟨h, h'⟩)
    · subst h
      have := p2_pos e
      simp
      grind
    · have := (le_iff m p 1 e p (Int.le_refl _) h).2 (by simpa using h')
      simpa [h1] using this
  · intro h
    by_cases h0 : m = 0
    · exact .inl h0
    · right
      rcases Int.le_total p e with hpe | hpe
      · refine ⟨hpe, ?_⟩
        have := (le_iff m p 1 e p (Int.le_refl _) hpe).1 (by simpa [h1] using h)
        simpa using this
      · have := (le_iff m p 1 e e hpe (Int.le_refl _)).1 (by simpa [h1] using h)
        have hm : 1 * 2 ^ (p - e).toNat ≤ m * 2 ^ (p - e).toNat := Nat.mul_le_mul_right _ (by omega)
        have h2 : 2 ^ (p - e).toNat ≤ 1 := by simpa using Nat.le_trans hm this
        have h3 : (p - e).toNat = 0 := by
          rcases Nat.eq_zero_or_pos (p - e).toNat with h | h
          · exact h
          · have := Nat.one_lt_two_pow (n := (p - e).toNat) (by omega); omega
        refine ⟨by omega, ?_⟩
        rw [h3] at this
        rw [show (e - p).toNat = 0 by omega]
        rw [show (e - e).toNat = 0 by omega] at this
        simpa using this

/-- The value of a datum; 0 of what is no number. -/
def dval : Datum → Rat
  | .number s m p => (if s then -(m : Rat) else m) * p2 p
  | _ => 0
/-- The value of a float. -/
def fv (k : FloatKind) (x : Nat) : Rat := dval (k.format.read x)
/-- A float that is a number. -/
def num (k : FloatKind) (x : Nat) : Prop := ∃ s m p, k.format.read x = .number s m p

/-- The digits of a number that is read. -/
theorem read_digits {k : FloatKind} {x : Nat} {s : Bool} {m : Nat} {p : Int} (h : k.format.read x = .number s m p) : m < 2 ^ (k.format.fractionBits + 1) ∧ k.format.leastPlace ≤ p := by
  unfold Format.read at h
  simp only [] at h
  have hB : 0 < k.format.binade := Nat.two_pow_pos _
  have h2 : 2 ^ (k.format.fractionBits + 1) = 2 * k.format.binade := by unfold Format.binade; rw [Nat.pow_succ, Nat.mul_comm]
  split at h
  · cases h; exact ⟨by omega, Int.le_refl _⟩
  · split at h
    · cases h
      have := Nat.mod_lt (x % k.format.signWeight) hB
      exact ⟨by omega, by omega⟩
    · split at h <;> cases h

section round
variable (f : Format)
/-- What is kept of what lies below N * 2^q lies below it, too. -/
theorem kept_up (neg : Bool) (m : Nat) (p : Int) (hm : m ≠ 0) (N : Nat) (q : Int) (hN : N < 2 ^ (f.fractionBits + 1)) (hq : f.leastPlace ≤ q) (h : (m : Rat) * p2 p ≤ N * p2 q) : (keptN f neg m p : Rat) * p2 (lastP f m p) ≤ N * p2 q := by
  have hL : lastP f m p ≤ q := by
    apply Classical.byContradiction
    intro hlt
    have hL : lastP f m p = p + m.log2 - f.fractionBits := by unfold lastP at hlt ⊢; omega
    have h1 : (1 : Rat) * p2 (p + m.log2) ≤ m * p2 p := (le_iff 1 (p + m.log2) m p p (by omega) (Int.le_refl _)).2 (by
      rw [show (p + (m.log2 : Int) - p).toNat = m.log2 by omega]; simpa using Nat.log2_self_le hm)
    have h2 := Rat.le_trans h1 h
    have h3 := (le_iff 1 (p + m.log2) N q q (by omega) (Int.le_refl _)).1 h2
    have h4 : 2 ^ (f.fractionBits + 1) ≤ 2 ^ (p + (m.log2 : Int) - q).toNat := Nat.pow_le_pow_right (by decide) (by omega)
    simp at h3
    omega
  refine (le_iff _ _ N q (lastP f m p) (Int.le_refl _) hL).2 ?_
  rw [show (lastP f m p - lastP f m p).toNat = 0 by omega]
  simp only [Nat.pow_zero, Nat.mul_one]
  unfold keptN
  refine cut_le _ _ _ _ ?_
  rw [Nat.shiftLeft_eq]
  rcases Int.le_total p (lastP f m p) with hp | hp
  · have := (le_iff m p N q p (Int.le_refl _) (by omega)).1 h
    rw [show (p - p).toNat = 0 by omega] at this
    rw [show (p - lastP f m p).toNat = 0 by omega, Nat.mul_assoc, ← Nat.pow_add, show (q - lastP f m p).toNat + (lastP f m p - p).toNat = (q - p).toNat by omega]
    simpa using this
  · have := (le_iff m p N q (lastP f m p) hp hL).1 h
    rw [show (lastP f m p - p).toNat = 0 by omega]
    simpa using this
theorem kept_down (neg : Bool) (m : Nat) (p : Int) (hm : m ≠ 0) (N : Nat) (q : Int) (hN : N < 2 ^ (f.fractionBits + 1)) (hq : f.leastPlace ≤ q) (h : N * p2 q ≤ (m : Rat) * p2 p) : N * p2 q ≤ (keptN f neg m p : Rat) * p2 (lastP f m p) := by
  rcases Int.lt_or_le q (lastP f m p) with hL | hL
  rotate_left
  · refine (le_iff N q _ _ (lastP f m p) hL (Int.le_refl _)).2 ?_
    rw [show (lastP f m p - lastP f m p).toNat = 0 by omega]
    simp only [Nat.pow_zero, Nat.mul_one]
    unfold keptN
    refine le_cut _ _ _ _ ?_
    rw [Nat.shiftLeft_eq]
    rcases Int.le_total p (lastP f m p) with hp | hp
    · have := (le_iff N q m p p (by omega) (Int.le_refl _)).1 h
      rw [show (p - p).toNat = 0 by omega] at this
      rw [show (p - lastP f m p).toNat = 0 by omega, Nat.mul_assoc, ← Nat.pow_add, show (q - lastP f m p).toNat + (lastP f m p - p).toNat = (q - p).toNat by omega]
      simpa using this
    · have := (le_iff N q m p (lastP f m p) hL hp).1 h
      rw [show (lastP f m p - p).toNat = 0 by omega]
      simpa using this
  · rcases kept_full f neg m p hm with hk | hk
    · refine (le_iff N q _ _ q (Int.le_refl _) (by omega)).2 ?_
      rw [show (q - q).toNat = 0 by omega]
      have h1 : 2 ^ (f.fractionBits + 1) ≤ f.binade * 2 ^ (lastP f m p - q).toNat := by
        unfold Format.binade
        rw [← Nat.pow_add]
        exact Nat.pow_le_pow_right (by decide) (by omega)
      have h2 : f.binade * 2 ^ (lastP f m p - q).toNat ≤ keptN f neg m p * 2 ^ (lastP f m p - q).toNat := Nat.mul_le_mul_right _ hk
      simp only [Nat.pow_zero, Nat.mul_one]
      omega
    · omega
end round

theorem sgn_nonneg (m : Nat) (p : Int) : 0 ≤ (m : Rat) * p2 p := Rat.mul_nonneg Rat.natCast_nonneg (Rat.le_of_lt (p2_pos p))
theorem dval_pos (m : Nat) (p : Int) : dval (.number false m p) = m * p2 p := rfl
theorem dval_neg (m : Nat) (p : Int) : dval (.number true m p) = -(m * p2 p) := by show -(m : Rat) * p2 p = _; grind

/-- What comes of rounding, where the number isn't too great. -/
theorem nearest_num (k : FloatKind) (s : Bool) (m : Nat) (p e : Int) (h : (m : Rat) * p2 p ≤ p2 e) (he1 : k.format.leastPlace ≤ e) (he2 : e ≤ maxE k.format) : num k (k.format.nearest s m p) := by
  obtain ⟨s', m', p', h', _⟩ := bnd_nearest k s m p e ((mb_iff _ _ _).2 h) he1 he2
  exact ⟨s', m', p', h'⟩
theorem fv_nearest (k : FloatKind) (s : Bool) (m : Nat) (p e : Int) (hm : m ≠ 0) (h : (m : Rat) * p2 p ≤ p2 e) (he1 : k.format.leastPlace ≤ e) (he2 : e ≤ maxE k.format) :
    fv k (k.format.nearest s m p) = dval (.number s (keptN k.format s m p) (lastP k.format m p)) := by
  unfold fv
  rcases read_nearest k.format s m p hm (fin_of_mb k.format (expBits k) s m p e hm ((mb_iff _ _ _).2 h) he1 he2) with hr | ⟨h2, hr⟩
  · rw [hr]
  · rw [hr, h2]
    have e1 : p2 (lastP k.format m p + 1) = 2 * p2 (lastP k.format m p) := by rw [p2_add]; have : p2 1 = 2 := by decide +kernel
                                                                              rw [this]; grind
    cases s
    · rw [dval_pos, dval_pos, e1, Rat.natCast_mul]; grind
    · rw [dval_neg, dval_neg, e1, Rat.natCast_mul]; grind
theorem nearest_zero (k : FloatKind) (s : Bool) (p : Int) : k.format.read (k.format.nearest s 0 p) = .number s 0 k.format.leastPlace := by
  have hs : 0 < k.format.signWeight := Nat.two_pow_pos _
  have hB : 0 < k.format.binade := Nat.two_pow_pos _
  unfold Format.nearest
  rw [if_pos rfl]
  unfold Format.read
  simp only [word_mod k.format s hs, word_neg k.format s hs]
  rw [if_pos hB]

/-- r is what e is rounded to: the exact number that is written stands to the kind's numbers as e does. -/
def Rd (k : FloatKind) (e : Rat) (r : Nat) : Prop :=
  ∃ s m p, r = k.format.nearest s m p ∧ ∀ b, num k b → (dval (.number s m p) ≤ fv k b ↔ e ≤ fv k b) ∧ (fv k b ≤ dval (.number s m p) ↔ fv k b ≤ e)
theorem Rd.exact {k : FloatKind} {s : Bool} {m : Nat} {p : Int} {e : Rat} (h : dval (.number s m p) = e) : Rd k e (k.format.nearest s m p) :=
  ⟨s, m, p, rfl, fun b _ => by rw [h]; exact ⟨Iff.rfl, Iff.rfl⟩⟩

/-- A power of two is a number of the kind. -/
theorem p2_float (k : FloatKind) (e : Int) (he1 : k.format.leastPlace ≤ e) (he2 : e ≤ maxE k.format) (s : Bool) : ∃ b, num k b ∧ fv k b = if s then -p2 e else p2 e := by
  have h1 : ((1 : Nat) : Rat) * p2 e ≤ p2 e := by simp
  refine ⟨k.format.nearest s 1 e, nearest_num k s 1 e e h1 he1 he2, ?_⟩
  rw [fv_nearest k s 1 e e (by decide) h1 he1 he2]
  have a := kept_up k.format s 1 e (by decide) 1 e (Nat.one_lt_two_pow (by omega)) he1 (Rat.le_refl)
  have b := kept_down k.format s 1 e (by decide) 1 e (Nat.one_lt_two_pow (by omega)) he1 (Rat.le_refl)
  have c : ((1 : Nat) : Rat) * p2 e = p2 e := by simp
  rw [c] at a b
  have d := Rat.le_antisymm a b
  cases s
  · rw [dval_pos, d]; rfl
  · rw [dval_neg, d]; rfl

/-- The bounds that a rounded number keeps. -/
theorem Rd.ok {k : FloatKind} {e : Rat} {r : Nat} (h : Rd k e r) {E : Int} (he1 : k.format.leastPlace ≤ E) (he2 : E ≤ maxE k.format) (hl : -p2 E ≤ e) (hu : e ≤ p2 E) :
    num k r ∧ ∀ b, num k b → (e ≤ fv k b → fv k r ≤ fv k b) ∧ (fv k b ≤ e → fv k b ≤ fv k r) := by
  obtain ⟨s, m, p, rfl, hb⟩ := h
  obtain ⟨b1, n1, e1⟩ := p2_float k E he1 he2 true
  obtain ⟨b2, n2, e2⟩ := p2_float k E he1 he2 false
  simp only [if_true, Bool.false_eq_true, if_false] at e1 e2
  have hl' : -p2 E ≤ dval (.number s m p) := by rw [← e1]; exact (hb b1 n1).2.2 (by rw [e1]; exact hl)
  have hu' : dval (.number s m p) ≤ p2 E := by rw [← e2]; exact (hb b2 n2).1.2 (by rw [e2]; exact hu)
  have hm : (m : Rat) * p2 p ≤ p2 E := by
    cases s
    · rw [dval_pos] at hu'; exact hu'
    · rw [dval_neg] at hl'; grind
  refine ⟨nearest_num k s m p E hm he1 he2, fun b hnb => ?_⟩
  rw [← (hb b hnb).1, ← (hb b hnb).2]
  obtain ⟨t, N, q, hr⟩ := hnb
  obtain ⟨hN, hq⟩ := read_digits hr
  have hfb : fv k b = dval (.number t N q) := by unfold fv; rw [hr]
  rw [hfb]
  by_cases h0 : m = 0
  · subst h0
    have hz : fv k (k.format.nearest s 0 p) = 0 := by unfold fv; rw [nearest_zero]; cases s <;> simp [dval]
    have hz' : dval (.number s 0 p) = 0 := by cases s <;> simp [dval]
    rw [hz, hz']
    exact ⟨id, id⟩
  · rw [fv_nearest k s m p E h0 hm he1 he2]
    have k1 := kept_up k.format s m p h0 N q hN hq
    have k2 := kept_down k.format s m p h0 N q hN hq
    have z1 := sgn_nonneg (keptN k.format s m p) (lastP k.format m p)
    have z2 := sgn_nonneg N q
    have z3 := sgn_nonneg m p
    have z4 : 0 < (m : Rat) * p2 p := by
      have : (0 : Rat) < m := by exact_mod_cast Nat.pos_of_ne_zero h0
      exact Rat.mul_pos this (p2_pos p)
    clear hb hfb hr e1 e2 n1 n2 hl hu hl' hu' hm
    cases s <;> cases t <;> simp only [dval_pos, dval_neg] <;> (generalize (keptN k.format _ m p : Rat) * p2 (lastP k.format m p) = KL at *; constructor <;> intro h <;> grind)
end Go.Proofs.Ytnkfbinppikhkaa
