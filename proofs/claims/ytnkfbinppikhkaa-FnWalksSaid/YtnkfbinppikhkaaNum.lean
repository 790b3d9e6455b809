/- How a number is rounded to a float: what the nearest word reads as, and bounds by powers of two. No condition. -/
import Derived.Test.YtnkfbinppikhkaaFloat
namespace Go.Proofs.Ytnkfbinppikhkaa
open Ieee

/-- m * 2^p ≤ 2^e -/
def mb (m : Nat) (p e : Int) : Prop := m = 0 ∨ (p ≤ e ∧ m ≤ 2 ^ (e - p).toNat)
/-- 2^c ≤ m * 2^p -/
def lb (m : Nat) (p c : Int) : Prop := m ≠ 0 ∧ 2 ^ (c - p).toNat ≤ m

theorem pow_split {a b : Nat} (h : a ≤ b) : 2 ^ b = 2 ^ a * 2 ^ (b - a) := by rw [← Nat.pow_add]; congr 1; omega

theorem cut_le (neg : Bool) (n drop N : Nat) (h : n ≤ N * 2 ^ drop) : Toward.even.cut neg n drop ≤ N := by
  unfold Toward.cut
  simp only [Nat.one_shiftLeft]
  by_cases hd : drop ≤ n.log2 + 2
  · rw [Nat.min_eq_left hd]
    generalize hg : 2 ^ drop = g at *
    have hg0 : 0 < g := by rw [← hg]; exact Nat.two_pow_pos _
    have h1 : n / g ≤ N := Nat.div_le_of_le_mul (by rw [Nat.mul_comm]; exact h)
    have h2 := Nat.div_add_mod n g
    rcases Nat.lt_or_ge (n / g) N with h3 | h3
    · have : ∀ b : Bool, b.toNat ≤ 1 := fun b => by cases b <;> decide
      have := this (decide (g < 2 * (n % g)) || (g == 2 * (n % g) && n / g % 2 == 1))
      omega
    · have h4 : n / g = N := by omega
      have h5 : n % g = 0 := by
        rw [h4] at h2
        have : g * N = N * g := Nat.mul_comm _ _
        omega
      have h6 : (g == 0) = false := by simp; omega
      rw [h5]
      simp [h6]
      omega
  · rw [Nat.min_eq_right (by omega)]
    have h1 : n < 2 ^ (n.log2 + 1) := Nat.lt_log2_self
    have h2 : 2 ^ (n.log2 + 2) = 2 * 2 ^ (n.log2 + 1) := by rw [Nat.pow_succ, Nat.mul_comm]
    have h3 : n / 2 ^ (n.log2 + 2) = 0 := Nat.div_eq_of_lt (by omega)
    have h4 : n % 2 ^ (n.log2 + 2) = n := Nat.mod_eq_of_lt (by omega)
    have h5 : ¬ (2 ^ (n.log2 + 2) < 2 * n) := by omega
    have h6 : (2 ^ (n.log2 + 2) == 2 * n) = false := by simp; omega
    rw [h3, h4]
    simp [h5, h6]

theorem le_cut (neg : Bool) (n drop N : Nat) (h : N * 2 ^ drop ≤ n) : N ≤ Toward.even.cut neg n drop := by
  unfold Toward.cut
  simp only [Nat.one_shiftLeft]
  by_cases hd : drop ≤ n.log2 + 2
  · rw [Nat.min_eq_left hd]
    have h1 : N ≤ n / 2 ^ drop := (Nat.le_div_iff_mul_le (Nat.two_pow_pos _)).2 h
    omega
  · have h1 : n < 2 ^ (n.log2 + 1) := Nat.lt_log2_self
    have h2 : 2 ^ (n.log2 + 1) ≤ 2 ^ drop := Nat.pow_le_pow_right (by decide) (by omega)
    rcases Nat.eq_zero_or_pos N with h0 | h0
    · rw [h0]; exact Nat.zero_le _
    · have : 1 * 2 ^ drop ≤ N * 2 ^ drop := Nat.mul_le_mul_right _ h0
      omega

section nearest
variable (f : Format)
/-- The last place that is kept. -/
def lastP (mag : Nat) (place : Int) : Int := max (place + mag.log2 - f.fractionBits) f.leastPlace
/-- What is kept, in units of the last place. -/
def keptN (neg : Bool) (mag : Nat) (place : Int) : Nat := Toward.even.cut neg (mag <<< (place - lastP f mag place).toNat) (lastP f mag place - place).toNat
theorem nearest_eq (neg : Bool) (mag : Nat) (place : Int) (h : mag ≠ 0) :
    f.nearest neg mag place = f.word neg (min ((lastP f mag place - f.leastPlace).toNat * f.binade + keptN f neg mag place) f.infRung) := by
  unfold Format.nearest
  rw [if_neg h]; rfl

theorem kept_le (neg : Bool) (mag : Nat) (place e : Int) (hl : lastP f mag place ≤ e) (h : mb mag place e) : keptN f neg mag place ≤ 2 ^ (e - lastP f mag place).toNat := by
  unfold keptN
  generalize hL : lastP f mag place = L at *
  refine cut_le _ _ _ _ ?_
  rcases h with h | ⟨h1, h2⟩
  · subst h; simp
  · rw [Nat.shiftLeft_eq]
    rcases Int.le_total place L with hp | hp
    · have e1 : (place - L).toNat = 0 := by omega
      rw [e1, ← Nat.pow_add]
      have e2 : (e - L).toNat + (L - place).toNat = (e - place).toNat := by omega
      rw [e2]; simpa using h2
    · have e1 : (L - place).toNat = 0 := by omega
      rw [e1]
      have e2 : (e - L).toNat = (e - place).toNat + (place - L).toNat := by omega
      rw [e2, Nat.pow_add, Nat.pow_zero, Nat.mul_one]
      exact Nat.mul_le_mul_right _ h2
theorem le_kept (neg : Bool) (mag : Nat) (place e : Int) (hl : lastP f mag place ≤ e) (h : 2 ^ (e - place).toNat ≤ mag) (hp : place ≤ e) : 2 ^ (e - lastP f mag place).toNat ≤ keptN f neg mag place := by
  unfold keptN
  generalize hL : lastP f mag place = L at *
  refine le_cut _ _ _ _ ?_
  rw [Nat.shiftLeft_eq]
  rcases Int.le_total place L with hp' | hp'
  · have e1 : (place - L).toNat = 0 := by omega
    rw [e1, ← Nat.pow_add]
    have e2 : (e - L).toNat + (L - place).toNat = (e - place).toNat := by omega
    rw [e2]; simpa using h
  · have e1 : (L - place).toNat = 0 := by omega
    rw [e1]
    have e2 : (e - L).toNat = (e - place).toNat + (place - L).toNat := by omega
    rw [e2, Nat.pow_add, Nat.pow_zero, Nat.mul_one]
    exact Nat.mul_le_mul_right _ h

theorem log2_le_of_mb {mag : Nat} {place e : Int} (h0 : mag ≠ 0) (h : mb mag place e) : place + mag.log2 ≤ e := by
  rcases h with h | ⟨h1, h2⟩
  · exact absurd h h0
  · have h3 : 2 ^ mag.log2 ≤ 2 ^ (e - place).toNat := Nat.le_trans (Nat.log2_self_le h0) h2
    have h4 := (Nat.pow_le_pow_iff_right (by decide : 1 < 2)).1 h3
    omega

/-- The kept digits fill the significand, or the last place is the least one. -/
theorem kept_full (neg : Bool) (mag : Nat) (place : Int) (h0 : mag ≠ 0) : f.binade ≤ keptN f neg mag place ∨ lastP f mag place = f.leastPlace := by
  by_cases h : lastP f mag place = f.leastPlace
  · exact .inr h
  · left
    have hL : lastP f mag place = place + mag.log2 - f.fractionBits := by unfold lastP at h ⊢; omega
    have h1 := le_kept f neg mag place (place + mag.log2) (by omega) (by rw [show (place + (mag.log2 : Int) - place).toNat = mag.log2 by omega]; exact Nat.log2_self_le h0) (by omega)
    rw [hL, show (place + (mag.log2 : Int) - (place + mag.log2 - f.fractionBits)).toNat = f.fractionBits by omega] at h1
    exact h1
theorem kept_le_two (neg : Bool) (mag : Nat) (place : Int) : keptN f neg mag place ≤ 2 * f.binade := by
  have hl : lastP f mag place ≤ place + mag.log2 + 1 ∨ place + mag.log2 + 1 < lastP f mag place := by omega
  have hlow : place + mag.log2 - f.fractionBits ≤ lastP f mag place := by unfold lastP; omega
  rcases hl with hl | hl
  · have h1 := kept_le f neg mag place (place + mag.log2 + 1) hl (.inr ⟨by omega, by rw [show (place + (mag.log2 : Int) + 1 - place).toNat = mag.log2 + 1 by omega]; exact Nat.le_of_lt Nat.lt_log2_self⟩)
    refine Nat.le_trans h1 ?_
    unfold Format.binade
    rw [← Nat.pow_succ']
    exact Nat.pow_le_pow_right (by decide) (by omega)
  · have h1 := kept_le f neg mag place (lastP f mag place) (Int.le_refl _) (.inr ⟨by omega, Nat.le_trans (Nat.le_of_lt Nat.lt_log2_self) (Nat.pow_le_pow_right (by decide) (by omega))⟩)
    rw [show (lastP f mag place - lastP f mag place).toNat = 0 by omega] at h1
    have : 0 < f.binade := Nat.two_pow_pos _
    omega

theorem word_neg (neg : Bool) {rung : Nat} (h : rung < f.signWeight) : (f.word neg rung / f.signWeight % 2 == 1) = neg := by
  have hs : 0 < f.signWeight := Nat.two_pow_pos _
  unfold Format.word
  cases neg
  · simp [Nat.div_eq_of_lt h]
  · simp only [if_true]
    rw [Nat.add_div_left _ hs, Nat.div_eq_of_lt h]; rfl

/-- What the nearest word reads as, where it is no infinity. -/
theorem read_nearest (neg : Bool) (mag : Nat) (place : Int) (h0 : mag ≠ 0) (hfin : (lastP f mag place - f.leastPlace).toNat * f.binade + keptN f neg mag place < f.infRung) :
    f.read (f.nearest neg mag place) = .number neg (keptN f neg mag place) (lastP f mag place) ∨
      (keptN f neg mag place = 2 * f.binade ∧ f.read (f.nearest neg mag place) = .number neg f.binade (lastP f mag place + 1)) := by
  rw [nearest_eq f neg mag place h0, Nat.min_eq_left (Nat.le_of_lt hfin)]
  have hB : 0 < f.binade := Nat.two_pow_pos _
  have hlp : f.leastPlace ≤ lastP f mag place := by unfold lastP; omega
  have hfull := kept_full f neg mag place h0
  have htwo := kept_le_two f neg mag place
  generalize keptN f neg mag place = K at *
  generalize lastP f mag place = L at *
  have hs := f.infRung_lt
  have hlt : (L - f.leastPlace).toNat * f.binade + K < f.signWeight := by omega
  unfold Format.read
  simp only [word_mod f neg hlt, word_neg f neg hlt]
  rcases Nat.lt_or_ge K f.binade with hK | hK
  · have hL : L = f.leastPlace := by omega
    left
    rw [hL, show (f.leastPlace - f.leastPlace).toNat = 0 by omega, Nat.zero_mul, Nat.zero_add, if_pos hK]
  · rw [if_neg (by have := Nat.zero_le ((L - f.leastPlace).toNat * f.binade); omega), if_pos hfin]
    rcases Nat.lt_or_ge K (2 * f.binade) with hK2 | hK2
    · left
      have e1 : K = f.binade + (K - f.binade) := by omega
      have e2 : ((L - f.leastPlace).toNat * f.binade + K) / f.binade = (L - f.leastPlace).toNat + 1 := by
        rw [e1, ← Nat.add_assoc, ← Nat.succ_mul, Nat.mul_comm, Nat.mul_add_div hB, Nat.div_eq_of_lt (by omega)]
      have e3 : ((L - f.leastPlace).toNat * f.binade + K) % f.binade = K - f.binade := by
        rw [e1, ← Nat.add_assoc, ← Nat.succ_mul, Nat.mul_comm, Nat.mul_add_mod, Nat.mod_eq_of_lt (by omega)]; omega
      rw [e2, e3]
      congr 1 <;> omega
    · right
      have hK' : K = 2 * f.binade := by omega
      refine ⟨hK', ?_⟩
      subst hK'
      have e1 : (L - f.leastPlace).toNat * f.binade + 2 * f.binade = f.binade * ((L - f.leastPlace).toNat + 2) := by rw [Nat.mul_comm f.binade, Nat.add_mul]
      rw [e1, Nat.mul_div_cancel_left _ hB, Nat.mul_mod_right]
      congr 1; omega

/-- The greatest power of two of the format. -/
def maxE : Int := f.leastPlace + 2 ^ f.exponentBits - 3 + f.fractionBits
theorem fin_of_mb (hf : 2 ≤ f.exponentBits) (neg : Bool) (mag : Nat) (place e : Int) (h0 : mag ≠ 0) (h : mb mag place e) (he1 : f.leastPlace ≤ e) (he2 : e ≤ maxE f) :
    (lastP f mag place - f.leastPlace).toNat * f.binade + keptN f neg mag place < f.infRung := by
  have hB : 0 < f.binade := Nat.two_pow_pos _
  have hlog := log2_le_of_mb h0 h
  have hle : lastP f mag place ≤ e := by unfold lastP; omega
  have hup : lastP f mag place ≤ maxE f - f.fractionBits ∨ lastP f mag place = f.leastPlace := by unfold lastP; omega
  have hk := kept_le f neg mag place e hle h
  have htwo := kept_le_two f neg mag place
  have h4 : 4 ≤ 2 ^ f.exponentBits := Nat.le_trans (by decide : 4 ≤ 2 ^ 2) (Nat.pow_le_pow_right (by decide) hf)
  have hlp : f.leastPlace ≤ lastP f mag place := by unfold lastP; omega
  have hcast : ((2 : Int) ^ f.exponentBits) = ((2 ^ f.exponentBits : Nat) : Int) := by simp
  unfold maxE at hup he2
  rw [hcast] at hup he2
  unfold Format.infRung
  generalize 2 ^ f.exponentBits = E at *
  generalize hKn : keptN f neg mag place = K at *
  generalize hLn : lastP f mag place = L at *
  have key : (L - f.leastPlace).toNat * f.binade + K ≤ (E - 2) * f.binade := by
    by_cases hc : (L - f.leastPlace).toNat + 2 ≤ E - 2
    · calc (L - f.leastPlace).toNat * f.binade + K ≤ (L - f.leastPlace).toNat * f.binade + 2 * f.binade := by omega
        _ = ((L - f.leastPlace).toNat + 2) * f.binade := by rw [Nat.add_mul]
        _ ≤ (E - 2) * f.binade := Nat.mul_le_mul_right _ hc
    · have hL : (L - f.leastPlace).toNat = E - 3 := by omega
      have hK : K ≤ f.binade := by
        refine Nat.le_trans hk (Nat.pow_le_pow_right (by decide) ?_)
        omega
      calc (L - f.leastPlace).toNat * f.binade + K ≤ (E - 3) * f.binade + 1 * f.binade := by rw [hL]; omega
        _ = (E - 3 + 1) * f.binade := by rw [Nat.add_mul]
        _ ≤ (E - 2) * f.binade := Nat.mul_le_mul_right _ (by omega)
  have : (E - 2) * f.binade + f.binade = (E - 1) * f.binade := by rw [← Nat.succ_mul]; congr 1; omega
  omega
end nearest

/-- A finite float of absolute value at most 2^e. -/
def bnd (k : FloatKind) (x : Nat) (e : Int) : Prop := ∃ s m p, k.format.read x = .number s m p ∧ mb m p e

theorem expBits (k : FloatKind) : 2 ≤ k.format.exponentBits := by cases k <;> decide
theorem bnd_nearest (k : FloatKind) (neg : Bool) (mag : Nat) (place e : Int) (h : mb mag place e) (he1 : k.format.leastPlace ≤ e) (he2 : e ≤ maxE k.format) : bnd k (k.format.nearest neg mag place) e := by
  by_cases h0 : mag = 0
  · subst h0
    refine ⟨neg, 0, k.format.leastPlace, ?_, .inl rfl⟩
    have hs : 0 < k.format.signWeight := Nat.two_pow_pos _
    have hB : 0 < k.format.binade := Nat.two_pow_pos _
    unfold Format.nearest
    rw [if_pos rfl]
    unfold Format.read
    simp only [word_mod k.format neg hs, word_neg k.format neg hs]
    rw [if_pos hB]
  · have hlog := log2_le_of_mb h0 h
    have hle : lastP k.format mag place ≤ e := by unfold lastP; omega
    have hk := kept_le k.format neg mag place e hle h
    rcases read_nearest k.format neg mag place h0 (fin_of_mb k.format (expBits k) neg mag place e h0 h he1 he2) with hr | ⟨h2, hr⟩
    · exact ⟨_, _, _, hr, .inr ⟨hle, hk⟩⟩
    · have hB : 0 < k.format.binade := Nat.two_pow_pos _
      rw [h2] at hk
      have h3 : lastP k.format mag place + 1 ≤ e := by
        rcases Int.lt_or_le (lastP k.format mag place) e with h | h
        · omega
        · rw [show (e - lastP k.format mag place).toNat = 0 by omega] at hk; omega
      refine ⟨_, _, _, hr, .inr ⟨h3, ?_⟩⟩
      have : 2 ^ (e - lastP k.format mag place).toNat = 2 * 2 ^ (e - (lastP k.format mag place + 1)).toNat := by rw [← Nat.pow_succ']; congr 1; omega
      omega

end Go.Proofs.Ytnkfbinppikhkaa
