/- Where a list is cut into pieces, in plain words. No condition. -/
import Derived.Test.YtnkimeeofmbhkaaRel
namespace Go.Proofs.Ytnkimeeofmbhkaa
set_option linter.unusedSimpArgs false
/-- How many pieces there are up to place i. -/
def pK (ct : Nat → Bool) : Nat → Nat
  | 0 => 0
  | i + 1 => if ct i = true then pK ct i + 1 else pK ct i
/-- Where piece j begins. -/
def pS (ct : Nat → Bool) : Nat → Nat → Nat
  | 0, _ => 0
  | i + 1, j => if ct i = true ∧ j = pK ct i then i else pS ct i j
/-- How many places piece j has. -/
def pL (ct : Nat → Bool) : Nat → Nat → Nat
  | 0, _ => 0
  | i + 1, j => if ct i = true then (if j = pK ct i then 1 else pL ct i j) else (if j + 1 = pK ct i then pL ct i j + 1 else pL ct i j)
variable {ct : Nat → Bool}
theorem pK_t {i : Nat} (h : ct i = true) : pK ct (i + 1) = pK ct i + 1 := if_pos h
theorem pK_f {i : Nat} (h : ct i = false) : pK ct (i + 1) = pK ct i := if_neg (by rw [h]; decide)
theorem pK_le : ∀ i, pK ct i ≤ i
  | 0 => Nat.le_refl _
  | i + 1 => by
    have := pK_le i
    cases h : ct i
    · rw [pK_f h]; omega
    · rw [pK_t h]; omega
theorem pK_pos (h0 : ct 0 = true) : ∀ i, 0 < i → 0 < pK ct i
  | 0, h => absurd h (by omega)
  | i + 1, _ => by
    cases h : ct i
    · rw [pK_f h]
      rcases Nat.eq_zero_or_pos i with rfl | hi
      · rw [h0] at h; cases h
      · exact pK_pos h0 i hi
    · rw [pK_t h]; omega
theorem pS_t {i j : Nat} (h : ct i = true) : pS ct (i + 1) j = if j = pK ct i then i else pS ct i j := by
  show (if ct i = true ∧ j = pK ct i then i else pS ct i j) = _
  by_cases e : j = pK ct i
  · rw [if_pos ⟨h, e⟩, if_pos e]
  · rw [if_neg (fun x => e x.2), if_neg e]
theorem pS_f {i j : Nat} (h : ct i = false) : pS ct (i + 1) j = pS ct i j := if_neg (fun x => by rw [h] at x; cases x.1)
theorem pL_t {i j : Nat} (h : ct i = true) : pL ct (i + 1) j = if j = pK ct i then 1 else pL ct i j := if_pos h
theorem pL_f {i j : Nat} (h : ct i = false) : pL ct (i + 1) j = if j + 1 = pK ct i then pL ct i j + 1 else pL ct i j := if_neg (by rw [h]; decide)
/-- The last piece ends where the walk stands. -/
theorem p_last (h0 : ct 0 = true) : ∀ i, 0 < i → pS ct i (pK ct i - 1) + pL ct i (pK ct i - 1) = i
  | 0, h => absurd h (by omega)
  | i + 1, _ => by
    cases h : ct i
    · rcases Nat.eq_zero_or_pos i with rfl | hi
      · rw [h0] at h; cases h
      · have ih := p_last h0 i hi
        have hp := pK_pos h0 i hi
        rw [pK_f h, pS_f h, pL_f h, if_pos (by omega)]
        omega
    · rw [pK_t h, Nat.add_sub_cancel, pS_t h, pL_t h, if_pos rfl, if_pos rfl]
theorem pL_pos : ∀ i j, j < pK ct i → 1 ≤ pL ct i j
  | 0, j, h => absurd h (by simp [pK])
  | i + 1, j, hj => by
    cases h : ct i
    · rw [pK_f h] at hj
      have := pL_pos i j hj
      rw [pL_f h]
      split <;> omega
    · rw [pK_t h] at hj
      rw [pL_t h]
      split
      · omega
      · exact pL_pos i j (by omega)
/-- A piece's places are among the list's. -/
theorem p_in : ∀ i j, j < pK ct i → pS ct i j + pL ct i j ≤ i
  | 0, j, h => absurd h (by simp [pK])
  | i + 1, j, hj => by
    cases h : ct i
    · rw [pK_f h] at hj
      have := p_in i j hj
      rw [pS_f h, pL_f h]
      split <;> omega
    · rw [pK_t h] at hj
      rw [pS_t h, pL_t h]
      by_cases e : j = pK ct i
      · rw [if_pos e, if_pos e]; omega
      · rw [if_neg e, if_neg e]
        have := p_in i j (by omega)
        omega
def sumP (f : Nat → Nat) : Nat → Nat
  | 0 => 0
  | k + 1 => sumP f k + f k
theorem sumP_congr {f g : Nat → Nat} : ∀ {k : Nat}, (∀ j, j < k → f j = g j) → sumP f k = sumP g k
  | 0, _ => rfl
  | k + 1, h => by
    show sumP f k + f k = sumP g k + g k
    rw [sumP_congr (k := k) (fun j hj => h j (by omega)), h k (by omega)]
/-- All pieces together have as many places as the list. -/
theorem p_sum (h0 : ct 0 = true) : ∀ i, sumP (pL ct i) (pK ct i) = i
  | 0 => rfl
  | i + 1 => by
    have ih := p_sum h0 i
    cases h : ct i
    · rcases Nat.eq_zero_or_pos i with rfl | hi
      · rw [h0] at h; cases h
      · have hp := pK_pos h0 i hi
        rw [pK_f h]
        obtain ⟨K, hK⟩ : ∃ K, pK ct i = K + 1 := ⟨pK ct i - 1, by omega⟩
        rw [hK] at ih ⊢
        show sumP (pL ct (i + 1)) K + pL ct (i + 1) K = i + 1
        have e1 : sumP (pL ct (i + 1)) K = sumP (pL ct i) K := sumP_congr fun j hj => by rw [pL_f h, if_neg (by omega)]
        have e2 : pL ct (i + 1) K = pL ct i K + 1 := by rw [pL_f h, if_pos (by omega)]
        have e3 : sumP (pL ct i) K + pL ct i K = i := ih
        omega
    · rw [pK_t h]
      show sumP (pL ct (i + 1)) (pK ct i) + pL ct (i + 1) (pK ct i) = i + 1
      have e1 : sumP (pL ct (i + 1)) (pK ct i) = sumP (pL ct i) (pK ct i) := sumP_congr fun j hj => by rw [pL_t h, if_neg (by omega)]
      have e2 : pL ct (i + 1) (pK ct i) = 1 := by rw [pL_t h, if_pos rfl]
      omega
end Go.Proofs.Ytnkimeeofmbhkaa
