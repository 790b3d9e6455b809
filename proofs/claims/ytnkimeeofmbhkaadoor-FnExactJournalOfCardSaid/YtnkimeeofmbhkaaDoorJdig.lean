/- Decimal digits, in plain words. No condition. -/
import Derived.Test.YtnkimeeofmbhkaaDoorRel
namespace Go.Proofs.YtnkimeeofmbhkaaDoor
set_option linter.unusedSimpArgs false
def dgt (d : Nat) : UInt8 := UInt8.ofNat (48 + d)
def dg (n : Nat) : List UInt8 := if _h : n < 10 then [dgt n] else dg (n / 10) ++ [dgt (n % 10)]
termination_by n
decreasing_by omega
theorem dg_small {n : Nat} (h : n < 10) : dg n = [dgt n] := by rw [dg, dif_pos h]
theorem dg_big {n : Nat} (h : ¬ n < 10) : dg n = dg (n / 10) ++ [dgt (n % 10)] := by rw [dg, dif_neg h]
theorem dg_len {n : Nat} (h : n < 100000) : 1 ≤ (dg n).length ∧ (dg n).length ≤ 5 := by
  by_cases h1 : n < 10
  · rw [dg_small h1]; simp
  · rw [dg_big h1]
    by_cases h2 : n / 10 < 10
    · rw [dg_small h2]; simp
    · rw [dg_big h2]
      by_cases h3 : n / 10 / 10 < 10
      · rw [dg_small h3]; simp
      · rw [dg_big h3]
        by_cases h4 : n / 10 / 10 / 10 < 10
        · rw [dg_small h4]; simp
        · rw [dg_big h4, dg_small (by omega)]; simp
theorem dg2 {n : Nat} (h0 : 10 ≤ n) (h1 : n < 100) : dg n = [dgt (n / 10), dgt (n % 10)] := by
  rw [dg_big (by omega), dg_small (by omega)]; rfl
theorem dg3 {n : Nat} (h0 : 100 ≤ n) (h1 : n < 1000) : dg n = [dgt (n / 100), dgt (n / 10 % 10), dgt (n % 10)] := by
  rw [dg_big (by omega), dg2 (by omega) (by omega), show n / 10 / 10 = n / 100 by omega]; rfl
theorem dg4 {n : Nat} (h0 : 1000 ≤ n) (h1 : n < 10000) : dg n = [dgt (n / 1000), dgt (n / 100 % 10), dgt (n / 10 % 10), dgt (n % 10)] := by
  rw [dg_big (by omega), dg3 (by omega) (by omega), show n / 10 / 100 = n / 1000 by omega, show n / 10 / 10 % 10 = n / 100 % 10 by omega]; rfl
theorem dg5 {n : Nat} (h0 : 10000 ≤ n) (h1 : n < 100000) : dg n = [dgt (n / 10000), dgt (n / 1000 % 10), dgt (n / 100 % 10), dgt (n / 10 % 10), dgt (n % 10)] := by
  rw [dg_big (by omega), dg4 (by omega) (by omega), show n / 10 / 1000 = n / 10000 by omega, show n / 10 / 100 % 10 = n / 1000 % 10 by omega, show n / 10 / 10 % 10 = n / 100 % 10 by omega]; rfl
/-- What the walk over the digits, from the last, keeps. -/
def DS (n m : Nat) (xs : List UInt8) : Prop := (dg m ++ xs = dg n ∧ (m ≠ 0 ∨ xs = [])) ∨ (m = 0 ∧ xs = dg n ∧ xs ≠ [])
theorem DS.step {n m : Nat} {xs : List UInt8} (h : DS n m xs) (hg : xs = [] ∨ m ≠ 0) : DS n (m / 10) (dgt (m % 10) :: xs) := by
  rcases h with ⟨h1, h2⟩ | ⟨h1, h2, h3⟩
  · by_cases hm : m < 10
    · rw [dg_small hm] at h1
      refine .inr ⟨by omega, ?_, by simp⟩
      rw [← h1, show m % 10 = m by omega]; rfl
    · rw [dg_big hm, List.append_assoc] at h1
      exact .inl ⟨h1, .inl (by omega)⟩
  · rcases hg with e | e
    · exact absurd e h3
    · exact absurd h1 e
theorem DS.last {n m : Nat} {xs : List UInt8} (h : DS n m xs) (h1 : xs ≠ []) (h2 : m = 0) : xs = dg n := by
  rcases h with ⟨-, h4⟩ | ⟨-, h4, -⟩
  · rcases h4 with e | e
    · exact absurd h2 e
    · exact absurd e h1
  · exact h4
theorem DS.len {n m : Nat} {xs : List UInt8} (h : DS n m xs) : xs.length ≤ (dg n).length := by
  rcases h with ⟨h1, -⟩ | ⟨-, h2, -⟩
  · rw [← h1, List.length_append]; omega
  · rw [h2]; exact Nat.le_refl _
end Go.Proofs.YtnkimeeofmbhkaaDoor
