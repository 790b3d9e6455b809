/- Small questions of the laws: how long, a number out of bytes, whether whole numbers are the same. No condition. -/
import Derived.Test.YtnkfbinppikhkaaWSr
namespace Go.Proofs.Ytnkfbinppikhkaa
open Go.RowKit Go.IntWalk
set_option linter.unusedSimpArgs false
set_option maxHeartbeats 1000000 in
theorem b10Long_c (n c m c' : Nat) (A A' : Option Addr) (w : World) : Calls Try.prog 4 #[.slice A n c, .slice A' m c'] w (Ret (RV (.bool (decide (1048576 < n) || decide (1048576 < m)))) w) := by
  by_cases h1 : 1048576 < n
  · have h1' : (1048576 : Int) < (n : Int) := by omega
    rw [decide_eq_true h1]
    go_enter Try.func4, Try.ntmps4
    go_wp2
    go_ret
    exact ⟨⟨_, rfl, rfl⟩, Below.refl _ _⟩
  · have h1' : ¬ (1048576 : Int) < (n : Int) := by omega
    rw [decide_eq_false h1]
    by_cases h2 : 1048576 < m
    · have h2' : (1048576 : Int) < (m : Int) := by omega
      rw [decide_eq_true h2]
      go_enter Try.func4, Try.ntmps4
      go_wp2
      go_ret
      exact ⟨⟨_, rfl, rfl⟩, Below.refl _ _⟩
    · have h2' : ¬ (1048576 : Int) < (m : Int) := by omega
      rw [decide_eq_false h2]
      go_enter Try.func4, Try.ntmps4
      go_wp2
      go_ret
      exact ⟨⟨_, rfl, rfl⟩, Below.refl _ _⟩
set_option maxRecDepth 100000 in
set_option maxHeartbeats 1000000 in
theorem b10At_c (n c k m : Nat) (A : Option Addr) (w : World) (hk : k ≤ 10) (hm : 1 ≤ m) (hm2 : m ≤ 200) (hA : ByArg w A n) : Calls Try.prog 5 #[.slice A n c, .int .i64 (k : Int), .int .i64 (m : Int)] w fun e w' => ∃ r : Nat, r < m ∧ e = .returned (.int .i64 (r : Int)) ∧ w = w' := by
  by_cases h1 : m ≤ 1
  · have h1' : (m : Int) ≤ 1 := by omega
    go_enter Try.func5, Try.ntmps5
    go_wp2
    go_ret
    exact ⟨0, by omega, rfl, rfl⟩
  · have h1' : ¬ (m : Int) ≤ 1 := by omega
    have h3 : ¬ (m : Int) = 0 := by omega
    by_cases h2 : n ≤ k
    · have h2' : ¬ (k : Int) < (n : Int) := by omega
      have hw1 : IntKind.i64.wrap ((k : Int) * 37) = (k : Int) * 37 := by rw [IntKind.wrap_i64]; omega
      have hw2 : IntKind.i64.wrap ((k : Int) * 37 + 11) = (k : Int) * 37 + 11 := by rw [IntKind.wrap_i64]; omega
      clear hA
      go_enter Try.func5, Try.ntmps5
      go_wp2
      have hmod : ((k : Int) * 37 + 11).tmod (m : Int) = (((k * 37 + 11) % m : Nat) : Int) := by
        rw [Int.tmod_eq_emod_of_nonneg (by omega)]; simp
      go_ret
      exact ⟨(k * 37 + 11) % m, Nat.mod_lt _ (by omega), by simp, rfl⟩
    · have h2'' : (k : Int) < (n : Int) := by omega
      obtain ⟨a, x, rfl, ha, hx, hx0, hx1⟩ := hA k (by omega)
      have hw : IntKind.i64.wrap x = x := by rw [IntKind.wrap_i64]; omega
      clear hA
      go_enter Try.func5, Try.ntmps5
      go_wp2
      have hmod : x.tmod (m : Int) = ((x.toNat % m : Nat) : Int) := by
        rw [Int.tmod_eq_emod_of_nonneg hx0, Int.natCast_emod, Int.toNat_of_nonneg hx0]
      go_ret
      exact ⟨x.toNat % m, Nat.mod_lt _ (by omega), by simp [Int.max_eq_left hx0], rfl⟩
-- left out here: b10Ints_c
end Go.Proofs.Ytnkfbinppikhkaa
