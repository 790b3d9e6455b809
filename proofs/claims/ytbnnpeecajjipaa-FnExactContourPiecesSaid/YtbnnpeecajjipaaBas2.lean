/- Bounds of integers. No condition. -/
import Derived.Test.YtbnnpeecajjipaaRel
namespace Go.Proofs.Ytbnnpeecajjipaa
open Go.RowKit
set_option linter.unusedSimpArgs false
set_option maxHeartbeats 400000 in
theorem within_c (n l h : Int) (w : World) : Calls Try.prog 80 #[.int .i64 n, .int .i64 l, .int .i64 h] w fun e w' => e = .returned (.bool (decide (l ≤ n) && decide (n ≤ h))) ∧ w = w' := by
  cases h1 : decide (l ≤ n) <;>
  (go_enter Try.func80, Try.ntmps80
   go_wp2
   go_ret
   exact ⟨by simp [*], rfl⟩)

set_option maxHeartbeats 400000 in
theorem l00In_c (n l h : Int) (w : World) : Calls Try.prog 77 #[.int .i64 n, .int .i64 l, .int .i64 h] w fun e w' => e = .returned (.bool (decide (l ≤ n) && decide (n ≤ h))) ∧ w = w' := by
  cases h1 : decide (l ≤ n) <;>
  (go_enter Try.func77, Try.ntmps77
   go_wp2
   go_ret
   exact ⟨by simp [*], rfl⟩)
end Go.Proofs.Ytbnnpeecajjipaa
