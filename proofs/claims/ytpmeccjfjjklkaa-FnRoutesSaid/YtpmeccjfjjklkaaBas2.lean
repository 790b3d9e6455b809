/- Bounds of integers. No condition. -/
import Derived.Test.YtpmeccjfjjklkaaRel
namespace Go.Proofs.Ytpmeccjfjjklkaa
open Go.RowKit
set_option linter.unusedSimpArgs false
set_option maxHeartbeats 400000 in
theorem within_c (n l h : Int) (w : World) : Calls Try.prog 51 #[.int .i64 n, .int .i64 l, .int .i64 h] w fun e w' => e = .returned (.bool (decide (l ≤ n) && decide (n ≤ h))) ∧ w = w' := by
  cases h1 : decide (l ≤ n) <;>
  (go_enter Try.func51, Try.ntmps51
   go_wp2
   go_ret
   exact ⟨by simp [*], rfl⟩)

set_option maxHeartbeats 400000 in
theorem l00In_c (n l h : Int) (w : World) : Calls Try.prog 65 #[.int .i64 n, .int .i64 l, .int .i64 h] w fun e w' => e = .returned (.bool (decide (l ≤ n) && decide (n ≤ h))) ∧ w = w' := by
  cases h1 : decide (l ≤ n) <;>
  (go_enter Try.func65, Try.ntmps65
   go_wp2
   go_ret
   exact ⟨by simp [*], rfl⟩)
end Go.Proofs.Ytpmeccjfjjklkaa
