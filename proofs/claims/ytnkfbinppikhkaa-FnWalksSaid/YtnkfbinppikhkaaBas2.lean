/- Bounds of integers. No condition. -/
import Derived.Test.YtnkfbinppikhkaaRel
namespace Go.Proofs.Ytnkfbinppikhkaa
open Go.RowKit
set_option linter.unusedSimpArgs false
set_option maxHeartbeats 400000 in
theorem within_c (n l h : Int) (w : World) : Calls Try.prog 26 #[.int .i64 n, .int .i64 l, .int .i64 h] w fun e w' => e = .returned (.bool (decide (l ≤ n) && decide (n ≤ h))) ∧ w = w' := by
  cases h1 : decide (l ≤ n) <;>
  (go_enter Try.func26, Try.ntmps26
   go_wp2
   go_ret
   exact ⟨by simp [*], rfl⟩)

-- left out here: l00In_c
end Go.Proofs.Ytnkfbinppikhkaa
