/- Contracts of the laws' comparison of floats, places and ways that are the same. No condition. -/
import Derived.Test.YtnkfbinppikhkaaSinS
namespace Go.Proofs.Ytnkfbinppikhkaa
open Go.RowKit
set_option linter.unusedSimpArgs false

theorem feq_self (k : FloatKind) (x : Nat) : feq k x x = !nanB k x := by
  unfold feq nanB Ieee.Format.order
  cases e : k.format.read x with
  | nan s f => rfl
  | infinity s => cases s <;> rfl
  | number s m p => simp [Ieee.Datum.order, Ieee.Datum.isNaN]


-- left out here: sameFloat_c
-- left out here: eqPlace_c
-- left out here: eqWay_c
end Go.Proofs.Ytnkfbinppikhkaa
