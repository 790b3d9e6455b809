/- Legs, by calculation: all of them. No condition. -/
import Derived.Test.YtnkfbinppikhkaaWkN
namespace Go.Proofs.Ytnkfbinppikhkaa
def lgAll (dx : Int) : Bool := (List.range 33).all fun k => lgB dx ((k : Int) - 16)
theorem lg1 : lgAll 1 = true := by decide +kernel
theorem lg2 : lgAll 2 = true := by decide +kernel
theorem lg3 : lgAll 3 = true := by decide +kernel
theorem lg4 : lgAll 4 = true := by decide +kernel
theorem lg5 : lgAll 5 = true := by decide +kernel
theorem lg6 : lgAll 6 = true := by decide +kernel
theorem lg7 : lgAll 7 = true := by decide +kernel
theorem lg_all {dx dy : Int} (h1 : 1 ≤ dx) (h2 : dx ≤ 7) (h3 : -16 ≤ dy) (h4 : dy ≤ 16) : lgB dx dy = true := by
  have h : lgAll dx = true := by
    rcases (by omega : dx = 1 ∨ dx = 2 ∨ dx = 3 ∨ dx = 4 ∨ dx = 5 ∨ dx = 6 ∨ dx = 7) with rfl | rfl | rfl | rfl | rfl | rfl | rfl
    · exact lg1
    · exact lg2
    · exact lg3
    · exact lg4
    · exact lg5
    · exact lg6
    · exact lg7
  have := List.all_eq_true.1 h (dy + 16).toNat (List.mem_range.2 (by omega))
  rwa [show (((dy + 16).toNat : Nat) : Int) - 16 = dy by omega] at this
end Go.Proofs.Ytnkfbinppikhkaa
