/- The law of CountOutputs. No condition. -/
import Derived.Test.YtnkimeeofmbhkaaLnF
namespace Go.Proofs.Ytnkimeeofmbhkaa
open Go.RowKit
set_option linter.unusedSimpArgs false
set_option maxRecDepth 100000 in
set_option maxHeartbeats 1000000 in
theorem lawCountOutputs (s : ByteArray) (w : World) : Calls Try.prog 6 #[.string s] w fun e w' => e = .returned (.bool true) ∧ Below w.heap.size w w' := by
  by_cases hs : s.size ≤ 1048576
  · have h1 : ¬ ((1048576 : Int) < (s.size : Int)) := by omega
    have hsS := sCount_c s hs
    have hsI := iCount_c s hs
    unfold CntR at hsS hsI
    generalize (if cntOk s then (nbad (lns0 s) : Int) else 0) = A at hsS hsI
    generalize (if cntOk s then ((lns0 s).length : Int) - (nbad (lns0 s) : Int) else 0) = B at hsS hsI
    generalize cntOk s = k at hsS hsI
    have HS := Lib.hid hsS
    have HI := Lib.hid hsI
    clear hsS hsI
    go_enter Try.func6, Try.ntmps6
    go_wp2_with (first | (go_at_call 26; ((with_reducible refine (HS.out _).mono ?_); rintro e w1 ⟨rfl, hb1⟩)) | (go_at_call 27; ((with_reducible refine (HI.out _).mono ?_); rintro e w2 ⟨rfl, hb2⟩)))
    go_ret
    exact ⟨rfl, by (with_reducible repeat (first | exact Below.refl _ _ | apply below_alloc | apply below_dN | apply below_d | refine below_setCell ?_ (by dsimp only; omega) | refine below_call (by assumption) ?_))⟩
  · have h1 : (1048576 : Int) < (s.size : Int) := by omega
    go_enter Try.func6, Try.ntmps6
    go_wp2
    go_ret
    exact ⟨rfl, by (with_reducible repeat (first | exact Below.refl _ _ | apply below_alloc | apply below_dN | apply below_d | refine below_setCell ?_ (by dsimp only; omega) | refine below_call (by assumption) ?_))⟩
end Go.Proofs.Ytnkimeeofmbhkaa
