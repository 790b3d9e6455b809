/- The law of ArePacked. No condition. -/
import Derived.Test.YteecbhmgogndaaaPk
namespace Go.Proofs.Yteecbhmgogndaaa
open Go.RowKit
set_option linter.unusedSimpArgs false

theorem canonW_of {w : World} {b n : Nat} {x y : Nat → Nat} (h : PlBlk w b n x y) (hw : ∀ j, j < n → (Lit.float .f32 (x j)).wf = true ∧ (Lit.float .f32 (y j)).wf = true) : PlW w b n (canon x) (canon y) := fun j hj => by
  have h0 := h.cell (i := j * 2) (by omega)
  have h1 := h.cell (i := j * 2 + 1) (by omega)
  refine ⟨x j, y j, ?_, ?_, rfl, rfl, (hw j hj).1, (hw j hj).2⟩
  · rw [h0]; simp [pc]
  · rw [h1]; unfold pc; rw [if_neg (by omega), show (j * 2 + 1) / 2 = j by omega]

set_option maxHeartbeats 1000000 in
theorem lawArePacked (A : Option Addr) (n cap : Nat) (x y : Nat → Nat) (w : World) (hn0 : n ≤ 9223372036854775807) (hA : PlArg w A n x y) (hwf : ∀ j, j < n → (Lit.float .f32 (x j)).wf = true ∧ (Lit.float .f32 (y j)).wf = true) : Calls Try.prog 6 #[.slice A n cap] w fun e w' => e = .returned (.bool true) ∧ Below w.heap.size w w' := by
  by_cases hn : n ≤ 1048576
  · have hsz := szPlaceS_c A n cap 1048576 (by decide) (by decide) hn0 w
    rw [if_neg (by omega)] at hsz
    have hl0 : ¬ (1048576 - (n : Int) < 0) := by omega
    have HS := Lib.hid hsz
    have HA := Lib.hid hA
    have HW := Lib.hid hwf
    clear hsz hA hwf
    go_enter Try.func6, Try.ntmps6
    go_upto_region 5 with (go_at_call 19; refine (HS.out).mono ?_; rintro e w' ⟨rfl, rfl⟩)
    go_wp2_with fail
    (go_at_call 21; refine (toPlaceS_c A n cap x y _ hn HA.out).mono ?_; rintro e w1 ⟨b1, rfl, hge_b1, hblk_b1, hbw_b1⟩)
    go_wp2_with fail
    (go_at_call 20; refine (sArePacked_c b1 n n _ _ _ hblk_b1.lt hn (canonW_of hblk_b1 HW.out)).mono ?_; rintro e w1' ⟨⟨v, rfl, rfl⟩, hb1'⟩)
    go_wp2_with fail
    have hB1 : Below w.heap.size w w1' := hbw_b1.trans (hb1'.mono hbw_b1.size)
    (go_at_call 21; refine (toPlaceS_c A n cap x y _ hn (HA.out.below hB1)).mono ?_; rintro e w2 ⟨b2, rfl, hge_b2, hblk_b2, hbw_b2⟩)
    go_wp2_with fail
    (go_at_call 22; refine (iArePacked_c b2 n n _ _ _ hblk_b2.lt hn (canonW_of hblk_b2 HW.out)).mono ?_; rintro e w3 ⟨⟨v, rfl, rfl⟩, hb3⟩)
    go_wp2_with fail
    have hB2 : Below w.heap.size w w2 := hB1.trans (hbw_b2.mono hB1.size)
    have hB3 : Below w.heap.size w w3 := hB2.trans (hb3.mono hB2.size)
    (go_at_call 21; refine (toPlaceS_c A n cap x y _ hn (HA.out.below hB3)).mono ?_; rintro e w4 ⟨b4, rfl, hge_b4, hblk_b4, hbw_b4⟩)
    go_wp2_with fail
    (go_at_call 23; refine (eqPlaceS_c b2 b4 n n n _ _ _ hn (Nat.lt_of_lt_of_le hblk_b2.lt (Nat.le_trans hb3.size hbw_b4.size)) hblk_b4.lt ((hblk_b2.below hb3 hblk_b2.lt).below hbw_b4 (Nat.lt_of_lt_of_le hblk_b2.lt hb3.size)).canon hblk_b4.canon).mono ?_; rintro e w5 ⟨⟨v, rfl, rfl⟩, hb5⟩)
    go_wp2
    go_ret
    exact ⟨rfl, (hB3.trans (hbw_b4.mono hB3.size)).trans (hb5.mono (Nat.le_trans hB3.size hbw_b4.size))⟩
  · have hsz := szPlaceS_c A n cap 1048576 (by decide) (by decide) hn0 w
    rw [if_pos (by omega)] at hsz
    have HS := Lib.hid hsz
    clear hsz hA hwf
    go_enter Try.func6, Try.ntmps6
    go_wp2_with (go_at_call 19; refine (HS.out).mono ?_; rintro e w' ⟨rfl, rfl⟩)
    go_ret
    exact ⟨rfl, by (with_reducible repeat (first | exact Below.refl _ _ | apply below_alloc | apply below_dN | apply below_d | refine below_setCell ?_ (by dsimp only; omega) | refine below_call (by assumption) ?_))⟩
end Go.Proofs.Yteecbhmgogndaaa
