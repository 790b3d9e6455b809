/- The laws of lists of places: whether they are places. No condition. -/
import Derived.Test.YtiaebemlcjjjhaaPls
import Derived.Deep.DeepCutAuto
namespace Go.Proofs.Ytiaebemlcjjjhaa
open Go.RowKit
set_option linter.unusedSimpArgs false

def canon (x : Nat → Nat) (j : Nat) : Nat := cn .f32 (x j)
theorem PlBlk.canon {w : World} {b n : Nat} {x y : Nat → Nat} (h : PlBlk w b n x y) : PlCells w b n (canon x) (canon y) := h.cells (fun _ _ => rfl) (fun _ _ => rfl)
theorem PlBlk.below {w w' : World} {B b n : Nat} {x y : Nat → Nat} (h : PlBlk w b n x y) (hb : Below B w w') (hlt : b < B) : PlBlk w' b n x y := rowIs_below h hb hlt
theorem PlArg.below {w w' : World} {A : Option Addr} {n : Nat} {x y : Nat → Nat} (h : PlArg w A n x y) (hb : Below w.heap.size w w') : PlArg w' A n x y := fun j hj => by
  obtain ⟨a, e, h0, h1, h2⟩ := h j hj
  exact ⟨a, e, Nat.lt_of_lt_of_le h0 hb.size, by rw [hb.cell (p := a.add (j * 2)) (by rw [block_add]; exact h0)]; exact h1, by rw [hb.cell (p := a.add (j * 2 + 1)) (by rw [block_add]; exact h0)]; exact h2⟩

set_option maxHeartbeats 400000 in
theorem sArePlaces_c (b n cap : Nat) (X Y : Nat → Nat) (w : World) (hn : n ≤ 1048576) (h : PlCells w b n X Y) :
    Calls Try.prog 46 #[.slice (some ⟨b, 0, none⟩) n cap] w fun e w' => e = .returned (.bool (arePl n X Y)) ∧ w = w' := by
  have H := Lib.hid (l02Are_c b n cap X Y w hn h)
  clear h
  go_enter Try.func46, Try.ntmps46
  go_wp2_with (go_at_call 86; refine (H.out).mono ?_; rintro e w' ⟨rfl, rfl⟩)
  go_ret
  exact ⟨rfl, rfl⟩

set_option maxHeartbeats 1000000 in
theorem lawArePlaces (A : Option Addr) (n cap : Nat) (x y : Nat → Nat) (w : World) (hn0 : n ≤ 9223372036854775807) (hA : PlArg w A n x y) : Calls Try.prog 14 #[.slice A n cap] w fun e w' => e = .returned (.bool true) ∧ Below w.heap.size w w' := by
  by_cases hn : n ≤ 1048576
  · have hsz := szPlaceS_c A n cap 1048576 (by decide) (by decide) hn0 w
    rw [if_neg (by omega)] at hsz
    have hl0 : ¬ (1048576 - (n : Int) < 0) := by omega
    have HS := Lib.hid hsz
    have HA := Lib.hid hA
    clear hsz hA
    go_enter Try.func14, Try.ntmps14
    go_upto_region 5 with (go_at_call 39; refine (HS.out).mono ?_; rintro e w' ⟨rfl, rfl⟩)
    go_wp2_with fail
    (go_at_call 41; refine (toPlaceS_c A n cap x y _ hn HA.out).mono ?_; rintro e w1 ⟨b1, rfl, hge_b1, hblk_b1, hbw_b1⟩)
    go_wp2_with fail
    (go_at_call 46; refine (sArePlaces_c b1 n n _ _ _ hn hblk_b1.canon).mono ?_; rintro e w' ⟨rfl, rfl⟩)
    go_wp2_with fail
    (go_at_call 41; refine (toPlaceS_c A n cap x y _ hn (HA.out.below hbw_b1)).mono ?_; rintro e w2 ⟨b2, rfl, hge_b2, hblk_b2, hbw_b2⟩)
    go_wp2_with fail
    (go_at_call 47; refine (iArePlaces_c b2 n n _ _ _ hblk_b2.lt hn hblk_b2.canon).mono ?_; rintro e w3 ⟨⟨v, rfl, rfl⟩, hb3⟩)
    go_wp2_with fail
    have hB3 : Below w.heap.size w w3 := (hbw_b1.trans (hbw_b2.mono hbw_b1.size)).trans (hb3.mono (Nat.le_trans hbw_b1.size hbw_b2.size))
    (go_at_call 41; refine (toPlaceS_c A n cap x y _ hn (HA.out.below hB3)).mono ?_; rintro e w4 ⟨b4, rfl, hge_b4, hblk_b4, hbw_b4⟩)
    go_wp2_with fail
    (go_at_call 43; refine (eqPlaceS_c b2 b4 n n n _ _ _ hn (Nat.lt_of_lt_of_le hblk_b2.lt (Nat.le_trans hb3.size hbw_b4.size)) hblk_b4.lt ((hblk_b2.below hb3 hblk_b2.lt).below hbw_b4 (Nat.lt_of_lt_of_le hblk_b2.lt hb3.size)).canon hblk_b4.canon).mono ?_; rintro e w5 ⟨⟨v, rfl, rfl⟩, hb5⟩)
    go_wp2
    go_ret
    exact ⟨rfl, (hB3.trans (hbw_b4.mono hB3.size)).trans (hb5.mono (Nat.le_trans hB3.size hbw_b4.size))⟩
  · have hsz := szPlaceS_c A n cap 1048576 (by decide) (by decide) hn0 w
    rw [if_pos (by omega)] at hsz
    have HS := Lib.hid hsz
    clear hsz hA
    go_enter Try.func14, Try.ntmps14
    go_wp2_with (go_at_call 39; refine (HS.out).mono ?_; rintro e w' ⟨rfl, rfl⟩)
    go_ret
    exact ⟨rfl, by (with_reducible repeat (first | exact Below.refl _ _ | apply below_alloc | apply below_dN | apply below_d | refine below_setCell ?_ (by dsimp only; omega) | refine below_call (by assumption) ?_))⟩
end Go.Proofs.Ytiaebemlcjjjhaa
