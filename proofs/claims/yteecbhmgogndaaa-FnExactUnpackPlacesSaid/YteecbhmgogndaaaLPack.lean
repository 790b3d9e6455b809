/- The law of PackPlaces. No condition. -/
import Derived.Test.YteecbhmgogndaaaPack
import Derived.Test.YteecbhmgogndaaaLArePk
namespace Go.Proofs.Yteecbhmgogndaaa
open Go.RowKit
set_option linter.unusedSimpArgs false

theorem arePk_ok {n : Nat} {X Y : Nat → Nat} (h : arePk n X Y = true) : (1 ≤ n ∧ n ≤ 64) ∧ ∀ j, j < n → vplace (X j) (Y j) = true := by
  simp only [arePk, arePl, Bool.and_eq_true, decide_eq_true_eq] at h
  exact ⟨h.1.2, allP_of h.1.1⟩
def packS (n : Nat) (X Y : Nat → Nat) : ByteArray := if arePk n X Y then strL (pkL X Y n) else ⟨#[]⟩
set_option maxHeartbeats 1000000 in
theorem sPackPlaces_c (b n cap : Nat) (X Y : Nat → Nat) (w : World) (hb : b < w.heap.size) (hn : n ≤ 1048576) (h : PlW w b n X Y) :
    Calls Try.prog 24 #[.slice (some ⟨b, 0, none⟩) n cap] w (Ret (RV (.tuple #[.string (packS n X Y), .bool (arePk n X Y)])) w) := by
  have H := Lib.hid (l07Packed_c b n cap X Y w hb hn h)
  unfold packS
  cases hp : arePk n X Y
  · rw [hp] at H
    clear h
    go_enter Try.func24, Try.ntmps24
    go_wp2_with (go_at_call 42; ((with_reducible refine (H.out).mono ?_); rintro e w1 ⟨⟨v, rfl, rfl⟩, hb⟩); have hu2 : ∀ n : Nat, n < n + 1 + 1 := (fun n => by omega); have hu3 : ∀ n : Nat, n < n + 1 + 1 + 1 := (fun n => by omega); obtain ⟨hc, hfz⟩ := bcell hb; (try simp only [World.heap_drewN] at hc hfz); have hs_ := hb.size; (try simp at hs_); (try have hz0 : w.heap.size < w1.heap.size := (by omega)); (try have hz1 : w.heap.size + 1 < w1.heap.size := (by omega)); (try have hz2 : w.heap.size + 2 < w1.heap.size := (by omega)); (try have hz3 : w.heap.size + 3 < w1.heap.size := (by omega)); (try have hza : wa.heap.size < w1.heap.size := (by omega)); (try have hza1 : wa.heap.size + 1 < w1.heap.size := (by omega)); (try have hzb : wb.heap.size < w1.heap.size := (by omega)); (try have hzb1 : wb.heap.size + 1 < w1.heap.size := (by omega)); (try have hzc : wc.heap.size < w1.heap.size := (by omega)); (try have hzd : wd.heap.size < w1.heap.size := (by omega)))
    go_ret2
    exact ⟨⟨_, rfl, rfl⟩, by (with_reducible repeat (first | exact Below.refl _ _ | apply below_alloc | apply below_dN | apply below_d | refine below_setCell ?_ (by dsimp only; omega) | refine below_call (by assumption) ?_))⟩
  · rw [hp] at H
    obtain ⟨⟨n1, n2⟩, hv⟩ := arePk_ok hp
    have HP := Lib.hid (fun (w' : World) (hB : Below w.heap.size w w') => l07Pack_c b n cap X Y w' (Nat.lt_of_lt_of_le hb hB.size) n1 n2 hv (h.below hB hb).cells)
    rw [if_pos rfl]
    obtain ⟨S, hS⟩ : ∃ S, strL (pkL X Y n) = S := ⟨_, rfl⟩
    rw [hS] at HP
    rw [hS]
    clear h hv hp hS
    go_enter Try.func24, Try.ntmps24
    go_wp2_with (first | (go_at_call 42; ((with_reducible refine (H.out).mono ?_); rintro e w1 ⟨⟨v, rfl, rfl⟩, hb⟩); have hu2 : ∀ n : Nat, n < n + 1 + 1 := (fun n => by omega); have hu3 : ∀ n : Nat, n < n + 1 + 1 + 1 := (fun n => by omega); obtain ⟨hc, hfz⟩ := bcell hb; (try simp only [World.heap_drewN] at hc hfz); have hs_ := hb.size; (try simp at hs_); (try have hz0 : w.heap.size < w1.heap.size := (by omega)); (try have hz1 : w.heap.size + 1 < w1.heap.size := (by omega)); (try have hz2 : w.heap.size + 2 < w1.heap.size := (by omega)); (try have hz3 : w.heap.size + 3 < w1.heap.size := (by omega)); (try have hza : wa.heap.size < w1.heap.size := (by omega)); (try have hza1 : wa.heap.size + 1 < w1.heap.size := (by omega)); (try have hzb : wb.heap.size < w1.heap.size := (by omega)); (try have hzb1 : wb.heap.size + 1 < w1.heap.size := (by omega)); (try have hzc : wc.heap.size < w1.heap.size := (by omega)); (try have hzd : wd.heap.size < w1.heap.size := (by omega))) | (go_at_call 47; ((with_reducible refine (HP.out _ (by (with_reducible repeat (first | exact Below.refl _ _ | apply below_alloc | apply below_dN | apply below_d | refine below_setCell ?_ (by dsimp only; omega) | refine below_call (by assumption) ?_)))).mono ?_); rintro e w1 ⟨⟨v, rfl, rfl⟩, hb⟩); have hu2 : ∀ n : Nat, n < n + 1 + 1 := (fun n => by omega); have hu3 : ∀ n : Nat, n < n + 1 + 1 + 1 := (fun n => by omega); obtain ⟨hc, hfz⟩ := bcell hb; (try simp only [World.heap_drewN] at hc hfz); have hs_ := hb.size; (try simp at hs_); (try have hz0 : w.heap.size < w1.heap.size := (by omega)); (try have hz1 : w.heap.size + 1 < w1.heap.size := (by omega)); (try have hz2 : w.heap.size + 2 < w1.heap.size := (by omega)); (try have hz3 : w.heap.size + 3 < w1.heap.size := (by omega)); (try have hza : wa.heap.size < w1.heap.size := (by omega)); (try have hza1 : wa.heap.size + 1 < w1.heap.size := (by omega)); (try have hzb : wb.heap.size < w1.heap.size := (by omega)); (try have hzb1 : wb.heap.size + 1 < w1.heap.size := (by omega)); (try have hzc : wc.heap.size < w1.heap.size := (by omega)); (try have hzd : wd.heap.size < w1.heap.size := (by omega))))
    go_ret2
    exact ⟨⟨_, rfl, rfl⟩, by (with_reducible repeat (first | exact Below.refl _ _ | apply below_alloc | apply below_dN | apply below_d | refine below_setCell ?_ (by dsimp only; omega) | refine below_call (by assumption) ?_))⟩
set_option maxHeartbeats 1000000 in
theorem iPackPlaces_c (b n cap : Nat) (X Y : Nat → Nat) (w : World) (hb : b < w.heap.size) (hn : n ≤ 1048576) (h : PlW w b n X Y) :
    Calls Try.prog 25 #[.slice (some ⟨b, 0, none⟩) n cap] w (Ret (RV (.tuple #[.string (packS n X Y), .bool (arePk n X Y)])) w) := by
  have H := Lib.hid (iArePacked_c b n cap X Y w hb hn h)
  unfold packS
  cases hp : arePk n X Y
  · rw [hp] at H
    clear h
    go_enter Try.func25, Try.ntmps25
    go_wp2_with (go_at_call 22; ((with_reducible refine (H.out).mono ?_); rintro e w1 ⟨⟨v, rfl, rfl⟩, hb⟩); have hu2 : ∀ n : Nat, n < n + 1 + 1 := (fun n => by omega); have hu3 : ∀ n : Nat, n < n + 1 + 1 + 1 := (fun n => by omega); obtain ⟨hc, hfz⟩ := bcell hb; (try simp only [World.heap_drewN] at hc hfz); have hs_ := hb.size; (try simp at hs_); (try have hz0 : w.heap.size < w1.heap.size := (by omega)); (try have hz1 : w.heap.size + 1 < w1.heap.size := (by omega)); (try have hz2 : w.heap.size + 2 < w1.heap.size := (by omega)); (try have hz3 : w.heap.size + 3 < w1.heap.size := (by omega)); (try have hza : wa.heap.size < w1.heap.size := (by omega)); (try have hza1 : wa.heap.size + 1 < w1.heap.size := (by omega)); (try have hzb : wb.heap.size < w1.heap.size := (by omega)); (try have hzb1 : wb.heap.size + 1 < w1.heap.size := (by omega)); (try have hzc : wc.heap.size < w1.heap.size := (by omega)); (try have hzd : wd.heap.size < w1.heap.size := (by omega)))
    go_ret2
    exact ⟨⟨_, rfl, rfl⟩, by (with_reducible repeat (first | exact Below.refl _ _ | apply below_alloc | apply below_dN | apply below_d | refine below_setCell ?_ (by dsimp only; omega) | refine below_call (by assumption) ?_))⟩
  · rw [hp] at H
    obtain ⟨⟨n1, n2⟩, hv⟩ := arePk_ok hp
    have HP := Lib.hid (fun (w' : World) (hB : Below w.heap.size w w') => packPlaces_c b n cap X Y w' (Nat.lt_of_lt_of_le hb hB.size) n1 n2 hv (h.below hB hb).cells)
    rw [if_pos rfl]
    obtain ⟨S, hS⟩ : ∃ S, strL (pkL X Y n) = S := ⟨_, rfl⟩
    rw [hS] at HP
    rw [hS]
    clear h hv hp hS
    go_enter Try.func25, Try.ntmps25
    go_wp2_with (first | (go_at_call 22; ((with_reducible refine (H.out).mono ?_); rintro e w1 ⟨⟨v, rfl, rfl⟩, hb⟩); have hu2 : ∀ n : Nat, n < n + 1 + 1 := (fun n => by omega); have hu3 : ∀ n : Nat, n < n + 1 + 1 + 1 := (fun n => by omega); obtain ⟨hc, hfz⟩ := bcell hb; (try simp only [World.heap_drewN] at hc hfz); have hs_ := hb.size; (try simp at hs_); (try have hz0 : w.heap.size < w1.heap.size := (by omega)); (try have hz1 : w.heap.size + 1 < w1.heap.size := (by omega)); (try have hz2 : w.heap.size + 2 < w1.heap.size := (by omega)); (try have hz3 : w.heap.size + 3 < w1.heap.size := (by omega)); (try have hza : wa.heap.size < w1.heap.size := (by omega)); (try have hza1 : wa.heap.size + 1 < w1.heap.size := (by omega)); (try have hzb : wb.heap.size < w1.heap.size := (by omega)); (try have hzb1 : wb.heap.size + 1 < w1.heap.size := (by omega)); (try have hzc : wc.heap.size < w1.heap.size := (by omega)); (try have hzd : wd.heap.size < w1.heap.size := (by omega))) | (go_at_call 48; ((with_reducible refine (HP.out _ (by (with_reducible repeat (first | exact Below.refl _ _ | apply below_alloc | apply below_dN | apply below_d | refine below_setCell ?_ (by dsimp only; omega) | refine below_call (by assumption) ?_)))).mono ?_); rintro e w1 ⟨⟨v, rfl, rfl⟩, hb⟩); have hu2 : ∀ n : Nat, n < n + 1 + 1 := (fun n => by omega); have hu3 : ∀ n : Nat, n < n + 1 + 1 + 1 := (fun n => by omega); obtain ⟨hc, hfz⟩ := bcell hb; (try simp only [World.heap_drewN] at hc hfz); have hs_ := hb.size; (try simp at hs_); (try have hz0 : w.heap.size < w1.heap.size := (by omega)); (try have hz1 : w.heap.size + 1 < w1.heap.size := (by omega)); (try have hz2 : w.heap.size + 2 < w1.heap.size := (by omega)); (try have hz3 : w.heap.size + 3 < w1.heap.size := (by omega)); (try have hza : wa.heap.size < w1.heap.size := (by omega)); (try have hza1 : wa.heap.size + 1 < w1.heap.size := (by omega)); (try have hzb : wb.heap.size < w1.heap.size := (by omega)); (try have hzb1 : wb.heap.size + 1 < w1.heap.size := (by omega)); (try have hzc : wc.heap.size < w1.heap.size := (by omega)); (try have hzd : wd.heap.size < w1.heap.size := (by omega))))
    go_ret2
    exact ⟨⟨_, rfl, rfl⟩, by (with_reducible repeat (first | exact Below.refl _ _ | apply below_alloc | apply below_dN | apply below_d | refine below_setCell ?_ (by dsimp only; omega) | refine below_call (by assumption) ?_))⟩

set_option maxHeartbeats 1000000 in
theorem lawPackPlaces (A : Option Addr) (n cap : Nat) (x y : Nat → Nat) (w : World) (hn0 : n ≤ 9223372036854775807) (hA : PlArg w A n x y) (hwf : ∀ j, j < n → (Lit.float .f32 (x j)).wf = true ∧ (Lit.float .f32 (y j)).wf = true) : Calls Try.prog 7 #[.slice A n cap] w fun e w' => e = .returned (.bool true) ∧ Below w.heap.size w w' := by
  by_cases hn : n ≤ 1048576
  · have hsz := szPlaceS_c A n cap 1048576 (by decide) (by decide) hn0 w
    rw [if_neg (by omega)] at hsz
    have hl0 : ¬ (1048576 - (n : Int) < 0) := by omega
    have HS := Lib.hid hsz
    have HA := Lib.hid hA
    have HW := Lib.hid hwf
    clear hsz hA hwf
    obtain ⟨S, hS⟩ : ∃ S, packS n (canon x) (canon y) = S := ⟨_, rfl⟩
    obtain ⟨K, hK⟩ : ∃ K, arePk n (canon x) (canon y) = K := ⟨_, rfl⟩
    have sH := Lib.hid (fun b w hb h => sPackPlaces_c b n n (canon x) (canon y) w hb hn h)
    have iH := Lib.hid (fun b w hb h => iPackPlaces_c b n n (canon x) (canon y) w hb hn h)
    rw [hS, hK] at sH iH
    clear hS hK
    go_enter Try.func7, Try.ntmps7
    go_upto_region 5 with (go_at_call 19; refine (HS.out).mono ?_; rintro e w' ⟨rfl, rfl⟩)
    go_wp2_with fail
    (go_at_call 21; refine (toPlaceS_c A n cap x y _ hn HA.out).mono ?_; rintro e w1 ⟨b1, rfl, hge_b1, hblk_b1, hbw_b1⟩)
    go_wp2_with fail
    (go_at_call 24; refine (sH.out b1 _ hblk_b1.lt (canonW_of hblk_b1 HW.out)).mono ?_; rintro e w1' ⟨⟨v, rfl, rfl⟩, hb1'⟩)
    go_wp2_with fail
    have hB1 : Below w.heap.size w w1' := hbw_b1.trans (hb1'.mono hbw_b1.size)
    (go_at_call 21; refine (toPlaceS_c A n cap x y _ hn (HA.out.below hB1)).mono ?_; rintro e w2 ⟨b2, rfl, hge_b2, hblk_b2, hbw_b2⟩)
    go_wp2_with fail
    (go_at_call 25; refine (iH.out b2 _ hblk_b2.lt (canonW_of hblk_b2 HW.out)).mono ?_; rintro e w3 ⟨⟨v, rfl, rfl⟩, hb3⟩)
    go_wp2_with fail
    have hB2 : Below w.heap.size w w2 := hB1.trans (hbw_b2.mono hB1.size)
    have hB3 : Below w.heap.size w w3 := hB2.trans (hb3.mono hB2.size)
    (go_at_call 21; refine (toPlaceS_c A n cap x y _ hn (HA.out.below hB3)).mono ?_; rintro e w4 ⟨b4, rfl, hge_b4, hblk_b4, hbw_b4⟩)
    go_wp2_with fail
    (go_at_call 23; refine (eqPlaceS_c b2 b4 n n n _ _ _ hn (Nat.lt_of_lt_of_le hblk_b2.lt (Nat.le_trans hb3.size hbw_b4.size)) hblk_b4.lt ((hblk_b2.below hb3 hblk_b2.lt).below hbw_b4 (Nat.lt_of_lt_of_le hblk_b2.lt hb3.size)).canon hblk_b4.canon).mono ?_; rintro e w5 ⟨⟨v, rfl, rfl⟩, hb5⟩)
    go_wp2
    go_ret
    exact ⟨rfl, (hB3.trans (hbw_b4.mono hB3.size)).trans (hb5.mono (Nat.le_trans hB3.size hbw_b4.size))⟩
  · have hsz := szPlaceS_c A n cap 1048576 (by decide) (by decide) hn0 w
    rw [if_pos (by omega)] at hsz
    have HS := Lib.hid hsz
    clear hsz hA hwf
    go_enter Try.func7, Try.ntmps7
    go_wp2_with (go_at_call 19; refine (HS.out).mono ?_; rintro e w' ⟨rfl, rfl⟩)
    go_ret
    exact ⟨rfl, by (with_reducible repeat (first | exact Below.refl _ _ | apply below_alloc | apply below_dN | apply below_d | refine below_setCell ?_ (by dsimp only; omega) | refine below_call (by assumption) ?_))⟩
end Go.Proofs.Yteecbhmgogndaaa
