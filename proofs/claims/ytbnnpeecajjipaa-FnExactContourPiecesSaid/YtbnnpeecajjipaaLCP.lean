/- The law of ContourPieces. No condition. -/
import Derived.Test.YtbnnpeecajjipaaCPi
import Derived.Test.YtbnnpeecajjipaaGL
namespace Go.Proofs.Ytbnnpeecajjipaa
open Go.RowKit
set_option linter.unusedSimpArgs false
set_option maxRecDepth 100000 in
set_option maxHeartbeats 8000000 in
theorem lawContourPieces (W H : Int) (A : Option Addr) (n cap : Nat) (x : Nat → Nat) (le : Nat) (w : World) (hn0 : n ≤ 9223372036854775807) (hA : FlArg w A n x) :
    Calls Try.prog 3 #[.agg #[.int .i64 W, .int .i64 H, .slice A n cap], .float .f32 le] w fun e w' => e = .returned (.bool true) ∧ Below w.heap.size w w' := by
  have hz := szGrid_c W H A n cap hn0 w
  have hz' := fun w' => szGrid_c W H A n cap hn0 w'
  clear hz
  by_cases hnm : n ≤ 1048576
  · simp only [if_pos hnm] at hz'
    have HZ := Lib.hid hz'
    have hl : ¬ (1048576 - (n : Int) < 0) := by omega
    have HT := Lib.hid (fun (w' : World) (hB : Below w.heap.size w w') => toGrid_c W H A n cap x w' hnm (hA.below hB))
    have hs := fun b w' hb hP => sContour_c W H b n n (canon x) le _ w' hnm hb hP rfl
    have hi := fun b w' hb hP => iContour_c W H b n n (canon x) le _ w' hnm hb hP rfl
    have HE := Lib.hid (fun b b' w' hb hb' h h' => eqGrid_c W H b b' n n n (canon x) w' hnm hb hb' h h')
    have HM := Lib.hid (fun lo b w' h1 h2 h => markGrid1 lo W H b n x w' h1 h2 hnm h)
    have hN : (if cpQ W H n (canon x) (cn .f32 le) then (cpP W H n (canon x) (cn .f32 le)).length else 0) ≤ 1400 := by split <;> rename_i hcq <;> first | exact cpP_len hcq | omega
    unfold CPR at hs hi
    generalize (if cpQ W H n (canon x) (cn .f32 le) then (cpP W H n (canon x) (cn .f32 le)).length else 0) = N at hs hi hN
    generalize cpQ W H n (canon x) (cn .f32 le) = K at hs hi
    generalize cpX W H n (canon x) (cn .f32 le) = D at hs hi
    generalize cpY W H n (canon x) (cn .f32 le) = D2 at hs hi
    have hN6 : N ≤ 1048576 := by omega
    have hqN : ¬ (1 + (N : Int) < 0) := by omega
    have HS := Lib.hid hs
    have HI := Lib.hid hi
    clear hz' hA hs hi
    go_enter Try.func3, Try.ntmps3
    go_upto_region 5 with (go_at_call 9; (with_reducible refine (HZ.out _).mono ?_); rintro e w1 ⟨rfl, hb1⟩)
    have K1 : KeepG w w.heap.size (.int .i64 W) (.int .i64 H) (.slice A n cap) w1 := KeepG.call ⟨by simp, by simp, by simp, by simp, by (with_reducible repeat (first | exact Below.refl _ _ | apply below_alloc | apply below_dN | apply below_d | refine below_setCell ?_ (by dsimp only; omega) | refine below_call (by assumption) ?_))⟩ hb1
    have k0 := K1.1
    have k1 := K1.2.1
    have k2 := K1.2.2.1
    have kB := K1.2.2.2.2
    go_wp2_with fail
    (go_at_call 11; (with_reducible refine (HT.out _ (by assumption)).mono ?_); rintro e w2 ⟨g2, rfl, hg_w2, hP_w2, hb_w2⟩)
    have hl2 := FlBlk.lt hP_w2
    go_wp2_with fail
    (go_at_call 10; (with_reducible refine (HS.out g2 _ hl2 hP_w2.canon).mono ?_); rintro e w3 ⟨v0, rfl, hI0, hb3⟩)
    have K3 := (K1.call hb_w2).call hb3
    clear k0 k1 k2 kB
    have k0 := K3.1
    have k1 := K3.2.1
    have k2 := K3.2.2.1
    have kB := K3.2.2.2.2
    have kl := K3.2.2.2.1
    go_wp2_with fail
    (go_at_call 11; (with_reducible refine (HT.out _ (by assumption)).mono ?_); rintro e w4 ⟨g4, rfl, hg_w4, hP_w4, hb_w4⟩)
    have K4 := K3.call hb_w4
    obtain ⟨V, hV⟩ : ∃ V, w4.alloc (.cells #[.int .i64 W, .int .i64 H, .slice (some ⟨g4, 0, none⟩) n n] 30) = V := ⟨_, rfl⟩
    have hVs : V.heap.size = w4.heap.size + 1 := by rw [← hV]; simp
    have hbV : Below w4.heap.size w4 V := by rw [← hV]; exact (Below.refl _ _).alloc (Nat.le_refl _) _
    have tX : gtc V w4.heap.size (.int .i64 W) (.int .i64 H) (.slice (some ⟨g4, 0, none⟩) n n) := by rw [← hV]; exact gtc.newAt rfl
    have hPa := FlBlk.dn hP_w4 hbV
    have hgl := FlBlk.lt hP_w4
    have hgv := FlBlk.lt hPa
    have jj0 := tX.c0
    have jj1 := tX.c1
    have jj2 := tX.c2
    have jjl := tX.lt
    go_wp2_with fail
    clear jj0 jj1 jj2 jjl
    (go_at_call 12; (with_reducible refine (HI.out g4 _ hgv (FlBlk.canon hPa)).mono ?_); rintro e w5 ⟨v1, rfl, hI1, hb5⟩)
    have B45 := hbV.trans (hb5.mono hbV.size)
    have K5 := K4.call B45
    have B35 : Below w3.heap.size w3 w5 := hb_w4.trans (B45.mono hb_w4.size)
    have I0 := hI0.below B35
    have hI0s := hI0
    have tX5 := tX.below hb5
    have hP5 := FlBlk.dn hPa hb5
    have xlt := tX5.lt
    clear k0 k1 k2 kB kl
    go_wp2_with fail
    (go_at_call 13; (with_reducible refine (eqC64 hN6 hI1 I0).mono ?_); rintro e w6 ⟨⟨_, rfl, rfl⟩, hb6⟩)
    have K6 := K5.call hb6
    have tX6 := tX5.below hb6
    have hP6 := FlBlk.dn hP5 hb6
    have B36 : Below w3.heap.size w3 w6 := B35.trans (hb6.mono B35.size)
    have I1 := hI1.below hb6
    have xlt := tX6.lt
    have k0 := K6.1
    have k1 := K6.2.1
    have k2 := K6.2.2.1
    have k3 := K6.2.2.2.1
    have kB := K6.2.2.2.2
    have j0 := tX6.c0
    have j1 := tX6.c1
    have j2 := tX6.c2
    go_wp2
    go_region_held3 (fun w' => w'.cell? ⟨w.heap.size, 0, none⟩ = some (.int .i64 W) ∧ w'.cell? ⟨w.heap.size, 1, none⟩ = some (.int .i64 H) ∧ w'.cell? ⟨w.heap.size, 2, none⟩ = some (.slice A n cap) ∧ w'.cell? ⟨w4.heap.size, 0, none⟩ = some (.int .i64 W) ∧ w'.cell? ⟨w4.heap.size, 1, none⟩ = some (.int .i64 H) ∧ w'.cell? ⟨w4.heap.size, 2, none⟩ = some (.slice (some ⟨g4, 0, none⟩) n n) ∧ (w.heap.size < w'.heap.size ∧ w4.heap.size < w'.heap.size) ∧ Below w6.heap.size w6 w') (first | (exact KG.call (by assumption) (by assumption)) | (exact ⟨by simp [*], by simp [*], by simp [*], by simp [*], by simp [*], by simp [*], by simp [*], by (with_reducible repeat (first | exact Below.refl _ _ | apply below_alloc | apply below_dN | apply below_d | refine below_setCell ?_ (by dsimp only; omega) | refine below_call (by assumption) ?_))⟩))
      (first | (go_at_call 11; refine (HT.out _ (kB.trans (Below.mono (and8 (by assumption)) kB.size))).mono ?_; rintro e w7 ⟨g7, rfl, hg7, hP7, hb7⟩) | (go_at_call 14; have B7 : Below w6.heap.size w6 w7 := and8 (by assumption); have hP67 := FlBlk.dn hP6 B7; refine (HE.out g4 g7 _ (FlBlk.lt hP67) (FlBlk.lt hP7) hP67.canon hP7.canon).mono ?_; rintro e w8 ⟨⟨_, rfl, rfl⟩, hb8⟩))
    have B8 : Below w6.heap.size w6 w8 := and8 (by assumption)
    have K8 := K6.call B8
    have tX8 := tX6.below B8
    have hP8 := FlBlk.dn hP6 B8
    have B38 : Below w3.heap.size w3 w8 := B36.trans (B8.mono B36.size)
    have I1' := I1.below B8
    clear k0 k1 kB k2 k3 j0 j1 j2 xlt
    have xlt := tX8.lt
    have j0 := tX8.c0
    have j1 := tX8.c1
    have j2 := tX8.c2
    have hs34 := hb_w4.size
    go_wp2_with fail
    (go_at_call 15; (with_reducible refine (HM.out w3.heap.size g4 _ hg_w4 B38.size hP8).mono ?_); rintro e w9 ⟨k9, rfl, hk9, hb9, hkk9⟩)
    have B39 := B38.trans hb9
    have I0'' := hI0s.below B39
    have I1'' := I1'.keep1 hkk9 (by omega)
    go_wp2_with fail
    (go_at_call 13; (with_reducible refine (eqC64 hN6 I1'' I0'').mono ?_); rintro e w10 ⟨⟨_, rfl, rfl⟩, hb10⟩)
    have I1x := I1''.below hb10
    have s39 := B39.size
    have s35 := B35.size
    have B310 := B39.trans (hb10.mono s39)
    have hs9 := hb9.size
    have hs10 := hb10.size
    have hs8 := B8.size
    have hs6 := hb6.size
    have hs5 := hb5.size
    go_wp2_with fail
    (go_at_call 16; (with_reducible refine (markC1 V.heap.size v1 N D D2 _ (by omega) hN I1x).mono ?_); rintro e w11 ⟨rfl, I11, hb11⟩)
    have B311 := B310.trans (hb11.mono (by omega))
    go_wp2_with fail
    (go_at_call 17; (with_reducible refine (heldC1 V.heap.size v1 N _ hN I11).mono ?_); rintro e w12 ⟨⟨_, rfl, rfl⟩, hb12⟩)
    have I12 := I11.below hb12
    have hs11 := hb11.size
    have hs12 := hb12.size
    have B312 := B311.trans (hb12.mono (by omega))
    have K12 : KeepG w w.heap.size (.int .i64 W) (.int .i64 H) (.slice A n cap) w12 := K3.call B312
    clear j0 j1 j2
    have k0 := K12.1
    have k1 := K12.2.1
    have k2 := K12.2.2.1
    have kB := K12.2.2.2.2
    go_wp2_with fail
    (go_at_call 11; (with_reducible refine (HT.out _ (by assumption)).mono ?_); rintro e w13 ⟨g13, rfl, hg_w13, hP_w13, hb_w13⟩)
    have hs13 := hb_w13.size
    have I13 := I12.below hb_w13
    have B313 := B312.trans (hb_w13.mono (by omega))
    have hgl13 := FlBlk.lt hP_w13
    go_wp2_with fail
    (go_at_call 12; (with_reducible refine (HI.out g13 _ hgl13 hP_w13.canon).mono ?_); rintro e w14 ⟨v2, rfl, hI2, hb14⟩)
    have hs14 := hb14.size
    have I14 := I13.below hb14
    have B314 := B313.trans (hb14.mono (by omega))
    go_wp2_with fail
    (go_at_call 13; (with_reducible refine (eqC64 hN6 hI2 (hI0s.below B314)).mono ?_); rintro e w15 ⟨⟨_, rfl, rfl⟩, hb15⟩)
    have hs15 := hb15.size
    have I15 := I14.below hb15
    have B315 := B314.trans (hb15.mono (by omega))
    go_wp2_with fail
    (go_at_call 17; (with_reducible refine (heldC1 V.heap.size v1 N _ hN I15).mono ?_); rintro e w16 ⟨⟨_, rfl, rfl⟩, hb16⟩)
    have B316 := B315.trans (hb16.mono (by omega))
    go_wp2
    go_ret
    exact ⟨rfl, (K3.call B316).2.2.2.2⟩
  · simp only [if_neg hnm] at hz'
    have HZ := Lib.hid hz'
    clear hz' hA
    go_enter Try.func3, Try.ntmps3
    go_wp2_with (go_at_call 9; (with_reducible refine (HZ.out _).mono ?_); rintro e w1 ⟨rfl, hb1⟩)
    go_ret
    exact ⟨rfl, by (with_reducible repeat (first | exact Below.refl _ _ | apply below_alloc | apply below_dN | apply below_d | refine below_setCell ?_ (by dsimp only; omega) | refine below_call (by assumption) ?_))⟩
end Go.Proofs.Ytbnnpeecajjipaa
