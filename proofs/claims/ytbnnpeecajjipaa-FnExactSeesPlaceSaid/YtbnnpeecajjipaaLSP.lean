/- The law of SeesPlace. No condition. -/
import Derived.Test.YtbnnpeecajjipaaSPi
import Derived.Test.YtbnnpeecajjipaaGL
namespace Go.Proofs.Ytbnnpeecajjipaa
open Go.RowKit
set_option linter.unusedSimpArgs false
set_option maxRecDepth 100000 in
set_option maxHeartbeats 8000000 in
theorem lawSeesPlace (W H : Int) (A : Option Addr) (n cap : Nat) (x : Nat → Nat) (f t : Int) (ey be : Nat) (s : Int) (w : World) (hn0 : n ≤ 9223372036854775807) (hA : FlArg w A n x) :
    Calls Try.prog 7 #[.agg #[.int .i64 W, .int .i64 H, .slice A n cap], .int .i64 f, .int .i64 t, .float .f32 ey, .float .f32 be, .int .i64 s] w fun e w' => e = .returned (.bool true) ∧ Below w.heap.size w w' := by
  have hz' := fun w' => szGrid_c W H A n cap hn0 w'
  by_cases hnm : n ≤ 1048576
  · simp only [if_pos hnm] at hz'
    have HZ := Lib.hid hz'
    have hl : ¬ (1048576 - (n : Int) < 0) := by omega
    have HT := Lib.hid (fun (w' : World) (hB : Below w.heap.size w w') => toGrid_c W H A n cap x w' hnm (hA.below hB))
    have hs := fun b w' hb hP => sSeesPlace_c W H b n n (canon x) f t ey be _ _ s w' hnm hb hP rfl rfl
    have hi := fun b w' hb hP => iSeesPlace_c W H b n n (canon x) f t ey be _ _ s w' hnm hb hP rfl rfl
    have HE := Lib.hid (fun b b' w' hb hb' h h' => eqGrid_c W H b b' n n n (canon x) w' hnm hb hb' h h')
    generalize spF W H n (canon x) f t (cn .f32 ey) (cn .f32 be) s = R at hs hi
    obtain ⟨R1, R2⟩ := R
    have HS := Lib.hid hs
    have HI := Lib.hid hi
    clear hz' hA hs hi
    go_enter Try.func7, Try.ntmps7
    go_upto_region 5 with (go_at_call 9; (with_reducible refine (HZ.out _).mono ?_); rintro e w1 ⟨rfl, hb1⟩)
    have K1 : KeepG w w.heap.size (.int .i64 W) (.int .i64 H) (.slice A n cap) w1 := KeepG.call ⟨by simp, by simp, by simp, by simp, by (with_reducible repeat (first | exact Below.refl _ _ | apply below_alloc | apply below_dN | apply below_d | refine below_setCell ?_ (by dsimp only; omega) | refine below_call (by assumption) ?_))⟩ hb1
    have k0 := K1.1
    have k1 := K1.2.1
    have k2 := K1.2.2.1
    have kB := K1.2.2.2.2
    go_wp2_with fail
    (go_at_call 11; (with_reducible refine (HT.out _ (by assumption)).mono ?_); rintro e w2 ⟨g2, rfl, hg_w2, hP_w2, hb_w2⟩)
    have hl2 := FlBlk.lt hP_w2
    go_wp2_with fail
    (go_at_call 27; (with_reducible refine (HS.out g2 _ hl2 hP_w2.canon).mono ?_); rintro e w3 ⟨⟨v, rfl, v1, v2, rfl, rfl, rfl⟩, hb3⟩)
    have K3 := (K1.call hb_w2).call hb3
    clear k0 k1 k2 kB
    have k0 := K3.1
    have k1 := K3.2.1
    have k2 := K3.2.2.1
    have kB := K3.2.2.2.2
    have kl := K3.2.2.2.1
    go_wp2_with fail
    (go_at_call 11; (with_reducible refine (HT.out _ (by assumption)).mono ?_); rintro e w4 ⟨g4, rfl, hg_w4, hP_w4, hb_w4⟩)
    have K4 := K3.call hb_w4
    obtain ⟨V, hV⟩ : ∃ V, w4.alloc (.cells #[.int .i64 W, .int .i64 H, .slice (some ⟨g4, 0, none⟩) n n] 30) = V := ⟨_, rfl⟩
    have hVs : V.heap.size = w4.heap.size + 1 := by rw [← hV]; simp
    have hbV : Below w4.heap.size w4 V := by rw [← hV]; exact (Below.refl _ _).alloc (Nat.le_refl _) _
    have tX : gtc V w4.heap.size (.int .i64 W) (.int .i64 H) (.slice (some ⟨g4, 0, none⟩) n n) := by rw [← hV]; exact gtc.newAt rfl
    have hPa := FlBlk.dn hP_w4 hbV
    have hgl := FlBlk.lt hP_w4
    have hgv := FlBlk.lt hPa
    have jj0 := tX.c0
    have jj1 := tX.c1
    have jj2 := tX.c2
    have jjl := tX.lt
    go_wp2_with fail
    clear jj0 jj1 jj2 jjl
    (go_at_call 28; (with_reducible refine (HI.out g4 _ hgv (FlBlk.canon hPa)).mono ?_); rintro e w5 ⟨⟨v, rfl, v3, v4, rfl, rfl, rfl⟩, hb5⟩)
    have B45 := hbV.trans (hb5.mono hbV.size)
    have K6 := K4.call B45
    have tX6 := tX.below hb5
    have hP6 := FlBlk.dn hPa hb5
    have xlt := tX6.lt
    clear k0 k1 k2 kB kl
    have k0 := K6.1
    have k1 := K6.2.1
    have k2 := K6.2.2.1
    have k3 := K6.2.2.2.1
    have kB := K6.2.2.2.2
    have j0 := tX6.c0
    have j1 := tX6.c1
    have j2 := tX6.c2
    go_upto_region 10 with fail
    go_region_held3 (fun w' => w'.cell? ⟨w.heap.size, 0, none⟩ = some (.int .i64 W) ∧ w'.cell? ⟨w.heap.size, 1, none⟩ = some (.int .i64 H) ∧ w'.cell? ⟨w.heap.size, 2, none⟩ = some (.slice A n cap) ∧ w'.cell? ⟨w4.heap.size, 0, none⟩ = some (.int .i64 W) ∧ w'.cell? ⟨w4.heap.size, 1, none⟩ = some (.int .i64 H) ∧ w'.cell? ⟨w4.heap.size, 2, none⟩ = some (.slice (some ⟨g4, 0, none⟩) n n) ∧ (w.heap.size < w'.heap.size ∧ w4.heap.size < w'.heap.size) ∧ Below w5.heap.size w5 w') (first | (exact KG.call (by assumption) (by assumption)) | (exact ⟨by simp [*], by simp [*], by simp [*], by simp [*], by simp [*], by simp [*], by simp [*], by (with_reducible repeat (first | exact Below.refl _ _ | apply below_alloc | apply below_dN | apply below_d | refine below_setCell ?_ (by dsimp only; omega) | refine below_call (by assumption) ?_))⟩))
      (first | (go_at_call 11; refine (HT.out _ (kB.trans (Below.mono (and8 (by assumption)) kB.size))).mono ?_; rintro e w7 ⟨g7, rfl, hg7, hP7, hb7⟩) | (go_at_call 14; have B7 : Below w5.heap.size w5 w7 := and8 (by assumption); have hP67 := FlBlk.dn hP6 B7; refine (HE.out g4 g7 _ (FlBlk.lt hP67) (FlBlk.lt hP7) hP67.canon hP7.canon).mono ?_; rintro e w8 ⟨⟨_, rfl, rfl⟩, hb8⟩))
    have B8 : Below w5.heap.size w5 w8 := and8 (by assumption)
    have K8 := K6.call B8
    go_wp2
    go_ret
    exact ⟨rfl, K8.2.2.2.2⟩
  · simp only [if_neg hnm] at hz'
    have HZ := Lib.hid hz'
    clear hz' hA
    go_enter Try.func7, Try.ntmps7
    go_wp2_with (go_at_call 9; (with_reducible refine (HZ.out _).mono ?_); rintro e w1 ⟨rfl, hb1⟩)
    go_ret
    exact ⟨rfl, by (with_reducible repeat (first | exact Below.refl _ _ | apply below_alloc | apply below_dN | apply below_d | refine below_setCell ?_ (by dsimp only; omega) | refine below_call (by assumption) ?_))⟩
end Go.Proofs.Ytbnnpeecajjipaa
