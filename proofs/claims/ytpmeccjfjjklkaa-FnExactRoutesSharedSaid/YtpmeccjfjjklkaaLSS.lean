/- The law of RoutesShared. No condition. -/
import Derived.Test.YtpmeccjfjjklkaaSSw
import Derived.Test.YtpmeccjfjjklkaaLRL
import Derived.Test.YtpmeccjfjjklkaaMkN
import Derived.Test.YtpmeccjfjjklkaaLNet
namespace Go.Proofs.Ytpmeccjfjjklkaa
open Go.RowKit
set_option linter.unusedSimpArgs false
def KI (lo k : Nat) (d : Nat → Int) (w : World) (v : Value) (w' : World) : Prop := ∃ f, v = .slice (some ⟨f, 0, none⟩) k k ∧ lo ≤ f ∧ Dr w' f k k d ∧ Below w.heap.size w w'
theorem SSR.keep2 {w w' : World} {lo k n g h : Nat} {v : Value} {D : Nat → Nat → Int} (hI : SSR w lo v k n D) (hk : Keep2 g h w w') (hg : g < lo) (hh : h < lo) : SSR w' lo v k n D := hI.keep (fun b hb hl => hk b hb (by omega) (by omega))
theorem SSR.keep1 {w w' : World} {lo k n g : Nat} {v : Value} {D : Nat → Nat → Int} (hI : SSR w lo v k n D) (hk : Keep1 g w w') (hg : g < lo) : SSR w' lo v k n D := hI.keep (fun b hb hl => hk b hb (by omega))
theorem SSR.zero {w : World} {lo n n' : Nat} {v : Value} {D : Nat → Nat → Int} (h : SSR w lo v 0 n D) : SSR w lo v 0 n' D := by
  obtain ⟨q, c, h1, h2, h3⟩ := h
  refine ⟨q, c, ?_, fun j hj => absurd hj (by omega), h3⟩
  rcases h1 with h1 | ⟨g, cap, N, e, h4, h5, F, h6, h7⟩
  · exact .inl h1
  · exact .inr ⟨g, cap, N, e, h4, h5, F, h6, fun i hi => absurd hi (by omega)⟩
theorem SRes.norm {K : Bool} {k n : Nat} {D : Nat → Nat → Int} {w : World} {e : Ending} {w' : World} (h : SRes K (if K then k else 0) n D w e w') : SRes K (if K then k else 0) (if K then n else 0) D w e w' := by
  obtain ⟨v, e, h1, h2⟩ := h
  refine ⟨v, e, ?_, h2⟩
  cases K
  · exact SSR.zero h1
  · exact h1
theorem markDr1 (lo g n : Nat) (k : Int) (d : Nat → Int) (w : World) (hg : lo ≤ g) (hn : n ≤ 1048576) (hk0 : 0 ≤ k) (hk : k ≤ 8388608) (hrow : Dr w g n n d) :
    Calls Try.prog 30 #[.slice (some ⟨g, 0, none⟩) n n, .int .i64 k] w fun e w' => ∃ k' : Int, e = .returned (.int .i64 k') ∧ ¬ k' < 0 ∧ Below lo w w' ∧ Keep1 g w w' := by
  obtain ⟨k1, rfl⟩ : ∃ k1 : Nat, k = k1 := ⟨k.toNat, by omega⟩
  exact (markDr_c lo g n n k1 d w hg hn (by omega) hrow).mono fun e w' hx => ⟨_, hx.1, by omega, hx.2.2.2, hx.2.2.1⟩
theorem markNet2 (lo g h n m : Nat) (x y : Nat → Nat) (a b l : Nat → Int) (w : World) (hlo : lo ≤ w.heap.size) (hg : lo ≤ g) (hh : lo ≤ h) (hgh : g ≠ h) (hn : n ≤ 1048576) (hm : m ≤ 1048576) (hP : PlBlk w g n x y) (hR : RdBlk w h m a b l) :
    Calls Try.prog 25 #[.agg #[.slice (some ⟨g, 0, none⟩) n n, .slice (some ⟨h, 0, none⟩) m m], .int .i64 1] w fun e w' => ∃ k : Int, e = .returned (.int .i64 k) ∧ (0 ≤ k ∧ k ≤ 8388608) ∧ Below lo w w' ∧ Keep2 g h w w' :=
  (markNet_c lo g h n m 1 x y a b l w hlo hg hh hgh hn hm (by omega) hP hR).mono fun e w' hx => ⟨_, hx.1, by omega, hx.2⟩
set_option maxRecDepth 100000 in
set_option maxHeartbeats 8000000 in
theorem lawRoutesShared (A R B : Option Addr) (n m cap cap' k capB : Nat) (x y : Nat → Nat) (a b l d : Nat → Int) (wk : Int) (w : World) (hn0 : n ≤ 9223372036854775807) (hm0 : m ≤ 9223372036854775807) (hk0 : k ≤ 9223372036854775807) (hA : PlArg w A n x y) (hR : RdArg w R m a b l) (hBq : IntArg w B k d) :
    Calls Try.prog 7 #[.agg #[.slice A n cap, .slice R m cap'], .slice B k capB, .int .i64 wk] w fun e w' => e = .returned (.bool true) ∧ Below w.heap.size w w' := by
  have hz := szNet_c A R n m cap cap' hn0 hm0
  by_cases hkb : k ≤ 1048576
  · by_cases hnm : n + m ≤ 1048576
    · rw [if_pos hnm] at hz
      have HZ := Lib.hid hz
      have hl : ¬ (1048576 - (n : Int) - (m : Int) < 0) := by omega
      have hkl : ¬ ((1048576 : Int) < k) := by omega
      have HT := Lib.hid (fun (w' : World) (hB : Below w.heap.size w w') => toNet_c A R n m cap cap' x y a b l w' (by omega) (by omega) (hA.below hB) (hR.below hB))
      have HTI := Lib.hid (fun (w' : World) (hB : Below w.heap.size w w') => toI64S_c B k capB d w' hkb (hBq.below hB))
      have hs := fun g h f w' hg hP hR hD => (sRS_c g h n m n m f k k (canon x) (canon y) a b l d wk w' hg (by omega) (by omega) hkb hP hR hD).mono fun e w'' h => SRes.norm h
      have hi := fun g h f w' hg hP hR hD => (iRS_c g h n m n m f k k (canon x) (canon y) a b l d wk w' hg (by omega) (by omega) hkb hP hR hD).mono fun e w'' h => SRes.norm h
      have HE := Lib.hid (fun g h g' h' w' hg hg' hP hP' hR hR' => eqNet_c g h g' h' n m n m n m (canon x) (canon y) a b l w' (by omega) (by omega) hg hg' hP hP' hR hR')
      have HM := Lib.hid (fun lo g h w' h1 h2 h3 h4 hP hR => markNet2 lo g h n m x y a b l w' h1 h2 h3 h4 (by omega) (by omega) hP hR)
      obtain ⟨hN, hN2⟩ : (if rsOk n m (canon x) (canon y) a b l k d wk then k else 0) ≤ 8 ∧ (if rsOk n m (canon x) (canon y) a b l k d wk then n else 0) ≤ 64 := by
        cases hq : rsOk n m (canon x) (canon y) a b l k d wk
        · exact ⟨by simp, by simp⟩
        · unfold rsOk at hq
          simp only [Bool.and_eq_true, decide_eq_true_eq] at hq
          have := (netOk_facts hq.1.1).1
          simp only [if_true]
          omega
      unfold SRes at hs hi
      generalize (if rsOk n m (canon x) (canon y) a b l k d wk then k else 0) = N at hs hi hN
      generalize (if rsOk n m (canon x) (canon y) a b l k d wk then n else 0) = n2 at hs hi hN2
      generalize rsOk n m (canon x) (canon y) a b l k d wk = K at hs hi
      generalize rsD n m a b l d = D at hs hi
      have HS := Lib.hid hs
      have HI := Lib.hid hi
      clear hz hA hR hs hi hBq
      go_enter Try.func7, Try.ntmps7
      go_upto_region 7 with (go_at_call 10; (with_reducible refine (HZ.out _).mono ?_); rintro e w1 ⟨rfl, hb1⟩)
      have K1 : KeepP w w.heap.size (.slice A n cap) (.slice R m cap') w1 := KeepP.call ⟨by simp, by simp, by simp, by (with_reducible repeat (first | exact Below.refl _ _ | apply below_alloc | apply below_dN | apply below_d | refine below_setCell ?_ (by dsimp only; omega) | refine below_call (by assumption) ?_))⟩ hb1
      have k0 := K1.1
      have k1 := K1.2.1
      have kB := K1.2.2.2
      go_wp2_with fail
      (go_at_call 12; (with_reducible refine (HT.out _ (by assumption)).mono ?_); rintro e w2 ⟨g2, h2, rfl, hg_w2, hh_w2, hP_w2, hR_w2, hb_w2⟩)
      have K2 := K1.call hb_w2
      have kB2 := K2.2.2.2
      go_wp2_with fail
      (go_at_call 35; (with_reducible refine (HTI.out _ kB2).mono ?_); rintro e w2b ⟨f2, rfl, hl_w2b, hD_w2b, hb_w2b⟩)
      have hP2 := PlBlk.dn hP_w2 hb_w2b
      have hR2 := RdBlk.dn hR_w2 hb_w2b
      go_wp2_with fail
      (go_at_call 34; (with_reducible refine (HS.out g2 h2 f2 _ (PlBlk.in hP2) (PlBlk.canon hP2) hR2 hD_w2b).mono ?_); rintro e w3 ⟨v0, rfl, hI0, hb3⟩)
      have K3 := (K2.call hb_w2b).call hb3
      clear k0 k1 kB
      have k0 := K3.1
      have k1 := K3.2.1
      have kB := K3.2.2.2
      have kl := K3.2.2.1
      go_wp2_with fail
      (go_at_call 12; (with_reducible refine (HT.out _ (by assumption)).mono ?_); rintro e w4 ⟨g4, h4, rfl, hg_w4, hh_w4, hP_w4, hR_w4, hb_w4⟩)
      have K4 := K3.call hb_w4
      obtain ⟨V, hV⟩ : ∃ V, w4.alloc (.cells #[.slice (some ⟨g4, 0, none⟩) n n, .slice (some ⟨h4, 0, none⟩) m m] 31) = V := ⟨_, rfl⟩
      have hVs : V.heap.size = w4.heap.size + 1 := by rw [← hV]; simp
      have hbV : Below w4.heap.size w4 V := by rw [← hV]; exact (Below.refl _ _).alloc (Nat.le_refl _) _
      have tX : ntc V w4.heap.size (.slice (some ⟨g4, 0, none⟩) n n) (.slice (some ⟨h4, 0, none⟩) m m) := by rw [← hV]; exact ntc.newAt rfl
      have hPa := hP_w4.dn hbV
      have hRa := hR_w4.dn hbV
      have hgl := PlBlk.in hP_w4
      have hhl := hR_w4.lt
      have hgh := RdBlk.ne hP_w4 hR_w4
      have kBV := (K4.call hbV).2.2.2
      go_wp2_with fail
      (go_at_call 35; (with_reducible refine (HTI.out _ kBV).mono ?_); rintro e w4b ⟨f4, rfl, hl_w4b, hD_w4b, hb_w4b⟩)
      have hP4b := PlBlk.dn hPa hb_w4b
      have hR4b := RdBlk.dn hRa hb_w4b
      have tXb := tX.below hb_w4b
      have jj0 := tXb.c0
      have jj1 := tXb.c1
      have jj2 := tXb.lt
      go_wp2_with fail
      clear jj0 jj1 jj2
      (go_at_call 36; (with_reducible refine (HI.out g4 h4 f4 _ (PlBlk.in hP4b) (PlBlk.canon hP4b) hR4b hD_w4b).mono ?_); rintro e w5 ⟨v1, rfl, hI1, hb5⟩)
      have B4b : Below w4.heap.size w4 w4b := hbV.trans (hb_w4b.mono hbV.size)
      have B45 := B4b.trans (hb5.mono B4b.size)
      have K5 := K4.call B45
      have B35 : Below w3.heap.size w3 w5 := hb_w4.trans (B45.mono hb_w4.size)
      have I0 := hI0.below B35
      have hI0s := hI0
      have tX5 := tXb.below hb5
      have hP5 := PlBlk.dn hP4b hb5
      have hR5 := RdBlk.dn hR4b hb5
      have hD5 := hD_w4b.below hb5
      have xlt := tX5.lt
      clear k0 k1 kB kl
      go_wp2_with fail
      (go_at_call 37; (with_reducible refine (eqSS_c _ _ v1 v0 N n2 D _ hN (by omega) hI1 I0).mono ?_); rintro e w6 ⟨⟨_, rfl, rfl⟩, hb6⟩)
      have K6 := K5.call hb6
      have tX6 := tX5.below hb6
      have hP6 := PlBlk.dn hP5 hb6
      have hR6 := RdBlk.dn hR5 hb6
      have hD6 := hD5.below hb6
      have B36 : Below w3.heap.size w3 w6 := B35.trans (hb6.mono B35.size)
      have I1 := hI1.below hb6
      have xlt := tX6.lt
      have k0 := K6.1
      have k1 := K6.2.1
      have k2 := K6.2.2.1
      have kB := K6.2.2.2
      have j0 := tX6.c0
      have j1 := tX6.c1
      go_wp2
      go_region_held3 (fun w' => w'.cell? ⟨w.heap.size, 0, none⟩ = some (.slice A n cap) ∧ w'.cell? ⟨w.heap.size, 1, none⟩ = some (.slice R m cap') ∧ w'.cell? ⟨w4.heap.size, 0, none⟩ = some (.slice (some ⟨g4, 0, none⟩) n n) ∧ w'.cell? ⟨w4.heap.size, 1, none⟩ = some (.slice (some ⟨h4, 0, none⟩) m m) ∧ (w.heap.size < w'.heap.size ∧ w4.heap.size < w'.heap.size) ∧ Below w6.heap.size w6 w') (first | (exact KN.call (by assumption) (by assumption)) | (exact ⟨by simp [*], by simp [*], by simp [*], by simp [*], by simp [*], by (with_reducible repeat (first | exact Below.refl _ _ | apply below_alloc | apply below_dN | apply below_d | refine below_setCell ?_ (by dsimp only; omega) | refine below_call (by assumption) ?_))⟩))
        (first | (go_at_call 12; refine (HT.out _ (kB.trans (Below.mono (and6 (by assumption)) kB.size))).mono ?_; rintro e w7 ⟨g7, h7, rfl, hg7, hh7, hP7, hR7, hb7⟩) | (go_at_call 14; have B7 : Below w6.heap.size w6 w7 := and6 (by assumption); have hP67 := hP6.dn B7; have hR67 := hR6.dn B7; refine (HE.out g4 h4 g7 h7 _ hP67.in hP7.in hP67.canon hP7.canon hR67 hR7).mono ?_; rintro e w8 ⟨⟨_, rfl, rfl⟩, hb8⟩))
      have B8 : Below w6.heap.size w6 w8 := and6 (by assumption)
      have K8 := K6.call B8
      have kB8 := K8.2.2.2
      have D8 := hD6.below B8
      clear k0 k1 kB k2 j0 j1 xlt
      go_wp2_with fail
      (go_at_call 35; (with_reducible refine (HTI.out _ kB8).mono ?_); rintro e w8b ⟨f8, rfl, hl_w8b, hD_w8b, hb_w8b⟩)
      have D8b := D8.below hb_w8b
      go_wp2_with fail
      (go_at_call 29; (with_reducible refine (eqI64 hkb (IArr.some (Nat.zero_le _) D8b) (IArr.some (Nat.zero_le _) hD_w8b)).mono ?_); rintro e w8c ⟨⟨_, rfl, rfl⟩, hb8c⟩)
      have B8c := B8.trans ((hb_w8b.trans (hb8c.mono hb_w8b.size)).mono B8.size)
      have D8c := D8b.below hb8c
      have tX8 := tX6.below B8c
      have hP8 := PlBlk.dn hP6 B8c
      have hR8 := RdBlk.dn hR6 B8c
      have B38 : Below w3.heap.size w3 w8c := B36.trans (B8c.mono B36.size)
      have I1' := I1.below B8c
      have xlt := tX8.lt
      have j0 := tX8.c0
      have j1 := tX8.c1
      have hs34 := hb_w4.size
      go_wp2_with fail
      (go_at_call 25; (with_reducible refine (HM.out w3.heap.size g4 h4 _ B38.size hg_w4 hh_w4 hgh hP8 hR8).mono ?_); rintro e w9 ⟨k9, rfl, hk9, hb9, hkk9⟩)
      have hs4b := B4b.size
      have hsV := hb_w4b.size
      have D9 := D8c.blk (hkk9 f4 D8c.lt (by omega) (by omega))
      have I1'' := I1'.keep2 hkk9 (by omega) (by omega)
      have B39 := B38.trans hb9
      go_wp2_with fail
      (go_at_call 30; (with_reducible refine (markDr1 w3.heap.size f4 k k9 d _ (by omega) hkb hk9.1 hk9.2 D9).mono ?_); rintro e w9b ⟨k9b, rfl, hk9b, hb9b, hkk9b⟩)
      have hfl4 := hD_w4b.lt
      have I1x := I1''.keep1 hkk9b (by omega)
      have B39b := B39.trans hb9b
      have I0x := hI0s.below B39b
      go_wp2_with fail
      (go_at_call 37; (with_reducible refine (eqSS_c _ _ v1 v0 N n2 D _ hN (by omega) I1x I0x).mono ?_); rintro e w10 ⟨⟨_, rfl, rfl⟩, hb10⟩)
      have I1y := I1x.below hb10
      have s39 := B39b.size
      have s35 := B35.size
      have B310 := B39b.trans (hb10.mono s39)
      have hs9 := hb9.size
      have hs9b := hb9b.size
      have hs10 := hb10.size
      have hs8 := B8c.size
      have hs6 := hb6.size
      have hs5 := hb5.size
      go_wp2_with fail
      (go_at_call 38; (with_reducible refine (markSS_c w4b.heap.size v1 N n2 D _ hN hN2 I1y).mono ?_); rintro e w11 ⟨rfl, I11, hb11⟩)
      have B311 := B310.trans (hb11.mono (by omega))
      go_wp2_with fail
      (go_at_call 39; (with_reducible refine (heldSS_c w4b.heap.size v1 N n2 D _ hN hN2 I11).mono ?_); rintro e w12 ⟨⟨_, rfl, rfl⟩, hb12⟩)
      have I12 := I11.below hb12
      have hs11 := hb11.size
      have hs12 := hb12.size
      have B312 := B311.trans (hb12.mono (by omega))
      have K12 : KeepP w w.heap.size (.slice A n cap) (.slice R m cap') w12 := K3.call B312
      clear j0 j1
      have k0 := K12.1
      have k1 := K12.2.1
      have kB := K12.2.2.2
      go_wp2_with fail
      (go_at_call 12; (with_reducible refine (HT.out _ (by assumption)).mono ?_); rintro e w13 ⟨g13, h13, rfl, hg_w13, hh_w13, hP_w13, hR_w13, hb_w13⟩)
      have hs13 := hb_w13.size
      have K13 := K12.call hb_w13
      have kB13 := K13.2.2.2
      go_wp2_with fail
      (go_at_call 35; (with_reducible refine (HTI.out _ kB13).mono ?_); rintro e w13b ⟨f13, rfl, hl_w13b, hD_w13b, hb_w13b⟩)
      have hs13b := hb_w13b.size
      have hP13 := PlBlk.dn hP_w13 hb_w13b
      have hR13 := RdBlk.dn hR_w13 hb_w13b
      have I13 := (I12.below hb_w13).below hb_w13b
      have B313 := (B312.trans (hb_w13.mono (by omega))).trans (hb_w13b.mono (by omega))
      go_wp2_with fail
      (go_at_call 36; (with_reducible refine (HI.out g13 h13 f13 _ (PlBlk.in hP13) (PlBlk.canon hP13) hR13 hD_w13b).mono ?_); rintro e w14 ⟨v2, rfl, hI2, hb14⟩)
      have hs14 := hb14.size
      have I14 := I13.below hb14
      have B314 := B313.trans (hb14.mono (by omega))
      go_wp2_with fail
      (go_at_call 37; (with_reducible refine (eqSS_c _ _ v2 v0 N n2 D _ hN (by omega) hI2 (hI0s.below B314)).mono ?_); rintro e w15 ⟨⟨_, rfl, rfl⟩, hb15⟩)
      have hs15 := hb15.size
      have I15 := I14.below hb15
      have B315 := B314.trans (hb15.mono (by omega))
      go_wp2_with fail
      (go_at_call 39; (with_reducible refine (heldSS_c w4b.heap.size v1 N n2 D _ hN hN2 I15).mono ?_); rintro e w16 ⟨⟨_, rfl, rfl⟩, hb16⟩)
      have B316 := B315.trans (hb16.mono (by omega))
      go_wp2
      go_ret
      exact ⟨rfl, (K3.call B316).2.2.2⟩
    · rw [if_neg hnm] at hz
      have HZ := Lib.hid hz
      have hkl : ¬ ((1048576 : Int) < k) := by omega
      clear hz hA hR hBq
      go_enter Try.func7, Try.ntmps7
      go_wp2_with (go_at_call 10; (with_reducible refine (HZ.out _).mono ?_); rintro e w1 ⟨rfl, hb1⟩)
      go_ret
      exact ⟨rfl, by (with_reducible repeat (first | exact Below.refl _ _ | apply below_alloc | apply below_dN | apply below_d | refine below_setCell ?_ (by dsimp only; omega) | refine below_call (by assumption) ?_))⟩
  · have hkl : ((1048576 : Int) < k) := by omega
    clear hz hA hR hBq
    go_enter Try.func7, Try.ntmps7
    go_wp2
    go_ret
    exact ⟨rfl, by (with_reducible repeat (first | exact Below.refl _ _ | apply below_alloc | apply below_dN | apply below_d | refine below_setCell ?_ (by dsimp only; omega) | refine below_call (by assumption) ?_))⟩
end Go.Proofs.Ytpmeccjfjjklkaa
