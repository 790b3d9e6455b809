/- The law of RouteLongs. No condition. -/
import Derived.Test.YtpmeccjfjjklkaaRL
import Derived.Test.YtpmeccjfjjklkaaMkN
import Derived.Test.YtpmeccjfjjklkaaLNet
namespace Go.Proofs.Ytpmeccjfjjklkaa
open Go.RowKit
set_option linter.unusedSimpArgs false
theorem Dr.of_block {w w' : World} {g n cap : Nat} {d : Nat → Int} (h : Dr w g n cap d) (hb : w'.heap[g]? = w.heap[g]?) : Dr w' g n cap d := by
  obtain ⟨F, h1, h2, h3⟩ := h
  exact ⟨F, World.rowIs.of_block h1 hb, h2, h3⟩
theorem IArr.keep2 {w w' : World} {lo n g h : Nat} {v : Value} {d : Nat → Int} (hI : IArr w lo v n d) (hk : Keep2 g h w w') (hg : g < lo) (hh : h < lo) : IArr w' lo v n d := by
  rcases hI with hI | ⟨q, cap, rfl, h1, h2⟩
  · exact .inl hI
  · exact .inr ⟨q, cap, rfl, h1, h2.of_block (hk q h2.lt (by omega) (by omega))⟩
theorem markNet1 (lo g h n m : Nat) (x y : Nat → Nat) (a b l : Nat → Int) (w : World) (hlo : lo ≤ w.heap.size) (hg : lo ≤ g) (hh : lo ≤ h) (hgh : g ≠ h) (hn : n ≤ 1048576) (hm : m ≤ 1048576) (hP : PlBlk w g n x y) (hR : RdBlk w h m a b l) :
    Calls Try.prog 25 #[.agg #[.slice (some ⟨g, 0, none⟩) n n, .slice (some ⟨h, 0, none⟩) m m], .int .i64 1] w fun e w' => ∃ k : Int, e = .returned (.int .i64 k) ∧ ¬ k < 0 ∧ Below lo w w' ∧ Keep2 g h w w' :=
  (markNet_c lo g h n m 1 x y a b l w hlo hg hh hgh hn hm (by omega) hP hR).mono fun e w' hx => ⟨_, hx.1, by omega, hx.2⟩
theorem markI1 (lo : Nat) (v : Value) (n : Nat) (d : Nat → Int) (w : World) (hlo : lo ≤ w.heap.size) (hn : n ≤ 1048576) (h : IArr w lo v n d) :
    Calls Try.prog 30 #[v, .int .i64 1] w fun e w' => e = .returned (.int .i64 (1 + (n : Int))) ∧ IArr w' lo v n (mki 1 n d) ∧ Below lo w w' := markI64_c lo v n 1 d w hlo hn (by omega) h
theorem heldI1 (lo : Nat) (v : Value) (n : Nat) (d : Nat → Int) (w : World) (hn : n ≤ 1048576) (h : IArr w lo v n (mki 1 n d)) :
    Calls Try.prog 31 #[v, .int .i64 1] w (Ret (RV (.int .i64 (1 + (n : Int)))) w) := heldI64_c lo v n 1 d w hn (by omega) h
theorem RdBlk.ne {w : World} {g h n m : Nat} {x y : Nat → Nat} {a b l : Nat → Int} (hP : PlBlk w g n x y) (hR : RdBlk w h m a b l) : g ≠ h := by
  obtain ⟨c, h1, -, -⟩ := hP
  obtain ⟨N, F, -, -, c', h2, -, -⟩ := hR
  rintro rfl
  rw [h1] at h2
  injection h2 with h2
  injection h2 with h3 h4
  exact absurd h4 (by decide)
set_option maxRecDepth 100000 in
set_option maxHeartbeats 8000000 in
theorem lawRouteLongs (A R : Option Addr) (n m cap cap' : Nat) (x y : Nat → Nat) (a b l : Nat → Int) (fr : Int) (w : World) (hn0 : n ≤ 9223372036854775807) (hm0 : m ≤ 9223372036854775807) (hA : PlArg w A n x y) (hR : RdArg w R m a b l) :
    Calls Try.prog 5 #[.agg #[.slice A n cap, .slice R m cap'], .int .i64 fr] w fun e w' => e = .returned (.bool true) ∧ Below w.heap.size w w' := by
  have hz := szNet_c A R n m cap cap' hn0 hm0
  by_cases hnm : n + m ≤ 1048576
  · rw [if_pos hnm] at hz
    have HZ := Lib.hid hz
    have hl : ¬ (1048576 - (n : Int) - (m : Int) < 0) := by omega
    have HT := Lib.hid (fun (w' : World) (hB : Below w.heap.size w w') => toNet_c A R n m cap cap' x y a b l w' (by omega) (by omega) (hA.below hB) (hR.below hB))
    have hs := fun g h w' hg hP hR => sRL_c g h n m n m (canon x) (canon y) a b l fr w' hg (by omega) (by omega) hP hR
    have hi := fun g h w' hg hP hR => iRL_c g h n m n m (canon x) (canon y) a b l fr w' hg (by omega) (by omega) hP hR
    have HE := Lib.hid (fun g h g' h' w' hg hg' hP hP' hR hR' => eqNet_c g h g' h' n m n m n m (canon x) (canon y) a b l w' (by omega) (by omega) hg hg' hP hP' hR hR')
    have HM := Lib.hid (fun lo g h w' h1 h2 h3 h4 hP hR => markNet1 lo g h n m x y a b l w' h1 h2 h3 h4 (by omega) (by omega) hP hR)
    have hN : (if rlOk n m (canon x) (canon y) a b l fr then n else 0) ≤ 1048576 := by split <;> omega
    unfold RLR at hs hi
    generalize (if rlOk n m (canon x) (canon y) a b l fr then n else 0) = N at hs hi hN
    generalize rlOk n m (canon x) (canon y) a b l fr = K at hs hi
    generalize rt n m (eN a) (eN b) l fr.toNat = D at hs hi
    have hqN : ¬ (1 + (N : Int) < 0) := by omega
    have HS := Lib.hid hs
    have HI := Lib.hid hi
    clear hz hA hR hs hi
    go_enter Try.func5, Try.ntmps5
    go_upto_region 5 with (go_at_call 10; (with_reducible refine (HZ.out _).mono ?_); rintro e w1 ⟨rfl, hb1⟩)
    have K1 : KeepP w w.heap.size (.slice A n cap) (.slice R m cap') w1 := KeepP.call ⟨by simp, by simp, by simp, by (with_reducible repeat (first | exact Below.refl _ _ | apply below_alloc | apply below_dN | apply below_d | refine below_setCell ?_ (by dsimp only; omega) | refine below_call (by assumption) ?_))⟩ hb1
    have k0 := K1.1
    have k1 := K1.2.1
    have kB := K1.2.2.2
    go_wp2_with fail
    (go_at_call 12; (with_reducible refine (HT.out _ (by assumption)).mono ?_); rintro e w2 ⟨g2, h2, rfl, hg_w2, hh_w2, hP_w2, hR_w2, hb_w2⟩)
    go_wp2_with fail
    (go_at_call 27; (with_reducible refine (HS.out g2 h2 _ hP_w2.in hP_w2.canon hR_w2).mono ?_); rintro e w3 ⟨v0, rfl, hI0, hb3⟩)
    have K3 := (K1.call hb_w2).call hb3
    clear k0 k1 kB
    have k0 := K3.1
    have k1 := K3.2.1
    have kB := K3.2.2.2
    have kl := K3.2.2.1
    go_wp2_with fail
    (go_at_call 12; (with_reducible refine (HT.out _ (by assumption)).mono ?_); rintro e w4 ⟨g4, h4, rfl, hg_w4, hh_w4, hP_w4, hR_w4, hb_w4⟩)
    have K4 := K3.call hb_w4
    obtain ⟨V, hV⟩ : ∃ V, w4.alloc (.cells #[.slice (some ⟨g4, 0, none⟩) n n, .slice (some ⟨h4, 0, none⟩) m m] 31) = V := ⟨_, rfl⟩
    have hVs : V.heap.size = w4.heap.size + 1 := by rw [← hV]; simp
    have hbV : Below w4.heap.size w4 V := by rw [← hV]; exact (Below.refl _ _).alloc (Nat.le_refl _) _
    have tX : ntc V w4.heap.size (.slice (some ⟨g4, 0, none⟩) n n) (.slice (some ⟨h4, 0, none⟩) m m) := by rw [← hV]; exact ntc.newAt rfl
    have hPa := hP_w4.dn hbV
    have hRa := hR_w4.dn hbV
    have hgl := PlBlk.in hP_w4
    have hhl := hR_w4.lt
    have hgh := RdBlk.ne hP_w4 hR_w4
    have jj0 := tX.c0
    have jj1 := tX.c1
    have jj2 := tX.lt
    go_wp2_with fail
    clear jj0 jj1 jj2
    (go_at_call 28; (with_reducible refine (HI.out g4 h4 _ (PlBlk.in hPa) (PlBlk.canon hPa) hRa).mono ?_); rintro e w5 ⟨v1, rfl, hI1, hb5⟩)
    have B45 := hbV.trans (hb5.mono hbV.size)
    have K5 := K4.call B45
    have B35 : Below w3.heap.size w3 w5 := hb_w4.trans (B45.mono hb_w4.size)
    have I0 := hI0.below B35
    have hI0s := hI0
    have tX5 := tX.below hb5
    have hP5 := PlBlk.dn hPa hb5
    have hR5 := RdBlk.dn hRa hb5
    have xlt := tX5.lt
    clear k0 k1 kB kl
    go_wp2_with fail
    (go_at_call 29; (with_reducible refine (eqI64 hN hI1 I0).mono ?_); rintro e w6 ⟨⟨_, rfl, rfl⟩, hb6⟩)
    have K6 := K5.call hb6
    have tX6 := tX5.below hb6
    have hP6 := PlBlk.dn hP5 hb6
    have hR6 := RdBlk.dn hR5 hb6
    have B36 : Below w3.heap.size w3 w6 := B35.trans (hb6.mono B35.size)
    have I1 := hI1.below hb6
    have xlt := tX6.lt
    have k0 := K6.1
    have k1 := K6.2.1
    have k2 := K6.2.2.1
    have kB := K6.2.2.2
    have j0 := tX6.c0
    have j1 := tX6.c1
    go_wp2
    go_region_held3 (fun w' => w'.cell? ⟨w.heap.size, 0, none⟩ = some (.slice A n cap) ∧ w'.cell? ⟨w.heap.size, 1, none⟩ = some (.slice R m cap') ∧ w'.cell? ⟨w4.heap.size, 0, none⟩ = some (.slice (some ⟨g4, 0, none⟩) n n) ∧ w'.cell? ⟨w4.heap.size, 1, none⟩ = some (.slice (some ⟨h4, 0, none⟩) m m) ∧ (w.heap.size < w'.heap.size ∧ w4.heap.size < w'.heap.size) ∧ Below w6.heap.size w6 w') (first | (exact KN.call (by assumption) (by assumption)) | (exact ⟨by simp [*], by simp [*], by simp [*], by simp [*], by simp [*], by (with_reducible repeat (first | exact Below.refl _ _ | apply below_alloc | apply below_dN | apply below_d | refine below_setCell ?_ (by dsimp only; omega) | refine below_call (by assumption) ?_))⟩))
      (first | (go_at_call 12; refine (HT.out _ (kB.trans (Below.mono (and6 (by assumption)) kB.size))).mono ?_; rintro e w7 ⟨g7, h7, rfl, hg7, hh7, hP7, hR7, hb7⟩) | (go_at_call 14; have B7 : Below w6.heap.size w6 w7 := and6 (by assumption); have hP67 := hP6.dn B7; have hR67 := hR6.dn B7; refine (HE.out g4 h4 g7 h7 _ hP67.in hP7.in hP67.canon hP7.canon hR67 hR7).mono ?_; rintro e w8 ⟨⟨_, rfl, rfl⟩, hb8⟩))
    have B8 : Below w6.heap.size w6 w8 := and6 (by assumption)
    have K8 := K6.call B8
    have tX8 := tX6.below B8
    have hP8 := PlBlk.dn hP6 B8
    have hR8 := RdBlk.dn hR6 B8
    have B38 : Below w3.heap.size w3 w8 := B36.trans (B8.mono B36.size)
    have I1' := I1.below B8
    clear k0 k1 kB k2 j0 j1 xlt
    have xlt := tX8.lt
    have j0 := tX8.c0
    have j1 := tX8.c1
    have hs34 := hb_w4.size
    go_wp2_with fail
    (go_at_call 25; (with_reducible refine (HM.out w3.heap.size g4 h4 _ B38.size hg_w4 hh_w4 hgh hP8 hR8).mono ?_); rintro e w9 ⟨k9, rfl, hk9, hb9, hkk9⟩)
    have B39 := B38.trans hb9
    have I0'' := hI0s.below B39
    have I1'' := I1'.keep2 hkk9 (by omega) (by omega)
    go_wp2_with fail
    (go_at_call 29; (with_reducible refine (eqI64 hN I1'' I0'').mono ?_); rintro e w10 ⟨⟨_, rfl, rfl⟩, hb10⟩)
    have I1x := I1''.below hb10
    have s39 := B39.size
    have s35 := B35.size
    have B310 := B39.trans (hb10.mono s39)
    have hs9 := hb9.size
    have hs10 := hb10.size
    have hs8 := B8.size
    have hs6 := hb6.size
    have hs5 := hb5.size
    go_wp2_with fail
    (go_at_call 30; (with_reducible refine (markI1 V.heap.size v1 N D _ (by omega) hN I1x).mono ?_); rintro e w11 ⟨rfl, I11, hb11⟩)
    have B311 := B310.trans (hb11.mono (by omega))
    go_wp2_with fail
    (go_at_call 31; (with_reducible refine (heldI1 V.heap.size v1 N D _ hN I11).mono ?_); rintro e w12 ⟨⟨_, rfl, rfl⟩, hb12⟩)
    have I12 := I11.below hb12
    have hs11 := hb11.size
    have hs12 := hb12.size
    have B312 := B311.trans (hb12.mono (by omega))
    have K12 : KeepP w w.heap.size (.slice A n cap) (.slice R m cap') w12 := K3.call B312
    clear j0 j1
    have k0 := K12.1
    have k1 := K12.2.1
    have kB := K12.2.2.2
    go_wp2_with fail
    (go_at_call 12; (with_reducible refine (HT.out _ (by assumption)).mono ?_); rintro e w13 ⟨g13, h13, rfl, hg_w13, hh_w13, hP_w13, hR_w13, hb_w13⟩)
    have hs13 := hb_w13.size
    have I13 := I12.below hb_w13
    have B313 := B312.trans (hb_w13.mono (by omega))
    go_wp2_with fail
    (go_at_call 28; (with_reducible refine (HI.out g13 h13 _ hP_w13.in hP_w13.canon hR_w13).mono ?_); rintro e w14 ⟨v2, rfl, hI2, hb14⟩)
    have hs14 := hb14.size
    have I14 := I13.below hb14
    have B314 := B313.trans (hb14.mono (by omega))
    go_wp2_with fail
    (go_at_call 29; (with_reducible refine (eqI64 hN hI2 (hI0s.below B314)).mono ?_); rintro e w15 ⟨⟨_, rfl, rfl⟩, hb15⟩)
    have hs15 := hb15.size
    have I15 := I14.below hb15
    have B315 := B314.trans (hb15.mono (by omega))
    go_wp2_with fail
    (go_at_call 31; (with_reducible refine (heldI1 V.heap.size v1 N D _ hN I15).mono ?_); rintro e w16 ⟨⟨_, rfl, rfl⟩, hb16⟩)
    have B316 := B315.trans (hb16.mono (by omega))
    go_wp2
    go_ret
    exact ⟨rfl, (K3.call B316).2.2.2⟩
  · rw [if_neg hnm] at hz
    have HZ := Lib.hid hz
    clear hz hA hR
    go_enter Try.func5, Try.ntmps5
    go_wp2_with (go_at_call 10; (with_reducible refine (HZ.out _).mono ?_); rintro e w1 ⟨rfl, hb1⟩)
    go_ret
    exact ⟨rfl, by (with_reducible repeat (first | exact Below.refl _ _ | apply below_alloc | apply below_dN | apply below_d | refine below_setCell ?_ (by dsimp only; omega) | refine below_call (by assumption) ?_))⟩
end Go.Proofs.Ytpmeccjfjjklkaa
