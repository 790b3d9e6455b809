/- The law of CutPlaces. No condition. -/
import Derived.Test.YtnkimeeofmbhkaaCutI
import Derived.Test.YtnkimeeofmbhkaaCutS
import Derived.Test.YtnkimeeofmbhkaaCutE
namespace Go.Proofs.Ytnkimeeofmbhkaa
open Go.RowKit
set_option linter.unusedSimpArgs false
/-- What both spellings return, cell by cell. -/
theorem CutR.norm {ok : Bool} {n B : Nat} {X Y : Nat → Nat} {w w' : World} {e : Ending} (h : CutR ok n X Y B w e w') : ∃ v f, e = .returned (.tuple #[v, .bool ok]) ∧ SSP w' w.heap.size v (if ok then pK (cutAt B Y) n else 0) (pL (cutAt B Y) n) f ∧ PF (if ok then pK (cutAt B Y) n else 0) X Y (pS (cutAt B Y) n) (pL (cutAt B Y) n) f ∧ Below w.heap.size w w' := by
  obtain ⟨v, e, h1, h2⟩ := h
  cases ok
  · obtain rfl : v = .slice none 0 0 := h1
    exact ⟨_, fun _ _ => undef, e, SSP.nil, fun j hj => absurd hj (by simp), h2⟩
  · obtain ⟨f, h3, h4⟩ := CutSt.ssp (show CutSt w' w.heap.size v (cutAt B Y) X Y n from h1)
    exact ⟨v, f, e, h3, h4, h2⟩
theorem cut_small {n B : Nat} {X Y : Nat → Nat} : (if cutOk n X Y B then pK (cutAt B Y) n else 0) ≤ 64 ∧ (∀ j, j < (if cutOk n X Y B then pK (cutAt B Y) n else 0) → pL (cutAt B Y) n j ≤ 64) ∧ sumP (pL (cutAt B Y) n) (if cutOk n X Y B then pK (cutAt B Y) n else 0) ≤ 64 := by
  cases hq : cutOk n X Y B
  · exact ⟨by simp, fun j hj => absurd hj (by simp), by simp [sumP]⟩
  · have hn : n ≤ 64 := by
      unfold cutOk at hq
      simp only [Bool.and_eq_true] at hq
      exact (arePl_get hq.1).2.2
    simp only [if_true]
    refine ⟨Nat.le_trans (pK_le n) hn, fun j hj => ?_, ?_⟩
    · have := p_in (ct := cutAt B Y) n j hj
      omega
    · rw [p_sum rfl n]; exact hn
set_option maxRecDepth 100000 in
set_option maxHeartbeats 8000000 in
theorem lawCutPlaces (A : Option Addr) (n cap br : Nat) (x y : Nat → Nat) (w : World) (hn0 : n ≤ 9223372036854775807) (hA : PlArg w A n x y) :
    Calls Try.prog 4 #[.slice A n cap, .float .f32 br] w fun e w' => e = .returned (.bool true) ∧ Below w.heap.size w w' := by
  by_cases hn : n ≤ 1048576
  · have hsz := szPlaceS_c A n cap 1048576 (by decide) (by decide) hn0 w
    rw [if_neg (by omega)] at hsz
    have hl0 : ¬ (1048576 - (n : Int) < 0) := by omega
    have HSZ := Lib.hid hsz
    have HA := Lib.hid hA
    have hs := fun b w' hb hP => (sCut_c b n n br (cn .f32 br) (canon x) (canon y) w' rfl hb hn hP).mono fun e w'' h => CutR.norm h
    have hi := fun b w' hb hP => (iCut_c b n n br (cn .f32 br) (canon x) (canon y) w' rfl hb hn hP).mono fun e w'' h => CutR.norm h
    obtain ⟨hK, hL, hsum⟩ := cut_small (n := n) (B := cn .f32 br) (X := canon x) (Y := canon y)
    generalize (if cutOk n (canon x) (canon y) (cn .f32 br) then pK (cutAt (cn .f32 br) (canon y)) n else 0) = K at hs hi hK hL hsum
    generalize cutOk n (canon x) (canon y) (cn .f32 br) = ok at hs hi
    generalize pL (cutAt (cn .f32 br) (canon y)) n = L at hs hi hL hsum
    generalize pS (cutAt (cn .f32 br) (canon y)) n = S at hs hi
    have HS := Lib.hid hs
    have HI := Lib.hid hi
    have HLL := Lib.hid hL
    clear hsz hA hs hi hL
    go_enter Try.func4, Try.ntmps4
    go_upto_region 5 with (go_at_call 12; refine (HSZ.out).mono ?_; rintro e w' ⟨rfl, rfl⟩)
    go_wp2_with fail
    (go_at_call 14; refine (toPlaceS_c A n cap x y _ hn (HA.out.below (Below.refl _ _))).mono ?_; rintro e w1 ⟨b1, rfl, hge_b1, hblk_b1, hbw_b1⟩)
    go_wp2_with fail
    (go_at_call 13; refine (HS.out b1 _ hblk_b1.lt hblk_b1.canon).mono ?_; rintro e w2 ⟨v0, f0, rfl, hI0, hF0, hb2⟩)
    have B2 : Below w.heap.size w w2 := hbw_b1.trans (hb2.mono hbw_b1.size)
    have hs2 := B2.size
    go_wp2_with fail
    (go_at_call 14; refine (toPlaceS_c A n cap x y _ hn (HA.out.below B2)).mono ?_; rintro e w3 ⟨b3, rfl, hge_b3, hblk_b3, hbw_b3⟩)
    have B3 := B2.trans (hbw_b3.mono hs2)
    have hs3 := hbw_b3.size
    go_wp2_with fail
    (go_at_call 15; refine (HI.out b3 _ hblk_b3.lt hblk_b3.canon).mono ?_; rintro e w4 ⟨v1, f1, rfl, hI1, hF1, hb4⟩)
    have hs4 := hb4.size
    have B24 : Below w2.heap.size w2 w4 := hbw_b3.trans (hb4.mono hs3)
    have B4 := B2.trans (B24.mono hs2)
    have hlt3 := hblk_b3.lt
    go_wp2_with fail
    (go_at_call 16; refine (eqSSP_c _ _ v1 v0 K S L _ _ f1 f0 _ hK HLL.out hI1 (hI0.below B24) hF1 hF0).mono ?_; rintro e w5 ⟨⟨_, rfl, rfl⟩, hb5⟩)
    have hs5 := hb5.size
    have B25 := B24.trans (hb5.mono B24.size)
    have B5 := B2.trans (B25.mono hs2)
    go_wp2_with fail
    (go_at_call 14; refine (toPlaceS_c A n cap x y _ hn (HA.out.below B5)).mono ?_; rintro e w6 ⟨b6, rfl, hge_b6, hblk_b6, hbw_b6⟩)
    have hs6 := hbw_b6.size
    have hx0 : PlBlk w6 b3 n x y := ((hblk_b3.below hb4 hlt3).below hb5 (by omega)).below hbw_b6 (by omega)
    have B26 := B25.trans (hbw_b6.mono (by omega))
    go_wp2_with fail
    (go_at_call 17; refine (eqPlaceS_c b3 b6 n n n _ _ _ hn hx0.lt hblk_b6.lt hx0.canon hblk_b6.canon).mono ?_; rintro e w7 ⟨⟨v, rfl, rfl⟩, hb7⟩)
    have hs7 := hb7.size
    have hx7 := hx0.below hb7 hx0.lt
    have B27 := B26.trans (hb7.mono (by omega))
    have I1 := ((hI1.below hb5).below hbw_b6).below hb7
    go_wp2_with fail
    (go_at_call 18; refine (markPl_c w2.heap.size b3 n 1 _ _ (by omega) hn (by omega) hx7).mono ?_; rintro e w8 ⟨rfl, hb8, hk8⟩)
    have hs8 := hb8.size
    have B28 := B27.trans hb8
    have I1b := I1.keep (fun b hb hl => hk8 b hb (by omega))
    have I0b := hI0.below B28
    go_wp2_with fail
    (go_at_call 16; refine (eqSSP_c _ _ v1 v0 K S L _ _ f1 f0 _ hK HLL.out I1b I0b hF1 hF0).mono ?_; rintro e w9 ⟨⟨_, rfl, rfl⟩, hb9⟩)
    have hs9 := hb9.size
    have B29 := B28.trans (hb9.mono B28.size)
    have I1c := I1b.below hb9
    go_wp2_with fail
    (go_at_call 19; refine (markSSP_c w3.heap.size v1 K L f1 _ (by omega) hK hsum I1c).mono ?_; rintro e w10 ⟨rfl, I1d, hb10⟩)
    have hs10 := hb10.size
    have B210 := B29.trans (hb10.mono (by omega))
    go_wp2_with fail
    (go_at_call 20; refine (heldSSP_c w3.heap.size v1 K L f1 _ hK hsum I1d).mono ?_; rintro e w11 ⟨⟨_, rfl, rfl⟩, hb11⟩)
    have hs11 := hb11.size
    have I1e := I1d.below hb11
    have B211 := B210.trans (hb11.mono B210.size)
    have B11 := B2.trans (B211.mono hs2)
    go_wp2_with fail
    (go_at_call 14; refine (toPlaceS_c A n cap x y _ hn (HA.out.below B11)).mono ?_; rintro e w12 ⟨b12, rfl, hge_b12, hblk_b12, hbw_b12⟩)
    have hs12 := hbw_b12.size
    have B212 := B211.trans (hbw_b12.mono B211.size)
    go_wp2_with fail
    (go_at_call 15; refine (HI.out b12 _ hblk_b12.lt hblk_b12.canon).mono ?_; rintro e w13 ⟨v2, f2, rfl, hI2, hF2, hb13⟩)
    have hs13 := hb13.size
    have B213 := B212.trans (hb13.mono B212.size)
    have I1f := (I1e.below hbw_b12).below hb13
    go_wp2_with fail
    (go_at_call 16; refine (eqSSP_c _ _ v2 v0 K S L _ _ f2 f0 _ hK HLL.out hI2 (hI0.below B213) hF2 hF0).mono ?_; rintro e w14 ⟨⟨_, rfl, rfl⟩, hb14⟩)
    have I1g := I1f.below hb14
    have B214 := B213.trans (hb14.mono B213.size)
    go_wp2_with fail
    (go_at_call 20; refine (heldSSP_c w3.heap.size v1 K L f1 _ hK hsum I1g).mono ?_; rintro e w15 ⟨⟨_, rfl, rfl⟩, hb15⟩)
    have B215 := B214.trans (hb15.mono B214.size)
    go_wp2
    go_ret
    exact ⟨rfl, B2.trans (B215.mono hs2)⟩
  · have hsz := szPlaceS_c A n cap 1048576 (by decide) (by decide) hn0 w
    rw [if_pos (by omega)] at hsz
    have HS := Lib.hid hsz
    clear hsz hA
    go_enter Try.func4, Try.ntmps4
    go_wp2_with (go_at_call 12; refine (HS.out).mono ?_; rintro e w' ⟨rfl, rfl⟩)
    go_ret
    exact ⟨rfl, by (with_reducible repeat (first | exact Below.refl _ _ | apply below_alloc | apply below_dN | apply below_d | refine below_setCell ?_ (by dsimp only; omega) | refine below_call (by assumption) ?_))⟩
end Go.Proofs.Ytnkimeeofmbhkaa
