/- A closed walk. No condition. -/
import Derived.Test.YtnkfbinppikhkaaWkW
namespace Go.Proofs.Ytnkfbinppikhkaa
open Go.RowKit Go.Deep
set_option linter.unusedSimpArgs false
set_option maxRecDepth 100000 in
set_option maxHeartbeats 8000000 in
theorem closeWalk_c (A : Option Addr) (n c x y E F : Nat) (a b : Nat → Int) (w : World) (hM : Mk n a b) (hx : cn .f32 x = E) (hy : cn .f32 y = F) (hA : CxArg w A n (fun j => qz (a j)) (fun j => qz (b j))) (hfc : finC E F = true)
    (hall : allC (fun j => cW a b n (fop .sub .f32 E (qz (a (n - 1)))) (qz (a j)) j) (fun j => cW a b n (fop .sub .f32 F (qz (b (n - 1)))) (qz (b j)) j) n = true) :
    Calls Try.prog 12 #[.slice A n c, .complex .f32 x y] w (CxRes n (fun j => cW a b n (fop .sub .f32 E (qz (a (n - 1)))) (qz (a j)) j) (fun j => cW a b n (fop .sub .f32 F (qz (b (n - 1)))) (qz (b j)) j) w) := by
  have h2 := hM.n2
  have h9 := hM.n9
  obtain ⟨i0, hi0, hI0, hI1, hI2⟩ := info_parts info_c64
  have HLg := Lib.hid (legsOf_c A n c a b w hM hA)
  have HFC := Lib.hid (fun w => hfc ▸ iCFinite_c x y _ _ hx hy w)
  have HALL := Lib.hid hall
  have HM := Lib.hid hM
  have HA := Lib.hid hA
  have HX := Lib.hid hx
  have HY := Lib.hid hy
  clear hM hA hfc hall hx hy
  go_enter Try.func12, Try.ntmps12
  go_wp2_with (first | (go_at_call 7; ((with_reducible refine (HLg.out).mono ?_); rintro e w1 ⟨A1, c1, rfl, hL1, hb1⟩; have HL1 := Lib.hid hL1; clear hL1)) | (go_at_call 21; ((with_reducible refine (HFC.out _).mono ?_); rintro e w2 ⟨⟨v, rfl, rfl⟩, hb2⟩; have hB2 := hb1.trans (hb2.mono hb1.size); have HB2 := Lib.hid hB2; have HL2 := Lib.hid (HL1.out.below hb2); clear hB2)))
  have hs2 := HB2.out.size
  go_loopw [8, 30] (fun v k wr => ∃ (m r : Nat), m ≤ n - 1 ∧ k = .int .i64 (m : Int) ∧ v = .float .f32 r ∧ cn .f32 r = pS a b m ∧ Below w2.heap.size w2 wr) (fun _ k _ => n - (intOf k).toNat)
  case atStart => exact ⟨0, 0, by omega, rfl, rfl, by simp [pS], Below.refl _ _⟩
  case round =>
    rename World => wO
    obtain ⟨m, tot, hm, rfl, rfl, hr0, hB⟩ := hrel
    have hsO := hB.size
    have HB := Lib.hid hB
    by_cases hlt : m < n - 1
    · have hlt' : (m : Int) < ((n - 1 : Nat) : Int) := by omega
      obtain ⟨g, rfl, hg, tu, lo, c0, c1, hT, hL, otu, olo⟩ := HL2.out.below hB m hlt
      clear hB
      go_wp2_with (refine wpL_farith rfl _ _ _ _ _ rfl rfl _ _ _ rfl rfl ?_; intro rr nn hrr hww)
      go_roundw
      case rel => exact ⟨m + 1, _, by omega, by go_num, rfl, by rw [hrr, hr0, hL]; rfl, by have := HB.out; exact below_dN (this.alloc hsO _)⟩
      case measure => first | (simp [intOf]; done) | (simp [intOf]; omega)
    · obtain rfl : m = n - 1 := by omega
      have hlt' : ¬ (((n - 1 : Nat) : Int) < ((n - 1 : Nat) : Int)) := by omega
      obtain ⟨gA, eA, hgA, p0, q0, k0, hp0, hq0⟩ := (HA.out.below (HB2.out.trans (hB.mono hs2))) (n - 1) (by omega)
      have hA3 := HA.out.below (HB2.out.trans (hB.mono hs2))
      have HA3 := Lib.hid hA3
      have HL3 := Lib.hid (HL2.out.below hB)
      obtain rfl := eA
      have hwr : IntKind.i64.wrap ((n : Int) - 1) = ((n - 1 : Nat) : Int) := by rw [IntKind.wrap_i64]; omega
      have ew : (n : Int) - 1 = ((n - 1 : Nat) : Int) := by omega
      have hi1 : (0 : Int) ≤ ((n - 1 : Nat) : Int) := by omega
      have hi2 : ((n - 1 : Nat) : Int) < (n : Int) := by omega
      have HLs := Lib.hid (fun w => less_c x y p0 q0 _ _ _ _ HX.out HY.out hp0 hq0 w)
      clear hp0 hq0 hB hA3
      go_wp2_with (go_at_call 16; ((with_reducible refine (HLs.out _).mono ?_); rintro e w4 ⟨⟨v, rfl, dx, dy, rfl, hdx, hdy, odx, ody⟩, hb4⟩))
      have hs4 := hb4.size
      have HB4 := Lib.hid (HB2.out.trans ((HB.out.trans (hb4.mono hsO)).mono hs2))
      have HA4 := Lib.hid (HA3.out.below hb4)
      have HL4 := Lib.hid (HL3.out.below hb4)
      clear hb4 k0
      go_loopw [9, 13, 49] (fun pv ov kv wr => ∃ (i r : Nat) (xs : List Value), i ≤ n ∧ kv = .int .i64 (i : Int) ∧ pv = .float .f32 r ∧ cn .f32 r = pS a b (i - 1) ∧ wr.ownsRow w4.heap.size 32 1 ov i xs ∧ cxV (fun j => cW a b n (fop .sub .f32 E (qz (a (n - 1)))) (qz (a j)) j) (fun j => cW a b n (fop .sub .f32 F (qz (b (n - 1)))) (qz (b j)) j) xs i ∧ Below w4.heap.size w4 wr) (fun _ _ kv _ => n - (intOf kv).toNat)
      case atStart => exact ⟨0, 0, [], by omega, rfl, rfl, by simp [pS], World.ownsRow_nil _ _ _ _, fun j hj => absurd hj (by omega), Below.refl _ _⟩
      case round =>
        rename World => wP
        obtain ⟨i, r, xs, hi, rfl, rfl, hr, hown, hxs, hB⟩ := hrel
        have hsP := hB.size
        have hl := hown.1
        have HXS := Lib.hid hxs
        have HBP := Lib.hid hB
        have HOWN := Lib.hid hown
        by_cases hlt : i < n
        · have hlt2 : (i : Int) < (n : Int) := by omega
          have hi0' : (0 : Int) ≤ (i : Int) := by omega
          obtain ⟨g2, e2, hg2, p, q, c0, hp, hq⟩ := HA4.out.below hB i hlt
          cases e2
          by_cases h0 : i = 0
          · subst h0
            clear hown hxs hB
            (go_wp2_with (first | (refine wpL_farith rfl _ _ _ _ _ rfl rfl _ _ _ rfl rfl ?_; intro qa nq hqa hwq) | (go_at_call 23; ((with_reducible refine (scale_c _ _ _ _ _ _ hdx hdy hqa _).mono ?_); rintro e w5 ⟨⟨v, rfl, sx, sy, rfl, hsx, hsy, osx, osy⟩, hb5⟩)) | (go_at_call 22; ((with_reducible refine (plus_c _ _ _ _ _ _ _ _ hp hq hsx hsy _).mono ?_); rintro e w6 ⟨⟨v, rfl, px, py, rfl, hpx, hpy, opx, opy⟩, hb6⟩; have hB5 : Below wP.heap.size wP w5 := (⟨hb5.os, hb5.tape, hb5.output, hb5.size, hb5.block⟩); have hB6 := hB5.trans (hb6.mono hB5.size); have own6 := own_below HOWN.out hB6; have hs6 := hB6.size)) | (at_builtin; refine wpList_append_lies _ rfl (.tmp 64) (.tmp 72) 25 rfl w4.heap.size 32 i0 (.complex .f32 0 0) 1 8 Try.underlying25 hi0 hI0 hI1 hI2 rfl (by decide) _ _ _ rfl (own6.alloc _) _ 1 1 [.complex .f32 px py] rfl rfl (cell_one_new _ _ _) (by intro u hu; simp at hu; subst hu; rfl) (by omega) (by unfold maxLen; omega) (by omega) (by simp; omega) _ rfl ?_; intro gN capN w8 hown8 hgrow8 hlies8 hlt8)))
            (go_roundw; (case rel => exact ⟨0 + 1, _, _, by omega, by go_num, rfl, by simpa using hr, hown8, HXS.out.snoc (by omega) (by rw [hpx, hr, hr0]; rfl) (by rw [hpy, hr, hr0]; rfl), HBP.out.trans (((hB6.mono hsP).alloc (by omega) _).grown hgrow8 (by simp; omega) (fun j hj => (own6.lt j hj).1))⟩); (case measure => first | (simp [intOf]; done) | (simp [intOf]; omega)))
          · have h0' : 0 < (i : Int) := by omega
            obtain ⟨g3, rfl, hg3, tu, lo, d0, d1, hT, hL, otu, olo⟩ := HL4.out.below hB (i - 1) (by omega)
            have hw1 : IntKind.i64.wrap ((i : Int) - 1) = ((i - 1 : Nat) : Int) := by rw [IntKind.wrap_i64]; omega
            have hw2 : (i : Int) - 1 = ((i - 1 : Nat) : Int) := by omega
            have hw3 : (0 : Int) ≤ ((i - 1 : Nat) : Int) := by omega
            have hw4 : ((i - 1 : Nat) : Int) < ((n - 1 : Nat) : Int) := by omega
            clear hown hxs hB
            go_upto_region 17 with (refine wpL_farith rfl _ _ _ _ _ rfl rfl _ _ _ rfl rfl ?_; intro ra na hra hwa)
            have hpr : cn .f32 ra = pS a b i := by rw [hra, hr, hL, show pS a b i = pS a b (i - 1 + 1) by rw [show i - 1 + 1 = i by omega]]; rfl
            clear hra hr
            (go_wp2_with (first | (refine wpL_farith rfl _ _ _ _ _ rfl rfl _ _ _ rfl rfl ?_; intro qa nq hqa hwq) | (go_at_call 23; ((with_reducible refine (scale_c _ _ _ _ _ _ hdx hdy hqa _).mono ?_); rintro e w5 ⟨⟨v, rfl, sx, sy, rfl, hsx, hsy, osx, osy⟩, hb5⟩)) | (go_at_call 22; ((with_reducible refine (plus_c _ _ _ _ _ _ _ _ hp hq hsx hsy _).mono ?_); rintro e w6 ⟨⟨v, rfl, px, py, rfl, hpx, hpy, opx, opy⟩, hb6⟩; have hB5 : Below wP.heap.size wP w5 := (⟨hb5.os, hb5.tape, hb5.output, hb5.size, hb5.block⟩); have hB6 := hB5.trans (hb6.mono hB5.size); have own6 := own_below HOWN.out hB6; have hs6 := hB6.size)) | (at_builtin; refine wpList_append_lies _ rfl (.tmp 64) (.tmp 72) 25 rfl w4.heap.size 32 i0 (.complex .f32 0 0) 1 8 Try.underlying25 hi0 hI0 hI1 hI2 rfl (by decide) _ _ _ rfl (own6.alloc _) _ 1 1 [.complex .f32 px py] rfl rfl (cell_one_new _ _ _) (by intro u hu; simp at hu; subst hu; rfl) (by omega) (by unfold maxLen; omega) (by omega) (by simp; omega) _ rfl ?_; intro gN capN w8 hown8 hgrow8 hlies8 hlt8)))
            (go_roundw; (case rel => exact ⟨i + 1, _, _, by omega, by go_num, rfl, by simpa using hpr, hown8, HXS.out.snoc (by omega) (by rw [hpx, hpr, hr0]; rfl) (by rw [hpy, hpr, hr0]; rfl), HBP.out.trans (((hB6.mono hsP).alloc (by omega) _).grown hgrow8 (by simp; omega) (fun j hj => (own6.lt j hj).1))⟩); (case measure => first | (simp [intOf]; done) | (simp [intOf]; omega)))
        · obtain rfl : i = n := by omega
          have hlt2 : ¬ ((i : Int) < (i : Int)) := by omega
          obtain ⟨A2, c2, rfl, hL⟩ := cxV.arg hown hxs
          have HLx := Lib.hid hL
          have HF := Lib.hid (finitePoints_c A2 i c2 _ _ wP (by omega) hL HALL.out)
          clear hL hown hxs hB
          go_wp2_with (go_at_call 25; ((with_reducible refine (HF.out).mono ?_); rintro e w9 ⟨⟨v, rfl, rfl⟩, hb9⟩))
          go_ret2
          exact ⟨A2, c2, rfl, HLx.out.below hb9, HB4.out.trans ((HBP.out.trans (hb9.mono hsP)).mono (HB4.out.size))⟩
end Go.Proofs.Ytnkfbinppikhkaa
