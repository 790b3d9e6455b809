/- Contracts of SinksOf in both spellings. No condition. -/
import Derived.Test.YtbnnpeecajjipaaDri
import Derived.Test.YtbnnpeecajjipaaDsc
namespace Go.Proofs.Ytbnnpeecajjipaa
open Go.RowKit
set_option linter.unusedSimpArgs false
def skI (D : Nat → Int) (n i : Nat) : Int := (snk D n i : Int)
def SKR (W H : Int) (n : Nat) (X : Nat → Nat) : World → Ending → World → Prop := IRes (drK W H n X) (if drK W H n X then n else 0) (skI (drB X W.toNat H.toNat) n)
theorem drK_facts {W H : Int} {n : Nat} {X : Nat → Nat} (h : drK W H n X = true) : ∃ (a b : Nat) (R : Nat → Nat), W = a ∧ H = b ∧ 4 ≤ n ∧ n ≤ 256 ∧ n = a * b ∧ Desc (drB X W.toNat H.toNat) R n := by
  unfold drK at h
  rw [Bool.and_eq_true] at h
  obtain ⟨hg, hd⟩ := h
  obtain ⟨a, b, rfl, rfl, h1, h2, h3, h4, hn, hf⟩ := gridOk_facts hg
  rw [Int.toNat_natCast, Int.toNat_natCast] at hd ⊢
  exact ⟨a, b, _, rfl, rfl, by rw [hn]; exact Nat.mul_le_mul h1 h3, by rw [hn]; exact Nat.mul_le_mul h2 h4, hn, drB_desc hg hd⟩
set_option maxRecDepth 100000 in
set_option maxHeartbeats 4000000 in
theorem sSinks_c (W H : Int) (b n c : Nat) (X : Nat → Nat) (w : World) (hn : n ≤ 1048576) (hb : b < w.heap.size) (hX : FlCells w b n X) :
    Calls Try.prog 25 #[.agg #[.int .i64 W, .int .i64 H, .slice (some ⟨b, 0, none⟩) n c]] w (SKR W H n X w) := by
  obtain ⟨i0, hi0, hI0, hI1, hI2⟩ := info_parts info_i64
  have hN := gtc.newAt (w := w) (p := w.heap.size) (u := .int .i64 W) (v := .int .i64 H) (z := .slice (some ⟨b, 0, none⟩) n c) rfl
  have hb0 : Below w.heap.size w (w.alloc (.cells #[.int .i64 W, .int .i64 H, .slice (some ⟨b, 0, none⟩) n c] 30)) := by (with_reducible repeat (first | exact Below.refl _ _ | apply below_alloc | apply below_dN | apply below_d | refine below_setCell ?_ (by dsimp only; omega) | refine below_call (by assumption) ?_))
  have hs0 : (w.alloc (.cells #[.int .i64 W, .int .i64 H, .slice (some ⟨b, 0, none⟩) n c] 30)).heap.size = w.heap.size + 1 := by simp
  have hD := sDrains_c W H b n c X (w.alloc (.cells #[.int .i64 W, .int .i64 H, .slice (some ⟨b, 0, none⟩) n c] 30)) hn (by omega) (hX.dn hb hb0)
  unfold DRR at hD
  unfold SKR
  cases hq : drK W H n X
  · rw [hq] at hD
    have HD := Lib.hid hD
    clear hD hX hq
    go_enter Try.func25, Try.ntmps25
    go_wp2_with (go_at_call 18; ((with_reducible refine (HD.out).mono ?_); rintro e w1 ⟨v, rfl, hA, hb1⟩))
    go_ret2
    exact IRes.nil (hb0.trans (hb1.mono (by omega)))
  · obtain ⟨wa, ha, R, eW, eH, h4, h256, hnm, hDs⟩ := drK_facts hq
    rw [hq] at hD
    generalize drB X W.toNat H.toNat = D at hD hDs ⊢
    have HD := Lib.hid hD
    have HDs := Lib.hid hDs
    have HNM := Lib.hid hnm
    subst eW eH
    have hwm : IntKind.i64.wrap ((wa : Int) * (ha : Int)) = (n : Int) := by
      have e : (wa : Int) * (ha : Int) = (n : Int) := by rw [hnm, Int.natCast_mul]
      rw [e, IntKind.wrap_i64]
      omega
    clear hD hX hq hDs hnm
    go_enter Try.func25, Try.ntmps25
    go_upto_region 4 with (go_at_call 18; ((with_reducible refine (HD.out).mono ?_); rintro e w1 ⟨v, rfl, hA, hb1⟩))
    obtain ⟨g, cap, rfl, hg, hDr⟩ := hA.blk (show 0 < n by omega)
    have hN1 := hN.below hb1
    have hB1 := hb0.trans (hb1.mono (by omega))
    have hs1 := hB1.size
    have HN1 := Lib.hid hN1
    have HB1 := Lib.hid hB1
    have HDr := Lib.hid hDr
    have hgl := hDr.lt
    have hs1' := hb1.size
    have c0 := hN1.c0
    have c1 := hN1.c1
    have pl := hN1.lt
    clear hA hb1 hb0 hN hN1 hB1 hDr
    go_wp2
    clear c0 c1 pl
    go_loopw [6, 7] (fun ov iv wr => ∃ i : Nat, i ≤ n ∧ iv = .int .i64 i ∧ wr.ownsRow w1.heap.size 2 1 ov i (dvs (skI D n) i) ∧ Below w1.heap.size w1 wr) (fun _ iv _ => n - (intOf iv).toNat)
    case atStart => exact ⟨0, by omega, rfl, ⟨rfl, .inr ⟨w1.heap.size, 0, #[], rfl, Nat.le_refl _, heap_alloc_new _ _, Nat.le_refl _, by simp [maxLen], rfl, rfl⟩⟩, by (with_reducible repeat (first | exact Below.refl _ _ | apply below_alloc | apply below_dN | apply below_d | refine below_setCell ?_ (by dsimp only; omega) | refine below_call (by assumption) ?_))⟩
    case round =>
      rename World => wO
      obtain ⟨i, hi, rfl, hown, hB⟩ := hrel
      have hNO := HN1.out.below hB
      have c0 := hNO.c0
      have c1 := hNO.c1
      have pl := hNO.lt
      have HOWN := Lib.hid hown
      have HB := Lib.hid hB
      have hBs := hB.size
      clear hown hB
      by_cases hlt : i < n
      · have hlt' : (i : Int) < (n : Int) := by omega
        go_wp2
        clear c0 c1 pl
        go_loopw [8] (fun av wx => ∃ a : Nat, a < n ∧ av = .int .i64 a ∧ snk D n a = snk D n i ∧ Below wO.heap.size wO wx) (fun av _ => R (intOf av).toNat)
        case atStart => exact ⟨i, hlt, rfl, rfl, Below.refl _ _⟩
        case round =>
          rename World => wM
          obtain ⟨a, ha, rfl, hsn, hBx⟩ := hrel
          have hDM := HDr.out.below (HB.out.trans (hBx.mono hBs))
          have q0 := hDM.cell ha
          have ql := hDM.lt
          have HSN := Lib.hid hsn
          have HBx := Lib.hid hBx
          have hBxs := hBx.size
          have hai : (a : Int) < (n : Int) := by omega
          clear hDM hsn hBx
          rcases HDs.out.2 a ha with ⟨ed, em⟩ | ⟨k, ek, hk, hlr⟩
          · have hend := snk_end HDs.out ha ed
            rw [em] at q0
            clear em ed
            have hown := own_below HOWN.out HBx.out
            have hv : skI D n i = (a : Int) := by unfold skI; rw [← HSN.out, hend]
            have HV := Lib.hid hv
            have HBw := Lib.hid (HB.out.trans (HBx.out.mono hBs))
            have hBws := HBw.out.size
            clear hv hend
            go_wp2_with (at_builtin; refine wpList_append_own _ rfl (.tmp 36) (.tmp 38) 37 rfl w1.heap.size 2 i0 (.int .i64 0) 1 8 Try.underlying37 hi0 hI0 hI1 hI2 rfl (by decide) _ _ _ rfl (hown.alloc _) ⟨wM.heap.size, 0, none⟩ 1 1 [.int .i64 (a : Int)] rfl rfl (cell_one_new _ _ _) (by intro u hu; simp at hu; subst hu; rfl) (by unfold maxLen; omega) (by omega) (by simp; omega) ?_; intro v1 w5 hown5 hgrow5 hnil5)
            go_roundw
            case rel => exact ⟨i + 1, by omega, by go_num, by rw [dvs_snoc, HV.out]; exact hown5, (HBw.out.alloc hBws _).grown hgrow5 (by simp; omega) (fun j hj => (hown.lt j hj).1)⟩
            case measure => first | (simp [intOf]; done) | (simp [intOf]; omega)
          · have hst := snk_step HDs.out ha ek hk
            rw [ek] at q0
            have HST := Lib.hid hst
            have HLR := Lib.hid hlr
            clear hst hlr ek
            go_wp2
            go_roundw
            case rel => exact ⟨k, hk, by go_num, HST.out.symm.trans HSN.out, HBx.out⟩
            case measure => simpa [intOf] using HLR.out
      · obtain rfl : i = n := by omega
        have hlt' : ¬ ((i : Int) < (i : Int)) := by omega
        go_wp2
        go_ret2
        exact ⟨_, rfl, IArr.lo (own_iarr HOWN.out (fun j hj => dvs_at hj)) HB1.out.size, HB1.out.trans (HB.out.mono HB1.out.size)⟩
set_option maxRecDepth 100000 in
set_option maxHeartbeats 4000000 in
theorem iSinks_c (W H : Int) (b n c : Nat) (X : Nat → Nat) (w : World) (hn : n ≤ 1048576) (hb : b < w.heap.size) (hX : FlCells w b n X) :
    Calls Try.prog 26 #[.agg #[.int .i64 W, .int .i64 H, .slice (some ⟨b, 0, none⟩) n c]] w (SKR W H n X w) := by
  obtain ⟨i0, hi0, hI0, hI1, hI2⟩ := info_parts info_i64
  have hN := gtc.newAt (w := w) (p := w.heap.size) (u := .int .i64 W) (v := .int .i64 H) (z := .slice (some ⟨b, 0, none⟩) n c) rfl
  have hb0 : Below w.heap.size w (w.alloc (.cells #[.int .i64 W, .int .i64 H, .slice (some ⟨b, 0, none⟩) n c] 30)) := by (with_reducible repeat (first | exact Below.refl _ _ | apply below_alloc | apply below_dN | apply below_d | refine below_setCell ?_ (by dsimp only; omega) | refine below_call (by assumption) ?_))
  have hs0 : (w.alloc (.cells #[.int .i64 W, .int .i64 H, .slice (some ⟨b, 0, none⟩) n c] 30)).heap.size = w.heap.size + 1 := by simp
  have hD := iDrains_c W H b n c X (w.alloc (.cells #[.int .i64 W, .int .i64 H, .slice (some ⟨b, 0, none⟩) n c] 30)) hn (by omega) (hX.dn hb hb0)
  unfold DRR at hD
  unfold SKR
  cases hq : drK W H n X
  · rw [hq] at hD
    have HD := Lib.hid hD
    clear hD hX hq
    go_enter Try.func26, Try.ntmps26
    go_wp2_with (go_at_call 19; ((with_reducible refine (HD.out).mono ?_); rintro e w1 ⟨v, rfl, hA, hb1⟩))
    go_ret2
    exact IRes.nil (hb0.trans (hb1.mono (by omega)))
  · obtain ⟨wa, ha, R, eW, eH, h4, h256, hnm, hDs⟩ := drK_facts hq
    rw [hq] at hD
    generalize drB X W.toNat H.toNat = D at hD hDs ⊢
    have HD := Lib.hid hD
    have HDs := Lib.hid hDs
    have HNM := Lib.hid hnm
    subst eW eH
    have hwm : IntKind.i64.wrap ((wa : Int) * (ha : Int)) = (n : Int) := by
      have e : (wa : Int) * (ha : Int) = (n : Int) := by rw [hnm, Int.natCast_mul]
      rw [e, IntKind.wrap_i64]
      omega
    clear hD hX hq hDs hnm
    go_enter Try.func26, Try.ntmps26
    go_upto_region 4 with (go_at_call 19; ((with_reducible refine (HD.out).mono ?_); rintro e w1 ⟨v, rfl, hA, hb1⟩))
    obtain ⟨g, cap, rfl, hg, hDr⟩ := hA.blk (show 0 < n by omega)
    have hN1 := hN.below hb1
    have hB1 := hb0.trans (hb1.mono (by omega))
    have hs1 := hB1.size
    have HN1 := Lib.hid hN1
    have HB1 := Lib.hid hB1
    have HDr := Lib.hid hDr
    have hgl := hDr.lt
    have hs1' := hb1.size
    have c0 := hN1.c0
    have c1 := hN1.c1
    have pl := hN1.lt
    clear hA hb1 hb0 hN hN1 hB1 hDr
    go_wp2
    clear c0 c1 pl
    go_loopw [6, 18] (fun ov iv wr => ∃ i : Nat, i ≤ n ∧ iv = .int .i64 i ∧ wr.ownsRow w1.heap.size 2 1 ov i (dvs (skI D n) i) ∧ Below w1.heap.size w1 wr) (fun _ iv _ => n - (intOf iv).toNat)
    case atStart => exact ⟨0, by omega, rfl, ⟨rfl, .inl ⟨rfl, rfl⟩⟩, by (with_reducible repeat (first | exact Below.refl _ _ | apply below_alloc | apply below_dN | apply below_d | refine below_setCell ?_ (by dsimp only; omega) | refine below_call (by assumption) ?_))⟩
    case round =>
      rename World => wO
      obtain ⟨i, hi, rfl, hown, hB⟩ := hrel
      have hNO := HN1.out.below hB
      have c0 := hNO.c0
      have c1 := hNO.c1
      have pl := hNO.lt
      have HOWN := Lib.hid hown
      have HB := Lib.hid hB
      have hBs := hB.size
      clear hown hB
      by_cases hlt : i < n
      · have hlt' : (i : Int) < (n : Int) := by omega
        go_wp2
        clear c0 c1 pl
        go_loopw [8] (fun av wx => ∃ a : Nat, a < n ∧ av = .int .i64 a ∧ snk D n a = snk D n i ∧ Below wO.heap.size wO wx) (fun av _ => R (intOf av).toNat)
        case atStart => exact ⟨i, hlt, rfl, rfl, Below.refl _ _⟩
        case round =>
          rename World => wM
          obtain ⟨a, ha, rfl, hsn, hBx⟩ := hrel
          have hDM := HDr.out.below (HB.out.trans (hBx.mono hBs))
          have q0 := hDM.cell ha
          have ql := hDM.lt
          have HSN := Lib.hid hsn
          have HBx := Lib.hid hBx
          have hBxs := hBx.size
          have hai : (a : Int) < (n : Int) := by omega
          clear hDM hsn hBx
          rcases HDs.out.2 a ha with ⟨ed, em⟩ | ⟨k, ek, hk, hlr⟩
          · have hend := snk_end HDs.out ha ed
            rw [em] at q0
            clear em ed
            have hown := own_below HOWN.out HBx.out
            have hv : skI D n i = (a : Int) := by unfold skI; rw [← HSN.out, hend]
            have HV := Lib.hid hv
            have HBw := Lib.hid (HB.out.trans (HBx.out.mono hBs))
            have hBws := HBw.out.size
            clear hv hend
            go_wp2_with (at_builtin; refine wpList_append_own _ rfl (.tmp 31) (.tmp 33) 37 rfl w1.heap.size 2 i0 (.int .i64 0) 1 8 Try.underlying37 hi0 hI0 hI1 hI2 rfl (by decide) _ _ _ rfl (hown.alloc _) ⟨wM.heap.size, 0, none⟩ 1 1 [.int .i64 (a : Int)] rfl rfl (cell_one_new _ _ _) (by intro u hu; simp at hu; subst hu; rfl) (by unfold maxLen; omega) (by omega) (by simp; omega) ?_; intro v1 w5 hown5 hgrow5 hnil5)
            go_roundw
            case rel => exact ⟨i + 1, by omega, by go_num, by rw [dvs_snoc, HV.out]; exact hown5, (HBw.out.alloc hBws _).grown hgrow5 (by simp; omega) (fun j hj => (hown.lt j hj).1)⟩
            case measure => first | (simp [intOf]; done) | (simp [intOf]; omega)
          · have hst := snk_step HDs.out ha ek hk
            rw [ek] at q0
            have HST := Lib.hid hst
            have HLR := Lib.hid hlr
            clear hst hlr ek
            go_wp2
            go_roundw
            case rel => exact ⟨k, hk, by go_num, HST.out.symm.trans HSN.out, HBx.out⟩
            case measure => simpa [intOf] using HLR.out
      · obtain rfl : i = n := by omega
        have hlt' : ¬ ((i : Int) < (i : Int)) := by omega
        go_wp2
        go_ret2
        exact ⟨_, rfl, IArr.lo (own_iarr HOWN.out (fun j hj => dvs_at hj)) HB1.out.size, HB1.out.trans (HB.out.mono HB1.out.size)⟩
end Go.Proofs.Ytbnnpeecajjipaa
