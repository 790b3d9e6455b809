/- The neighbours of a grid's place, in the other spelling. No condition. -/
import Derived.Test.YtpajakindpbepaaNb
namespace Go.Proofs.Ytpajakindpbepaa
open Go.RowKit
set_option linter.unusedSimpArgs false
set_option maxRecDepth 100000 in
set_option maxHeartbeats 4000000 in
theorem neighbours_c (b n c W H X Y i : Nat) (w : World) (hx : IxOk W H X Y i) :
    Calls Try.prog 63 #[.agg #[.int .i64 W, .int .i64 H, .slice (some ⟨b, 0, none⟩) n c], .int .i64 i] w fun e w' => ∃ v, e = .returned v ∧ IArr w' w.heap.size v (nbL W H X Y i 9).length (nthI (nbL W H X Y i 9)) ∧ Below w.heap.size w w' := by
  have HDIV := Lib.hid hx.div
  have HREM := Lib.hid hx.rem
  obtain ⟨-, -, hXW, hYH, hW2, hW16, hH2, hH16, hi⟩ := hx
  have hW0 : ¬ ((W : Int) = 0) := by omega
  have hWn : (0 : Int) ≤ W := by omega
  have hin : (0 : Int) ≤ i := by omega
  obtain ⟨i0, hi0, hI0, hI1, hI2⟩ := info_parts info_i64
  have hN := gtc.newAt (w := w) (p := w.heap.size) (u := .int .i64 (W : Int)) (v := .int .i64 (H : Int)) (z := .slice (some ⟨b, 0, none⟩) n c) rfl
  have hb0 : Below w.heap.size w (w.alloc (.cells #[.int .i64 (W : Int), .int .i64 (H : Int), .slice (some ⟨b, 0, none⟩) n c] 30)) := by (with_reducible repeat (first | exact Below.refl _ _ | apply below_alloc | apply below_dN | apply below_d | refine below_setCell ?_ (by dsimp only; omega) | refine below_call (by assumption) ?_))
  have HN := Lib.hid hN
  have HB0 := Lib.hid hb0
  clear hN hb0
  go_enter Try.func63, Try.ntmps63
  go_upto_region 2 with fail
  go_cut [6, 7] (fun xv yv wz => xv = .int .i64 (X : Int) ∧ yv = .int .i64 (Y : Int) ∧ Below w.heap.size w wz ∧ gtc wz w.heap.size (.int .i64 (W : Int)) (.int .i64 (H : Int)) (.slice (some ⟨b, 0, none⟩) n c))
  case first =>
    (refine region_below (by kernel_rfl) (by kernel_rfl) ?_; (repeat (first | go_big_quiet_step (fail) | quiet_step (fail))); refine wpQuiet_nil ?_; intro w1 hb; obtain ⟨hc, hfz⟩ := bcell hb; (try simp only [World.heap_drewN] at hc hfz); have hz := hb.size)
    go_wp2
    go_meet
    case rel => exact ⟨by rw [HREM.out], by rw [HDIV.out], HB0.out.trans (hb.mono (by simp)), HN.out.below hb⟩
  case rest =>
    obtain ⟨rfl, rfl, hB1, hN1⟩ := hcut
    have c0 := hN1.c0
    have c1 := hN1.c1
    have pl := hN1.lt
    have HN1 := Lib.hid hN1
    have HB1 := Lib.hid hB1
    clear hN1 hB1
    go_upto_region 3 with fail
    go_cut [8] (fun vv wz => (∃ dv : Nat, vv = .int .i64 ((Y : Int) + (dv : Int) - 1) ∧ (dv = 0 ∨ dv = 1) ∧ (dv = 1 → Y = 0) ∧ 1 ≤ Y + dv) ∧ wc = wz)
    case first =>
      by_cases h : Y = 0
      · have h1 : (Y : Int) - 1 < 0 := by omega
        go_wp2
        go_meet
        case rel => exact ⟨⟨1, by congr 1 <;> omega, .inr rfl, fun _ => h, by omega⟩, rfl⟩
      · have h1 : ¬ ((Y : Int) - 1 < 0) := by omega
        go_wp2
        go_meet
        case rel => exact ⟨⟨0, by congr 1 <;> omega, .inl rfl, fun h => absurd h (by decide), by omega⟩, rfl⟩
    case rest =>
    obtain ⟨⟨dv0, rfl, hd0, hd1, hd2⟩, rfl⟩ := hcut
    have hst : nbL W H X Y i (3 * dv0) = [] := by
      rcases hd0 with rfl | rfl
      · rfl
      · have hY := hd1 rfl
        have f0 := nbOk_v (W := W) (H := H) (X := X) (Y := Y) (i := i) (t := 0) (.inl (by unfold nV; simp; omega))
        have f1 := nbOk_v (W := W) (H := H) (X := X) (Y := Y) (i := i) (t := 1) (.inl (by unfold nV; simp; omega))
        have f2 := nbOk_v (W := W) (H := H) (X := X) (Y := Y) (i := i) (t := 2) (.inl (by unfold nV; simp; omega))
        show nbL W H X Y i 3 = []
        rw [nbL_f f2, nbL_f f1, nbL_f f0]
        rfl
    go_wp2
    clear c0 c1 pl
    go_loopw [5, 8] (fun ov yv wr => ∃ dv : Nat, dv ≤ 3 ∧ 1 ≤ Y + dv ∧ Y + dv ≤ H + 1 ∧ yv = .int .i64 ((Y : Int) + (dv : Int) - 1) ∧ wr.ownsRow wc.heap.size 2 1 ov (nbL W H X Y i (3 * dv)).length (ivs (nbL W H X Y i (3 * dv))) ∧ Below wc.heap.size wc wr) (fun _ yv _ => ((Y : Int) + 2 - intOf yv).toNat)
    case atStart => exact ⟨dv0, by omega, by omega, by omega, rfl, by rw [hst]; exact ⟨rfl, .inl ⟨rfl, rfl⟩⟩, Below.refl _ _⟩
    case round =>
      rename World => wO
      obtain ⟨dv, hdv, hdl, hdh, rfl, hown, hB⟩ := hrel
      have hNO := HN1.out.below hB
      have c0 := hNO.c0
      have c1 := hNO.c1
      have pl := hNO.lt
      have HNO := Lib.hid hNO
      clear hNO
      obtain ⟨vv, hvv⟩ : ∃ v, (Y : Int) + (dv : Int) - 1 = v := ⟨_, rfl⟩
      rw [hvv]
      have HB := Lib.hid hB
      have HOWN := Lib.hid hown
      have hBs := hB.size
      clear hB hown
      by_cases hlt : dv < 3 ∧ Y + dv ≤ H
      · have hle1 : vv ≤ (Y : Int) + 1 := by omega
        have hle2 : vv ≤ (H : Int) - 1 := by omega
        go_upto_region 4 with fail
        go_cut [29] (fun t wz => t = .bool true ∧ wO = wz)
        case first =>
          by_cases h1 : (H : Int) - 1 < (Y : Int) + 1
          · go_wp2
            go_meet
            case rel => exact ⟨rfl, rfl⟩
          · go_wp2
            go_meet
            case rel => exact ⟨rfl, rfl⟩
        case rest =>
        obtain ⟨rfl, rfl⟩ := hcut
        go_upto_region 6 with fail
        go_cut [9] (fun uv wz => (∃ du : Nat, uv = .int .i64 ((X : Int) + (du : Int) - 1) ∧ (du = 0 ∨ du = 1) ∧ (du = 1 → X = 0) ∧ 1 ≤ X + du) ∧ wO = wz)
        case first =>
          by_cases h : X = 0
          · have h1 : (X : Int) - 1 < 0 := by omega
            go_wp2
            go_meet
            case rel => exact ⟨⟨1, by congr 1 <;> omega, .inr rfl, fun _ => h, by omega⟩, rfl⟩
          · have h1 : ¬ ((X : Int) - 1 < 0) := by omega
            go_wp2
            go_meet
            case rel => exact ⟨⟨0, by congr 1 <;> omega, .inl rfl, fun h => absurd h (by decide), by omega⟩, rfl⟩
        case rest =>
        obtain ⟨⟨du0, rfl, hu0, hu1, hu2⟩, rfl⟩ := hcut
        have hst2 : nbL W H X Y i (3 * dv + du0) = nbL W H X Y i (3 * dv) := by
          rcases hu0 with rfl | rfl
          · rfl
          · have hX := hu1 rfl
            exact nbL_f (nbOk_u (.inl (by have := nU_at (X := X) (dv := dv) (du := 0) (by omega); rw [show 3 * dv + 0 = 3 * dv by omega] at this; omega)))
        go_wp2
        clear c0 c1 pl
        go_loopw [5, 9] (fun ov xv wx => ∃ du : Nat, du ≤ 3 ∧ 1 ≤ X + du ∧ X + du ≤ W + 1 ∧ xv = .int .i64 ((X : Int) + (du : Int) - 1) ∧ wx.ownsRow wc.heap.size 2 1 ov (nbL W H X Y i (3 * dv + du)).length (ivs (nbL W H X Y i (3 * dv + du))) ∧ Below wc.heap.size wc wx) (fun _ xv _ => ((X : Int) + 2 - intOf xv).toNat)
        case atStart => exact ⟨du0, by omega, by omega, by omega, rfl, by rw [hst2]; exact HOWN.out, HB.out⟩
        case round =>
          rename World => wM
          obtain ⟨du, hdu, hdl', hdh', rfl, hown, hB⟩ := hrel
          have hNM := HN1.out.below hB
          have c0 := hNM.c0
          have c1 := hNM.c1
          have pl := hNM.lt
          have hBs2 := hB.size
          clear hNM
          obtain ⟨uu, huu⟩ : ∃ u, (X : Int) + (du : Int) - 1 = u := ⟨_, rfl⟩
          rw [huu]
          have HB2 := Lib.hid hB
          clear hB
          by_cases hlt2 : du < 3 ∧ X + du ≤ W
          · have hue1 : uu ≤ (X : Int) + 1 := by omega
            have hue2 : uu ≤ (W : Int) - 1 := by omega
            have eU := nU_at (X := X) (dv := dv) hlt2.1
            have eV := nV_at (Y := Y) (dv := dv) hlt2.1
            rw [huu] at eU
            rw [hvv] at eV
            have hln := nbL_len W H X Y i (3 * dv + du)
            obtain ⟨M, hM⟩ : ∃ M, vv * (W : Int) = M := ⟨_, rfl⟩
            have hMb := mul_bnd (v := vv) hW16 (by omega) (by omega)
            rw [hM] at hMb
            have hwm : IntKind.i64.wrap (vv * (W : Int)) = M := by rw [hM, IntKind.wrap_i64]; omega
            have hok := nbOk_of (W := W) (H := H) (X := X) (Y := Y) (i := i) (t := 3 * dv + du) (by omega) (by omega) (by omega) (by omega)
            rw [eU, eV, hM] at hok
            have hval : nbV W X Y (3 * dv + du) = (M + uu).toNat := by unfold nbV; rw [eU, eV, hM]
            have hM0 : 0 ≤ M := by rw [← hM]; exact Int.mul_nonneg (by omega) hWn
            obtain ⟨z, hz⟩ : ∃ z : Nat, M + uu = z := ⟨(M + uu).toNat, by omega⟩
            have hzt : (M + uu).toNat = z := by omega
            have hzb : (z : Int) ≤ 300 := by omega
            have hzb0 : (0 : Int) ≤ z := by omega
            rw [hzt] at hval
            clear hMb hM
            go_upto_region 7 with fail
            go_cut [42] (fun t wz => t = .bool true ∧ wM = wz)
            case first =>
              by_cases h1 : (W : Int) - 1 < (X : Int) + 1
              · go_wp2
                go_meet
                case rel => exact ⟨rfl, rfl⟩
              · go_wp2
                go_meet
                case rel => exact ⟨rfl, rfl⟩
            case rest =>
            obtain ⟨rfl, rfl⟩ := hcut
            by_cases a3 : M + uu = (i : Int)
            · rw [decide_eq_false (by simpa using a3)] at hok
              have hl := nbL_f hok
              have a3' : (z : Int) = (i : Int) := by omega
              clear hok
              go_wp2
              go_roundw
              case rel => exact ⟨du + 1, by omega, by omega, by omega, by go_num, by rw [show 3 * dv + (du + 1) = 3 * dv + du + 1 by omega, hl]; exact hown, HB2.out⟩
              case measure => simp [intOf]; omega
            · rw [decide_eq_true a3] at hok
              have hl := nbL_t hok
              rw [hval] at hl
              have hll : (nbL W H X Y i (3 * dv + du + 1)).length = (nbL W H X Y i (3 * dv + du)).length + 1 := by rw [hl]; simp
              have a3' : ((z : Int) != (i : Int)) = true := bne_iff_ne.2 (by omega)
              have a3'' : ¬ ((z : Int) = (i : Int)) := by omega
              clear hok
              go_wp2_with (at_builtin; refine wpList_append_own _ rfl (.tmp 54) (.tmp 56) 37 rfl wc.heap.size 2 i0 (.int .i64 0) 1 8 Try.underlying37 hi0 hI0 hI1 hI2 rfl (by decide) _ _ _ rfl (hown.alloc _) ⟨wM.heap.size, 0, none⟩ 1 1 [.int .i64 (z : Int)] rfl rfl (cell_one_new _ _ _) (by intro u hu; simp at hu; subst hu; rfl) (by unfold maxLen; omega) (by omega) (by simp; omega) ?_; intro v1 w5 hown5 hgrow5 hnil5)
              go_roundw
              case rel => exact ⟨du + 1, by omega, by omega, by omega, by go_num, by rw [show 3 * dv + (du + 1) = 3 * dv + du + 1 by omega, hll, hl, ivs_snoc]; exact hown5, (HB2.out.alloc hBs2 _).grown hgrow5 (by simp; omega) (fun j hj => (hown.lt j hj).1)⟩
              case measure => simp [intOf]; omega
          · have hfin : nbL W H X Y i (3 * dv + du) = nbL W H X Y i (3 * (dv + 1)) := by
              by_cases h3 : du = 3
              · rw [h3]
                rfl
              · have h4 : X + du = W + 1 := by omega
                have h5 : du = 2 := by omega
                subst h5
                have := nU_at (X := X) (dv := dv) (du := 2) (by omega)
                exact (nbL_f (nbOk_u (.inr (by omega)))).symm
            rw [hfin] at hown
            go_upto_region 7 with fail
            go_cut [42] (fun t wz => t = .bool false ∧ wM = wz)
            case first =>
              by_cases h1 : (W : Int) - 1 < (X : Int) + 1
              · have h2 : ¬ uu ≤ (W : Int) - 1 := by omega
                go_wp2
                go_meet
                case rel => exact ⟨rfl, rfl⟩
              · have h2 : ¬ uu ≤ (X : Int) + 1 := by omega
                go_wp2
                go_meet
                case rel => exact ⟨rfl, rfl⟩
            case rest =>
            obtain ⟨rfl, rfl⟩ := hcut
            go_wp2
            go_roundw
            case rel => exact ⟨dv + 1, by omega, by omega, by omega, by go_num, hown, HB2.out⟩
            case measure => simp [intOf]; omega
      · have hfin : nbL W H X Y i (3 * dv) = nbL W H X Y i 9 := by
          by_cases h3 : dv = 3
          · rw [h3]
          · have h4 : Y + dv = H + 1 := by omega
            have h5 : dv = 2 := by omega
            subst h5
            have e0 := nV_at (Y := Y) (dv := 2) (du := 0) (by omega)
            have e1 := nV_at (Y := Y) (dv := 2) (du := 1) (by omega)
            have e2 := nV_at (Y := Y) (dv := 2) (du := 2) (by omega)
            have f0 := nbOk_v (W := W) (H := H) (X := X) (Y := Y) (i := i) (t := 6) (.inr (by simp at e0; omega))
            have f1 := nbOk_v (W := W) (H := H) (X := X) (Y := Y) (i := i) (t := 7) (.inr (by simp at e1; omega))
            have f2 := nbOk_v (W := W) (H := H) (X := X) (Y := Y) (i := i) (t := 8) (.inr (by simp at e2; omega))
            show nbL W H X Y i 6 = nbL W H X Y i 9
            rw [nbL_f f2, nbL_f f1, nbL_f f0]
        have HI := Lib.hid (hfin ▸ own_pk HOWN.out)
        go_upto_region 4 with fail
        go_cut [29] (fun t wz => t = .bool false ∧ wO = wz)
        case first =>
          by_cases h1 : (H : Int) - 1 < (Y : Int) + 1
          · have h2 : ¬ vv ≤ (H : Int) - 1 := by omega
            go_wp2
            go_meet
            case rel => exact ⟨rfl, rfl⟩
          · have h2 : ¬ vv ≤ (Y : Int) + 1 := by omega
            go_wp2
            go_meet
            case rel => exact ⟨rfl, rfl⟩
        case rest =>
        obtain ⟨rfl, rfl⟩ := hcut
        go_wp2
        go_ret
        exact ⟨_, rfl, IArr.lo HI.out HB1.out.size, HB1.out.trans (HB.out.mono HB1.out.size)⟩
end Go.Proofs.Ytpajakindpbepaa
