/- Contracts of DrainsOf in both spellings. No condition. -/
import Derived.Test.YtbnnpeecajjipaaDrs
namespace Go.Proofs.Ytbnnpeecajjipaa
open Go.RowKit
set_option linter.unusedSimpArgs false
def drK (W H : Int) (n : Nat) (X : Nat → Nat) : Bool := gridOk W H n X && drOk X W.toNat H.toNat n
def DRR (W H : Int) (n : Nat) (X : Nat → Nat) : World → Ending → World → Prop := IRes (drK W H n X) (if drK W H n X then n else 0) (drB X W.toNat H.toNat)
theorem DRR.no {W H : Int} {n : Nat} {X : Nat → Nat} {w : World} {e : Ending} {w' : World} (h : gridOk W H n X = false) (hx : IRes false 0 (drB X W.toNat H.toNat) w e w') : DRR W H n X w e w' := by
  unfold DRR drK
  rw [h]
  exact hx
theorem DRR.yes {a b : Nat} {n : Nat} {X : Nat → Nat} {w : World} {e : Ending} {w' : World} (h : gridOk (a : Int) (b : Int) n X = true) (hx : IRes (drOk X a b n) (if drOk X a b n then n else 0) (drB X a b) w e w') : DRR (a : Int) (b : Int) n X w e w' := by
  unfold DRR drK
  rw [h, Int.toNat_natCast, Int.toNat_natCast, Bool.true_and]
  exact hx
theorem IRes.nil {w w' : World} {D : Nat → Int} (h : Below w.heap.size w w') : IRes false 0 D w (.returned (.tuple #[.slice none 0 0, .bool false])) w' := ⟨_, rfl, .inl ⟨rfl, rfl⟩, h⟩
theorem IRes.from' {K : Bool} {N : Nat} {D : Nat → Int} {w w1 : World} {e : Ending} {w' : World} (hb : Below w.heap.size w w1) (h : IRes K N D w1 e w') : IRes K N D w e w' := by
  obtain ⟨v, h1, h2, h3⟩ := h
  exact ⟨v, h1, IArr.lo h2 hb.size, hb.trans (h3.mono hb.size)⟩
theorem IArr.shape {w : World} {lo n : Nat} {v : Value} {d : Nat → Int} (h : IArr w lo v n d) : ∃ A cp, v = .slice A n cp := by
  rcases h with ⟨rfl, rfl⟩ | ⟨g, cap, rfl, -⟩
  · exact ⟨_, _, rfl⟩
  · exact ⟨_, _, rfl⟩
set_option maxRecDepth 100000 in
set_option maxHeartbeats 2000000 in
theorem sDrains_c (W H : Int) (b n c : Nat) (X : Nat → Nat) (w : World) (hn : n ≤ 1048576) (hb : b < w.heap.size) (hX : FlCells w b n X) :
    Calls Try.prog 18 #[.agg #[.int .i64 W, .int .i64 H, .slice (some ⟨b, 0, none⟩) n c]] w (DRR W H n X w) := by
  have hN := gtc.newAt (w := w) (p := w.heap.size) (u := .int .i64 W) (v := .int .i64 H) (z := .slice (some ⟨b, 0, none⟩) n c) rfl
  have hb0 : Below w.heap.size w (w.alloc (.cells #[.int .i64 W, .int .i64 H, .slice (some ⟨b, 0, none⟩) n c] 30)) := by (with_reducible repeat (first | exact Below.refl _ _ | apply below_alloc | apply below_dN | apply below_d | refine below_setCell ?_ (by dsimp only; omega) | refine below_call (by assumption) ?_))
  have hs0 : (w.alloc (.cells #[.int .i64 W, .int .i64 H, .slice (some ⟨b, 0, none⟩) n c] 30)).heap.size = w.heap.size + 1 := by simp
  have hI := l06Is_c w.heap.size b n c W H X _ hn hN.c0 hN.c1 hN.c2 (by omega) (hX.dn hb hb0)
  cases hq : gridOk W H n X
  · refine Calls.mono ?_ (fun e w' h => DRR.no hq h)
    rw [hq] at hI
    have HI := Lib.hid hI
    clear hI hX hq hN
    go_enter Try.func18, Try.ntmps18
    go_wp2_with (go_at_call 35; ((with_reducible refine (HI.out).mono ?_); rintro e w1 ⟨⟨v, rfl, rfl⟩, hb1⟩))
    go_ret2
    exact IRes.nil (hb0.trans (hb1.mono (by omega)))
  · obtain ⟨a, d, rfl, rfl, h1, h2, h3, h4, hn', -⟩ := gridOk_facts hq
    refine Calls.mono ?_ (fun e w' h => DRR.yes hq h)
    rw [hq] at hI
    have HI := Lib.hid hI
    have HL := Lib.hid (fun (w' : World) (hB : Below w.heap.size w w') c0 c1 c2 => l06Drains_c w.heap.size a d b n c X w' h1 h2 h3 h4 hn' c0 c1 c2 (Nat.lt_of_lt_of_le hb hB.size) (hX.dn hb hB))
    clear hI hX hq hn'
    generalize drOk X a d n = K at *
    obtain ⟨N, hNn⟩ : ∃ N, (if K = true then n else 0) = N := ⟨_, rfl⟩
    rw [hNn] at HL ⊢
    clear hNn
    go_enter Try.func18, Try.ntmps18
    go_upto_region 3 with (go_at_call 35; ((with_reducible refine (HI.out).mono ?_); rintro e w1 ⟨⟨v, rfl, rfl⟩, hb1⟩))
    have hN1 := hN.below hb1
    have hB1 := hb0.trans (hb1.mono (by omega))
    go_wp2_with (go_at_call 48; ((with_reducible refine (HL.out _ hB1 hN1.c0 hN1.c1 hN1.c2).mono ?_); rintro e w2 ⟨v, rfl, hA, hb2⟩))
    go_ret2
    exact ⟨v, rfl, IArr.lo hA hB1.size, hB1.trans (hb2.mono hB1.size)⟩
set_option maxRecDepth 100000 in
set_option maxHeartbeats 8000000 in
theorem iDrainsK_c (W H b n c : Nat) (X : Nat → Nat) (w : World) (hq : gridOk (W : Int) (H : Int) n X = true) (h1 : 2 ≤ W) (h2 : W ≤ 16) (h3 : 2 ≤ H) (h4 : H ≤ 16) (hn : n = W * H) (hb : b < w.heap.size) (hX : FlCells w b n X) :
    Calls Try.prog 19 #[.agg #[.int .i64 (W : Int), .int .i64 (H : Int), .slice (some ⟨b, 0, none⟩) n c]] w (IRes (drOk X W H n) (if drOk X W H n then n else 0) (drB X W H) w) := by
  obtain ⟨i0, hi0, hI0, hI1, hI2⟩ := info_parts info_i64
  have hnb : n ≤ 256 := by rw [hn]; exact Nat.mul_le_mul h2 h4
  obtain ⟨K, hK⟩ : ∃ K, drOk X W H n = K := ⟨_, rfl⟩
  rw [hK]
  obtain ⟨N, hNn⟩ : ∃ N, (if K = true then n else 0) = N := ⟨_, rfl⟩
  rw [hNn]
  unfold IRes
  have HKK := Lib.hid hK
  have HNN := Lib.hid hNn
  have hN := gtc.newAt (w := w) (p := w.heap.size) (u := .int .i64 (W : Int)) (v := .int .i64 (H : Int)) (z := .slice (some ⟨b, 0, none⟩) n c) rfl
  have hb0 : Below w.heap.size w (w.alloc (.cells #[.int .i64 (W : Int), .int .i64 (H : Int), .slice (some ⟨b, 0, none⟩) n c] 30)) := by (with_reducible repeat (first | exact Below.refl _ _ | apply below_alloc | apply below_dN | apply below_d | refine below_setCell ?_ (by dsimp only; omega) | refine below_call (by assumption) ?_))
  have hs0 : (w.alloc (.cells #[.int .i64 (W : Int), .int .i64 (H : Int), .slice (some ⟨b, 0, none⟩) n c] 30)).heap.size = w.heap.size + 1 := by simp
  have HVG := Lib.hid (hq ▸ iValidGrid_c b n c (W : Int) (H : Int) X (w.alloc (.cells #[.int .i64 (W : Int), .int .i64 (H : Int), .slice (some ⟨b, 0, none⟩) n c] 30)) (by omega) (by omega) (hX.dn hb hb0))
  have HX := Lib.hid hX
  have HNE := Lib.hid hn
  clear hK hNn hX hn hq
  go_enter Try.func19, Try.ntmps19
  go_upto_region 3 with (go_at_call 40; ((with_reducible refine (HVG.out).mono ?_); rintro e wA ⟨⟨v, rfl, rfl⟩, hbA⟩))
  have HNA := Lib.hid (hN.below hbA)
  have HBA := Lib.hid (hb0.trans (hbA.mono (by omega)))
  have hsA := HBA.out.size
  have nA2 := HNA.out.c2
  have nAl := HNA.out.lt
  clear hN hbA hb0 hs0
  go_wp2
  clear nA2 nAl
  go_loopw [4, 18] (fun ov iv wr => ∃ i : Nat, i ≤ n ∧ iv = .int .i64 i ∧ wr.ownsRow wA.heap.size 2 1 ov i (dvs (drB X W H) i) ∧ (∀ j, j < i → drF X W j (nbs W H j) = true) ∧ Below wA.heap.size wA wr) (fun _ iv _ => n - (intOf iv).toNat)
  case atStart => exact ⟨0, by omega, rfl, ⟨rfl, .inl ⟨rfl, rfl⟩⟩, by omega, Below.refl _ _⟩
  case round =>
    rename World => wO
    obtain ⟨i, hi, rfl, hown, hall, hB⟩ := hrel
    have hNO := HNA.out.below hB
    have c0 := hNO.c0
    have c1 := hNO.c1
    have c2 := hNO.c2
    have pl := hNO.lt
    have HNO := Lib.hid hNO
    have HXO := Lib.hid (HX.out.dn hb (HBA.out.trans (hB.mono hsA)))
    clear hNO
    have HOWN := Lib.hid hown
    have HALL := Lib.hid hall
    have HB := Lib.hid hB
    have hBs := hB.size
    clear hown hall hB
    by_cases hlt : i < n
    · have hlt' : (i : Int) < (n : Int) := by omega
      have hxO := IxOk.mk' h1 h2 h3 h4 (HNE.out ▸ hlt)
      obtain ⟨r0, x0, hr0⟩ := HXO.out i hlt
      have hbO : b < wO.heap.size := by omega
      have hAR := fun (w' : World) => (show Calls Try.prog 49 #[.agg #[.int .i64 (W : Int), .int .i64 (H : Int), .slice (some ⟨b, 0, none⟩) n c], .int .i64 i] w' fun e w'' => ∃ v, e = .returned v ∧ IArr w'' w'.heap.size v (nbs W H i).length (nthI (nbs W H i)) ∧ Below w'.heap.size w' w'' from neighbours_c b n c W H (i % W) (i / W) i w' hxO)
      have hll := nbs_len W H i
      have hlts := fun t ht => nbs_lt (W := W) (H := H) (i := i) (t := t) h1 ht
      have hdF : drF X W i (nbs W H i) = allB (fun t => fin .f32 (fal X W i (((nbs W H i)[t]?).getD 0))) (nbs W H i).length := rfl
      have hdB : drB X W H i = (drS X W i (nbs W H i) (nbs W H i).length).1 := rfl
      have HAR := Lib.hid hAR
      have HDF := Lib.hid hdF
      have HDB := Lib.hid hdB
      have HLT := Lib.hid hlts
      clear hAR hdF hdB hlts
      generalize hLL : nbs W H i = L at *
      generalize hLm : L.length = m at *
      go_upto_region 8 with fail
      clear x0
      have pl' := pl
      go_wp2_with (go_at_call 49; ((with_reducible refine (HAR.out _).mono ?_); rintro e w2 ⟨v, rfl, hA, hb2⟩; obtain ⟨sh, sc, rfl⟩ := IArr.shape hA))
      have hs2 := hb2.size
      have HB2 := Lib.hid (HB.out.trans (hb2.mono hBs))
      have HOWN2 := Lib.hid (own_below HOWN.out hb2)
      have HN2 := Lib.hid (HNO.out.below hb2)
      have HA := Lib.hid hA
      have hwl : wA.heap.size ≤ w2.heap.size := HB2.out.size
      clear hb2 hA c0 c1 c2 pl pl'
      go_loopw [7, 8, 27] (fun bv mv kv wx => ∃ t : Nat, t ≤ m ∧ kv = .int .i64 t ∧ bv = .int .i64 (drS X W i L t).1 ∧ isF mv (drS X W i L t).2 ∧ (∀ j, j < t → fin .f32 (fal X W i ((L[j]?).getD 0)) = true) ∧ Below w2.heap.size w2 wx) (fun _ _ kv _ => m - (intOf kv).toNat)
      case atStart => exact ⟨0, by omega, rfl, rfl, ⟨0, rfl, by simp [drS], okf_of (by decide)⟩, by omega, Below.refl _ _⟩
      case round =>
        rename World => wM
        obtain ⟨t, ht, rfl, rfl, ⟨mr, rfl, hmr, hmo⟩, hfin, hBx⟩ := hrel
        have HFIN := Lib.hid hfin
        clear hfin
        by_cases hlt2 : t < m
        · obtain ⟨g, cp, e, hg, hD⟩ := (HA.out.below hBx).blk hlt2
          injection e with e1 _ e2
          subst e1 e2
          have hBm := HB2.out.trans (hBx.mono (by omega))
          have hkn := HLT.out t hlt2
          have hkn2 : (L[t]?).getD 0 < n := by rw [HNE.out]; exact hkn
          have hkn3 : (((L[t]?).getD 0 : Nat) : Int) < (n : Int) := by omega
          have hin := HNE.out ▸ hlt
          have q0 := hD.cell hlt2
          rw [show nthI L t = (((L[t]?).getD 0 : Nat) : Int) from rfl] at q0
          have ql := hD.lt
          have hXm := HX.out.dn hb (HBA.out.trans (hBm.mono hsA))
          obtain ⟨r1, x1, hr1⟩ := hXm _ hkn2
          have hNM := HN2.out.below hBx
          have c0 := hNM.c0
          have c1 := hNM.c1
          have c2 := hNM.c2
          have pl := hNM.lt
          have hbM : b < wM.heap.size := by have := hBm.size; omega
          have hfalE : fal X W i ((L[t]?).getD 0) = fop .quo .f32 (fop .sub .f32 (X i) (X ((L[t]?).getD 0))) (lngN (dsq W i ((L[t]?).getD 0))) := rfl
          have hT := @drS_t X W i t L
          have hFf := @drS_f X W i t L
          have HT := Lib.hid hT
          have HFf := Lib.hid hFf
          have hAW := away h1 h2 h3 h4 (i := i) (k := (L[t]?).getD 0) hin hkn
          have HAW := Lib.hid hAW
          have HFE := Lib.hid hfalE
          have HBx := Lib.hid hBx
          have HFA := Lib.hid (fun (h : fin .f32 (fal X W i ((L[t]?).getD 0)) = false) => (HDF.out.trans (allB_false hlt2 h)))
          clear hD hXm hT hFf hAW hfalE hBx hBm hkn hin hNM
          generalize hk : (L[t]?).getD 0 = k at *
          generalize X i = Xi at *
          generalize X k = Xk at *
          generalize hF : fal X W i k = F at *
          generalize hM : (drS X W i L t).2 = M at *
          have hPi := Lib.hid (fun (w' : World) => (show Calls Try.prog 52 #[.agg #[.int .i64 (W : Int), .int .i64 (H : Int), .slice (some ⟨b, 0, none⟩) n c], .int .i64 i] w' (Ret (RV (.complex .f32 (fofI .f32 ((i : Int) % (W : Int))) (fofI .f32 ((i : Int) / (W : Int))))) w') from Ret.of_below (number_c W i (H : Int) b n c (by omega) (by omega) (by omega) w') rfl))
          have hPk := Lib.hid (fun (w' : World) => (show Calls Try.prog 52 #[.agg #[.int .i64 (W : Int), .int .i64 (H : Int), .slice (some ⟨b, 0, none⟩) n c], .int .i64 k] w' (Ret (RV (.complex .f32 (fofI .f32 ((k : Int) % (W : Int))) (fofI .f32 ((k : Int) / (W : Int))))) w') from Ret.of_below (number_c W k (H : Int) b n c (by omega) (by omega) (by omega) w') rfl))
          go_wp2
          (apply region_looseK (k := 16); (kernel_rfl); (kernel_rfl); intro opsL KL hopsL hKL; (dsimp only [List.take]))
          iterate 6 (apply rel_val; (rfl); (intro wq hbq; have hcq := (bcell hbq).1; (go_simp; first | done | rfl | exact ⟨rfl, rfl⟩)); (try go_simp))
          (apply rel_farith; (rfl); (rfl); (rfl); (rfl); (rfl); (assumption); (assumption); intro r hr hw; (try go_simp))
          iterate 2 (apply rel_val; (rfl); (intro wq hbq; have hcq := (bcell hbq).1; (go_simp; first | done | rfl | exact ⟨rfl, rfl⟩)); (try go_simp))
          (apply rel_call (RV (.complex .f32 (fofI .f32 ((i : Int) % (W : Int))) (fofI .f32 ((i : Int) / (W : Int))))); (rfl); (intro wq hbq; (go_simp; first | done | rfl | exact ⟨rfl, rfl⟩)); (intro wq hbq; exact hPi.out _); (try go_simp))
          rintro v rfl
          iterate 2 (apply rel_val; (rfl); (intro wq hbq; have hcq := (bcell hbq).1; (go_simp; first | done | rfl | exact ⟨rfl, rfl⟩)); (try go_simp))
          (apply rel_call (RV (.complex .f32 (fofI .f32 ((k : Int) % (W : Int))) (fofI .f32 ((k : Int) / (W : Int))))); (rfl); (intro wq hbq; (go_simp; first | done | rfl | exact ⟨rfl, rfl⟩)); (intro wq hbq; exact hPk.out _); (try go_simp))
          rintro v rfl
          (apply rel_call (RC (fop .sub .f32 (fofI .f32 ((i : Int) % (W : Int))) (fofI .f32 ((k : Int) % (W : Int)))) (fop .sub .f32 (fofI .f32 ((i : Int) / (W : Int))) (fofI .f32 ((k : Int) / (W : Int))))); (rfl); (intro wq hbq; (go_simp; first | done | rfl | exact ⟨rfl, rfl⟩)); (intro wq hbq; exact less_c _ _ _ _ _ _ _ _ (cn_fofI _ _) (cn_fofI _ _) (cn_fofI _ _) (cn_fofI _ _) _); (try go_simp))
          rintro v ⟨cx, cy, rfl, hcx, hcy, hox, hoy⟩
          (apply rel_call (RF .f32 (lngN (dsq W i k))); (rfl); (intro wq hbq; (go_simp; first | done | rfl | exact ⟨rfl, rfl⟩)); (intro wq hbq; exact HAW.out.1 ▸ longOf_c _ _ _ _ (by assumption) (by assumption) HAW.out.2 _); (try go_simp))
          rintro v ⟨lr, rfl, hlr, hlo⟩
          (apply rel_farith; (rfl); (rfl); (rfl); (rfl); (rfl); (assumption); (assumption); intro r hr hw; (try go_simp))
          (refine wpRel_nil ?_; refine hKL _ _ ?_; clear hKL hopsL opsL KL; intro w1 hb hnews; obtain ⟨hc, hfz⟩ := bcell hb; (try simp only [World.heap_drewN] at hc hfz); have hz := hb.size; (dsimp only [List.drop]))
          have hr' : cn .f32 r = F := by rw [hr, HFE.out]
          have hBm := HBx.out.trans (hb.mono HBx.out.size)
          have HBm := Lib.hid hBm
          have hs3 := hb.size
          clear hr hBm
          cases cf : fin .f32 F
          · have HC := Lib.hid (fun w => cf ▸ iFinite_c r F hr' w)
            have HKF := Lib.hid (HKK.out.symm.trans (allB_false (f := fun i => drF X W i (nbs W H i)) hlt (by simp only [hLL]; exact HFA.out cf)))
            go_wp2_with (first | (go_at_call 41; ((with_reducible refine (HC.out _).mono ?_); rintro e w3 ⟨⟨v, rfl, rfl⟩, hb3⟩)))
            go_ret2
            obtain rfl : K = false := HKF.out
            obtain rfl : N = 0 := HNN.out.symm
            exact IRes.from' HBA.out (IRes.nil (HB2.out.trans ((HBm.out.trans (hb3.mono HBm.out.size)).mono (by omega))))
          · have HC := Lib.hid (fun w => cf ▸ iFinite_c r F hr' w)
            cases cg : fgt .f32 F M
            · have hst := HFf.out cg
              have HST := Lib.hid hst
              clear hst
              go_wp2_with (first | (go_at_call 41; ((with_reducible refine (HC.out _).mono ?_); rintro e w3 ⟨⟨v, rfl, rfl⟩, hb3⟩)))
              go_roundw
              case rel => exact ⟨t + 1, by omega, by go_num, by rw [HST.out], ⟨mr, rfl, by rw [HST.out, hM]; exact hmr, hmo⟩, fun j hj => by
                by_cases ej : j = t
                · rw [ej, hk, hF]; exact cf
                · exact HFIN.out j (by omega), HBm.out.trans (hb3.mono HBm.out.size)⟩
              case measure => first | (simp [intOf]; done) | (simp [intOf]; omega)
            · have hst := HT.out cg
              have HST := Lib.hid hst
              clear hst
              go_wp2_with (first | (go_at_call 41; ((with_reducible refine (HC.out _).mono ?_); rintro e w3 ⟨⟨v, rfl, rfl⟩, hb3⟩)))
              go_roundw
              case rel => exact ⟨t + 1, by omega, by go_num, by rw [HST.out], ⟨r, rfl, by rw [HST.out]; exact hr', hw⟩, fun j hj => by
                by_cases ej : j = t
                · rw [ej, hk, hF]; exact cf
                · exact HFIN.out j (by omega), HBm.out.trans (hb3.mono HBm.out.size)⟩
              case measure => first | (simp [intOf]; done) | (simp [intOf]; omega)
        · obtain rfl : t = m := by omega
          have hown := own_below HOWN2.out hBx
          have hBw := HB2.out.trans (hBx.mono hwl)
          have hBws := hBw.size
          have HBw := Lib.hid hBw
          have hdf : drF X W i L = true := HDF.out.trans (allB_true HFIN.out)
          have HDFT := Lib.hid hdf
          clear hBx hBw hdf
          rw [← HDB.out]
          generalize hdv : drB X W H i = d at *
          go_wp2_with (at_builtin; refine wpList_append_own _ rfl (.tmp 56) (.tmp 58) 37 rfl wA.heap.size 2 i0 (.int .i64 0) 1 8 Try.underlying37 hi0 hI0 hI1 hI2 rfl (by decide) _ _ _ rfl (hown.alloc _) ⟨wM.heap.size, 0, none⟩ 1 1 [.int .i64 d] rfl rfl (cell_one_new _ _ _) (by intro u hu; simp at hu; subst hu; rfl) (by unfold maxLen; omega) (by omega) (by simp; omega) ?_; intro v1 w5 hown5 hgrow5 hnil5)
          go_roundw
          case rel => exact ⟨i + 1, by omega, by go_num, by rw [dvs_snoc, hdv]; exact hown5, fun j hj => by
            by_cases ej : j = i
            · rw [ej, hLL]; exact HDFT.out
            · exact HALL.out j (by omega), (HBw.out.alloc hBws _).grown hgrow5 (by simp; omega) (fun j hj => (hown.lt j hj).1)⟩
          case measure => first | (simp [intOf]; done) | (simp [intOf]; omega)
    · obtain rfl : i = n := by omega
      have HI := Lib.hid (own_iarr HOWN.out (fun j hj => dvs_at hj))
      go_wp2
      go_ret2
      obtain rfl : K = true := HKK.out.symm.trans (allB_true HALL.out)
      obtain rfl : N = i := HNN.out.symm
      exact IRes.from' HBA.out ⟨_, rfl, HI.out, HB.out⟩
set_option maxRecDepth 100000 in
set_option maxHeartbeats 2000000 in
theorem iDrains_c (W H : Int) (b n c : Nat) (X : Nat → Nat) (w : World) (hn : n ≤ 1048576) (hb : b < w.heap.size) (hX : FlCells w b n X) :
    Calls Try.prog 19 #[.agg #[.int .i64 W, .int .i64 H, .slice (some ⟨b, 0, none⟩) n c]] w (DRR W H n X w) := by
  cases hq : gridOk W H n X
  · refine Calls.mono ?_ (fun e w' h => DRR.no hq h)
    have HI := Lib.hid (fun (w' : World) (hB : Below w.heap.size w w') => hq ▸ iValidGrid_c b n c W H X w' hn (Nat.lt_of_lt_of_le hb hB.size) (hX.dn hb hB))
    clear hX hq
    go_enter Try.func19, Try.ntmps19
    go_wp2_with (go_at_call 40; ((with_reducible refine (HI.out _ (by (with_reducible repeat (first | exact Below.refl _ _ | apply below_alloc | apply below_dN | apply below_d | refine below_setCell ?_ (by dsimp only; omega) | refine below_call (by assumption) ?_)))).mono ?_); rintro e w1 ⟨⟨v, rfl, rfl⟩, hb1⟩))
    go_ret2
    exact IRes.nil (by (with_reducible repeat (first | exact Below.refl _ _ | apply below_alloc | apply below_dN | apply below_d | refine below_setCell ?_ (by dsimp only; omega) | refine below_call (by assumption) ?_)))
  · obtain ⟨a, d, rfl, rfl, h1, h2, h3, h4, hn', -⟩ := gridOk_facts hq
    exact Calls.mono (iDrainsK_c a d b n c X w hq h1 h2 h3 h4 hn' hb hX) (fun e w' h => DRR.yes hq h)
end Go.Proofs.Ytbnnpeecajjipaa
