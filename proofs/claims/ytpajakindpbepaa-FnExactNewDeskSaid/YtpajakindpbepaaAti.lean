/- Contract of (impl.Grid).height. No condition. -/
import Derived.Test.YtpajakindpbepaaAt
import Derived.Test.YtpajakindpbepaaDsc
namespace Go.Proofs.Ytpajakindpbepaa
open Go.RowKit
set_option linter.unusedSimpArgs false
set_option maxRecDepth 100000 in
set_option maxHeartbeats 4000000 in
theorem lerp_c (p pu b n c t t1 ru U r0 r1 Y0 Y1 : Nat) (w : World) (c2 : w.cell? ⟨p, 2, none⟩ = some (.slice (some ⟨b, 0, none⟩) n c)) (cu : w.cell? ⟨pu, 0, none⟩ = some (.float .f32 ru)) (hu : cn .f32 ru = U) (x0 : w.cell? ⟨b, t, none⟩ = some (.float .f32 r0)) (x1 : w.cell? ⟨b, t1, none⟩ = some (.float .f32 r1)) (e0 : cn .f32 r0 = Y0) (e1 : cn .f32 r1 = Y1) (ht1 : t + 1 = t1) (hlt : t1 < n) (hn : n ≤ 1000) :
    Calls Try.prog 125 #[.int .i64 (t : Int), .pointer (some ⟨pu, 0, none⟩), .pointer (some ⟨p, 0, none⟩)] w (Ret (RF .f32 (lerpF U Y0 Y1)) w) := by
  have hpl := block_lt_of_cell c2
  have hul := block_lt_of_cell cu
  have hbl := block_lt_of_cell x0
  simp only at hpl hul hbl
  have f1 : cn .f32 1065353216 = 1065353216 := by decide +kernel
  have z1 : IntKind.i64.wrap ((t : Int) + 1) = (t1 : Int) := by rw [IntKind.wrap_i64]; omega
  have y0 : t < n := by omega
  have y0' : (t : Int) < n := by omega
  have y1' : (t1 : Int) < n := by omega
  clear ht1
  go_enter Try.func125, Try.ntmps125
  go_wp2
  (apply region_looseK (k := 17); (kernel_rfl); (kernel_rfl); intro opsL KL hopsL hKL; (dsimp only [List.take]))
  (apply rel_val; (rfl); (intro wq hbq; have hcq := (bcell hbq).1; (try simp only [World.heap_drewN] at hcq); (go_simp; first | done | rfl | exact ⟨rfl, rfl⟩)); (try go_simp))
  (apply rel_farith; (rfl); (rfl); (rfl); (rfl); (rfl); (assumption); (assumption); intro r hr hw; (try go_simp))
  iterate 5 (apply rel_val; (rfl); (intro wq hbq; have hcq := (bcell hbq).1; (try simp only [World.heap_drewN] at hcq); (go_simp; first | done | rfl | exact ⟨rfl, rfl⟩)); (try go_simp))
  (apply rel_farith; (rfl); (rfl); (rfl); (rfl); (rfl); (assumption); (assumption); intro r hr hw; (try go_simp))
  iterate 7 (apply rel_val; (rfl); (intro wq hbq; have hcq := (bcell hbq).1; (try simp only [World.heap_drewN] at hcq); (go_simp; first | done | rfl | exact ⟨rfl, rfl⟩)); (try go_simp))
  iterate 2 (apply rel_farith; (rfl); (rfl); (rfl); (rfl); (rfl); (assumption); (assumption); intro r hr hw; (try go_simp))
  (refine wpRel_nil ?_; refine hKL _ _ ?_; clear hKL hopsL opsL KL; intro w1 hb hnews; obtain ⟨hc, hfz⟩ := bcell hb; (try simp only [World.heap_drewN] at hc hfz); have hz := hb.size; (dsimp only [List.drop]))
  have hx : cn .f32 r = lerpF U Y0 Y1 := hr
  go_wp2
  go_ret
  exact ⟨⟨_, rfl, _, rfl, hx, hw⟩, hb⟩
set_option maxHeartbeats 400000 in
theorem iFloor_c (x X M : Nat) (hx : cn .f32 x = X) (h : FlOk X M) (w : World) : Calls Try.prog 124 #[.float .f32 x] w (Ret (RV (.float .f32 (fcv .f64 .f32 (flB X)))) w) := by
  have HF := Lib.hid h.fit
  have HN := Lib.hid h.n32
  clear h
  unfold flB at *
  subst hx
  go_enter Try.func124, Try.ntmps124
  go_wp2_with (first | (go_at_call 123; ((with_reducible refine (floor_c _ _ (by assumption) _).mono ?_); rintro e w1 ⟨⟨v, rfl, r, rfl, hr, hw⟩, hb⟩)) | (refine wpL_fconv_fits rfl 25 62 _ rfl .f32 .f64 _ rfl (by decide) Try.underlying25 Try.underlying62 (fits_wide _) ?_; intro r n hr hw) | (refine wpL_fconv_fits rfl 62 25 _ rfl .f64 .f32 _ rfl (by decide) Try.underlying62 Try.underlying25 (by simp only [*]; exact HF.out) ?_; intro r n hr hw))
  have hr' : cn .f32 r = fcv .f64 .f32 (fint .down (fcv .f32 .f64 (cn .f32 x))) := by simp only [*]
  obtain rfl := raw_of HN.out hr'
  go_ret
  exact ⟨⟨_, rfl, rfl⟩, by (with_reducible repeat (first | exact Below.refl _ _ | apply below_alloc | apply below_dN | apply below_d | refine below_setCell ?_ (by dsimp only; omega) | refine below_call (by assumption) ?_))⟩
theorem RF.mk {k : FloatKind} {r X : Nat} (h : cn k r = X) (hw : okf k r) : RF k X (.float k r) := ⟨r, rfl, h, hw⟩
theorem abs_world {P : Program} {c : Code} {Q : Exit → Act → World → Prop} {a : Act} {w : World} (h : ∀ V, V = w → c.wp P Q a V) : c.wp P Q a w := h w rfl
set_option maxRecDepth 100000 in
set_option maxHeartbeats 8000000 in
theorem height_c (W D b nn c a a' P Q : Nat) (X : Nat → Nat) (w : World) (h1 : 2 ≤ W) (h2 : W ≤ 16) (h3 : 2 ≤ D) (h4 : D ≤ 16) (hn : nn = W * D) (hbl : b < w.heap.size) (hX : FlCells w b nn X)
    (ha : cn .f32 a = P) (ha' : cn .f32 a' = Q) (hP : inn .f32 P 0 ((W - 1 : Nat) : Rat)) (hQ : inn .f32 Q 0 ((D - 1 : Nat) : Rat)) :
    Calls Try.prog 110 #[.agg #[.int .i64 (W : Int), .int .i64 (D : Int), .slice (some ⟨b, 0, none⟩) nn c], .complex .f32 a a'] w (Ret (numRes true (htF X W D P Q)) w) := by
  obtain ⟨M, hM⟩ := flOk_of (hP.mono Rat.le_refl (by exact_mod_cast (by omega : W - 1 ≤ 16)))
  obtain ⟨L, hL⟩ := flOk_of (hQ.mono Rat.le_refl (by exact_mod_cast (by omega : D - 1 ≤ 16)))
  have hM1 := hM.lt hP.2.2
  have hL1 := hL.lt hQ.2.2
  obtain ⟨i, hi⟩ : ∃ i, htC P W = i := ⟨_, rfl⟩
  obtain ⟨k, hk⟩ : ∃ k, htC Q D = k := ⟨_, rfl⟩
  have hiM : i = min M (W - 2) := by rw [← hi]; unfold htC; rw [hM.eq, Int.toNat_natCast]
  have hkL : k = min L (D - 2) := by rw [← hk]; unfold htC; rw [hL.eq, Int.toNat_natCast]
  have hlt := ht_lt (i := i) (k := k) h1 h3 (by omega) (by omega)
  rw [← hn] at hlt
  have hkw : k * W ≤ 240 := Nat.le_trans (Nat.mul_le_mul (show k ≤ 15 by omega) h2) (by decide)
  have hnb : nn ≤ 1000 := by rw [hn]; exact Nat.le_trans (Nat.mul_le_mul h2 h4) (by decide)
  have hwm : IntKind.i64.wrap ((k : Int) * (W : Int)) = ((k * W : Nat) : Int) := by rw [← Int.natCast_mul, IntKind.wrap_i64]; omega
  have hF : htF X W D P Q = lerpF (htU Q D) (lerpF (htU P W) (X (k * W + i)) (X (k * W + i + 1))) (lerpF (htU P W) (X (k * W + i + W)) (X (k * W + i + W + 1))) := by unfold htF; rw [hi, hk]
  have hUu : htU P W = fop .sub .f32 P (fofI .f32 (i : Int)) := by unfold htU; rw [hi]
  have hVv : htU Q D = fop .sub .f32 Q (fofI .f32 (k : Int)) := by unfold htU; rw [hk]
  have hin : (fge .f32 P 0 && fle .f32 P (fofI .f32 ((W : Int) - 1))) = true := by
    obtain ⟨m1, m2⟩ := fofI_val (u := W - 1) (by omega)
    rw [show ((W - 1 : Nat) : Int) = (W : Int) - 1 by omega] at m1 m2
    rw [fge_val hP.1 (num_zero _), fle_val hP.1 m1, m2, fv_zero]
    simp
    exact ⟨hP.2.1, hP.2.2⟩
  have hin' : (fge .f32 Q 0 && fle .f32 Q (fofI .f32 ((D : Int) - 1))) = true := by
    obtain ⟨m1, m2⟩ := fofI_val (u := D - 1) (by omega)
    rw [show ((D - 1 : Nat) : Int) = (D : Int) - 1 by omega] at m1 m2
    rw [fge_val hQ.1 (num_zero _), fle_val hQ.1 m1, m2, fv_zero]
    simp
    exact ⟨hQ.2.1, hQ.2.2⟩
  have HI := Lib.hid (fun w => hin ▸ inside_c a 0 (fofI .f32 ((W : Int) - 1)) P 0 (fofI .f32 ((W : Int) - 1)) ha rfl (cn_fofI _ _) w)
  have HI' := Lib.hid (fun w => hin' ▸ inside_c a' 0 (fofI .f32 ((D : Int) - 1)) Q 0 (fofI .f32 ((D : Int) - 1)) ha' rfl (cn_fofI _ _) w)
  obtain ⟨r0, x0, e0⟩ := hX (k * W + i) (by omega)
  obtain ⟨r1, x1, e1⟩ := hX (k * W + i + 1) (by omega)
  obtain ⟨r2, x2, e2⟩ := hX (k * W + i + W) (by omega)
  obtain ⟨r3, x3, e3⟩ := hX (k * W + i + W + 1) (by omega)
  have f1 : cn .f32 1065353216 = 1065353216 := by decide +kernel
  rw [hF]
  have g1 := Lib.hid hM
  have g2 := Lib.hid hL
  have HU := Lib.hid hUu
  have HV := Lib.hid hVv
  have HA := Lib.hid ha
  have HA' := Lib.hid ha'
  have hiI : (i : Int) = min (M : Int) ((W : Int) - 2) := by omega
  have hkI : (k : Int) = min (L : Int) ((D : Int) - 2) := by omega
  have HiI := Lib.hid hiI
  have HkI := Lib.hid hkI
  generalize X (k * W + i) = Y0 at *
  generalize X (k * W + i + 1) = Y1 at *
  generalize X (k * W + i + W) = Y2 at *
  generalize X (k * W + i + W + 1) = Y3 at *
  generalize htU P W = U at *
  generalize htU Q D = V at *
  obtain ⟨q, hq⟩ : ∃ q, k * W = q := ⟨_, rfl⟩
  rw [hq] at hkw hwm hlt x0 x1 x2 x3
  obtain ⟨t0, ht0⟩ : ∃ t, q + i = t := ⟨_, rfl⟩
  rw [ht0] at hlt x0 x1 x2 x3
  obtain ⟨t1, ht1⟩ : ∃ t, t0 + 1 = t := ⟨_, rfl⟩
  obtain ⟨t2, ht2⟩ : ∃ t, t0 + W = t := ⟨_, rfl⟩
  rw [ht2] at hlt x2 x3
  obtain ⟨t3, ht3⟩ : ∃ t, t2 + 1 = t := ⟨_, rfl⟩
  rw [ht1] at x1
  rw [ht3] at x3 hlt
  have z0 : IntKind.i64.wrap ((q : Int) + (i : Int)) = (t0 : Int) := by rw [IntKind.wrap_i64]; omega
  have z2 : IntKind.i64.wrap ((t0 : Int) + (W : Int)) = (t2 : Int) := by rw [IntKind.wrap_i64]; omega
  have zW : IntKind.i64.wrap ((W : Int) - 2) = (W : Int) - 2 := by rw [IntKind.wrap_i64]; omega
  have zD : IntKind.i64.wrap ((D : Int) - 2) = (D : Int) - 2 := by rw [IntKind.wrap_i64]; omega
  have zW1 : IntKind.i64.wrap ((W : Int) - 1) = (W : Int) - 1 := by rw [IntKind.wrap_i64]; omega
  have zD1 : IntKind.i64.wrap ((D : Int) - 1) = (D : Int) - 1 := by rw [IntKind.wrap_i64]; omega
  have T1 := Lib.hid ht1
  have T3 := Lib.hid ht3
  have L1 := Lib.hid (show t1 < nn by omega)
  have L3 := Lib.hid (show t3 < nn by omega)
  have HX := Lib.hid (And.intro x0 (And.intro x1 (And.intro x2 x3)))
  clear hX hP hQ hF hUu hVv hi hk hM hL ha ha' hiM hkL hlt hkw ht0 ht1 ht2 ht3 hq hn hin hin' hiI hkI x0 x1 x2 x3
  have hN := gtc.newAt (w := w) (p := w.heap.size) (u := .int .i64 (W : Int)) (v := .int .i64 (D : Int)) (z := .slice (some ⟨b, 0, none⟩) nn c) rfl
  have hb0 : Below w.heap.size w (w.alloc (.cells #[.int .i64 (W : Int), .int .i64 (D : Int), .slice (some ⟨b, 0, none⟩) nn c] 30)) := by (with_reducible repeat (first | exact Below.refl _ _ | apply below_alloc | apply below_dN | apply below_d | refine below_setCell ?_ (by dsimp only; omega) | refine below_call (by assumption) ?_))
  have hs0 : (w.alloc (.cells #[.int .i64 (W : Int), .int .i64 (D : Int), .slice (some ⟨b, 0, none⟩) nn c] 30)).heap.size = w.heap.size + 1 := by simp
  have HN := Lib.hid hN
  have HB0 := Lib.hid hb0
  clear hN hb0
  go_enter Try.func110, Try.ntmps110
  go_upto_region 3 with (first | ((go_at_call 84; ((with_reducible refine (HI.out _).mono ?_); rintro e wA ⟨⟨v, rfl, rfl⟩, hb⟩)); have hNb := HN.out.below hb; have d0 := hNb.c0; have d1 := hNb.c1; have d2 := hNb.c2; have dl := hNb.lt; have hBA := HB0.out.trans (hb.mono (by omega)); have hsA := hBA.size; clear hb) | ((go_at_call 84; ((with_reducible refine (HI'.out _).mono ?_); rintro e wB ⟨⟨v, rfl, rfl⟩, hb⟩))))
  have hNB := hNb.below hb
  have hBB := hBA.trans (hb.mono hsA)
  clear d0 d1 d2 dl hNb hb hBA hsA
  have c0 := hNB.c0
  have c1 := hNB.c1
  have c2 := hNB.c2
  have hpl := hNB.lt
  have HNB := Lib.hid hNB
  have HBB := Lib.hid hBB
  have hsB := hBB.size
  clear hNB hBB
  (apply region_looseK (k := 18); (kernel_rfl); (kernel_rfl); intro opsL KL hopsL hKL; (dsimp only [List.take]))
  iterate 2 (apply rel_val; (rfl); (intro wq hbq; have hcq := (bcell hbq).1; (go_simp; first | done | rfl | exact ⟨rfl, rfl⟩)); (try go_simp))
  (apply rel_call (RV (.float .f32 (fcv .f64 .f32 (flB P)))); (rfl); (intro wq hbq; (go_simp; first | done | rfl | exact ⟨rfl, rfl⟩)); (intro wq hbq; exact iFloor_c _ _ _ HA.out g1.out _); (try go_simp))
  rintro v rfl
  (apply rel_toint; (rfl); (rfl); (rfl); (rw [Try.underlying25]; rfl); (exact Try.underlying2); (exact g1.out.i32); (exact by omega); (try go_simp))
  iterate 3 (apply rel_val; (rfl); (intro wq hbq; have hcq := (bcell hbq).1; (go_simp; first | done | rfl | exact ⟨rfl, rfl⟩)); (try go_simp))
  (apply rel_val (val := .int .i64 (i : Int)); (rfl); (intro wq hbq; go_simp; have hmin := HiI.out; split <;> omega); (try go_simp))
  iterate 2 (apply rel_val; (rfl); (intro wq hbq; have hcq := (bcell hbq).1; (go_simp; first | done | rfl | exact ⟨rfl, rfl⟩)); (try go_simp))
  (apply rel_call (RV (.float .f32 (fcv .f64 .f32 (flB Q)))); (rfl); (intro wq hbq; (go_simp; first | done | rfl | exact ⟨rfl, rfl⟩)); (intro wq hbq; exact iFloor_c _ _ _ HA'.out g2.out _); (try go_simp))
  rintro v rfl
  (apply rel_toint; (rfl); (rfl); (rfl); (rw [Try.underlying25]; rfl); (exact Try.underlying2); (exact g2.out.i32); (exact by omega); (try go_simp))
  iterate 3 (apply rel_val; (rfl); (intro wq hbq; have hcq := (bcell hbq).1; (go_simp; first | done | rfl | exact ⟨rfl, rfl⟩)); (try go_simp))
  (apply rel_val (val := .int .i64 (k : Int)); (rfl); (intro wq hbq; go_simp; have hmin := HkI.out; split <;> omega); (try go_simp))
  iterate 2 (apply rel_val; (rfl); (intro wq hbq; have hcq := (bcell hbq).1; (go_simp; first | done | rfl | exact ⟨rfl, rfl⟩)); (try go_simp))
  (refine wpRel_nil ?_; refine hKL _ _ ?_; clear hKL hopsL opsL KL; intro w1 hb hnews; obtain ⟨hc, hfz⟩ := bcell hb; (try simp only [World.heap_drewN] at hc hfz); have hz := hb.size; (dsimp only [List.drop]))
  have hNC := HNB.out.below hb
  have hBC := HBB.out.trans (hb.mono hsB)
  clear hb hc hfz c0 c1 c2 hpl
  have hsC := hBC.size
  have HNC := Lib.hid hNC
  have HBC := Lib.hid hBC
  have hNCl := hNC.lt
  clear hNC hBC
  obtain ⟨wC, hwC⟩ : ∃ wC, w1 = wC := ⟨_, rfl⟩
  subst hwC
  have hrow : ∀ m, ((w1.drewN m).alloc (.cells #[.float .f32 0] 25)).rowIs w1.heap.size 25 1 (fun _ => .float .f32 0) := fun m => World.rowIs_alloc (w1.drewN m) _ _ _ (fun i hi => by
    match i, hi with
    | 0, _ => rfl)
  have hrc := fun m => (hrow m).cell (i := 0) (by omega)
  have hrf := fun m => (hrow m).frozen 0
  have HROW := Lib.hid hrow
  clear hrow
  go_upto_region 5 with (first | (refine wpL_farith rfl _ _ _ _ _ rfl rfl _ _ _ rfl rfl ?_; intro r n hr hw))
  have hv : cn .f32 r = V := by rw [hr, HA'.out, cn_fofI, HV.out]
  have hov := okf_of hw
  clear hr hw
  refine abs_world (fun V' hV' => ?_)
  have hVs : V'.heap.size = w1.heap.size + 1 := by rw [hV']; simp [World.setCell]
  have hBV : Below w.heap.size w V' := by rw [hV']; exact ((below_dN HBC.out).alloc (by simpa using hsC) _).setCell (p := ⟨w1.heap.size, 0, none⟩) hsC _
  obtain ⟨ru, hcu, hru⟩ : ∃ ru, V'.cell? ⟨w1.heap.size, 0, none⟩ = some (.float .f32 ru) ∧ cn .f32 ru = U := by
    refine ⟨?_, ?h1, ?h2⟩
    case h1 => rw [hV']; exact World.rowIs.cell (World.rowIs.set (HROW.out _) 0 _) (i := 0) (by omega)
    case h2 => rw [‹cn .f32 _ = fop .sub .f32 (cn .f32 a) (cn .f32 (fofI .f32 (i : Int)))›, HA.out, cn_fofI, HU.out]
  have hNV : gtc V' w.heap.size (.int .i64 (W : Int)) (.int .i64 (D : Int)) (.slice (some ⟨b, 0, none⟩) nn c) := by
    rw [hV']
    have hd : ∀ m, gtc (w1.drewN m) w.heap.size (.int .i64 (W : Int)) (.int .i64 (D : Int)) (.slice (some ⟨b, 0, none⟩) nn c) := fun m => World.rowIs.of_block HNC.out rfl
    exact gtc.other (gtc.alloc (hd _) _) (show w.heap.size ≠ w1.heap.size by omega) _
  clear hV' hrc hrf HROW
  have hul : w1.heap.size < V'.heap.size := by omega
  have hvb : b < w.heap.size := hbl
  have HL1 := Lib.hid (fun (w' : World) (hB : Below V'.heap.size V' w') => lerp_c w.heap.size w1.heap.size b _ c t0 t1 ru U r0 r1 Y0 Y1 w' ((hB.cell (p := ⟨w.heap.size, 2, none⟩) hNV.lt).trans hNV.c2) ((hB.cell (p := ⟨w1.heap.size, 0, none⟩) hul).trans hcu) hru (((hBV.trans (hB.mono hBV.size)).cell (p := ⟨b, t0, none⟩) hbl).trans HX.out.1) (((hBV.trans (hB.mono hBV.size)).cell (p := ⟨b, t1, none⟩) hbl).trans HX.out.2.1) e0 e1 T1.out L1.out hnb)
  have HL2 := Lib.hid (fun (w' : World) (hB : Below V'.heap.size V' w') => lerp_c w.heap.size w1.heap.size b _ c t2 t3 ru U r2 r3 Y2 Y3 w' ((hB.cell (p := ⟨w.heap.size, 2, none⟩) hNV.lt).trans hNV.c2) ((hB.cell (p := ⟨w1.heap.size, 0, none⟩) hul).trans hcu) hru (((hBV.trans (hB.mono hBV.size)).cell (p := ⟨b, t2, none⟩) hbl).trans HX.out.2.2.1) (((hBV.trans (hB.mono hBV.size)).cell (p := ⟨b, t3, none⟩) hbl).trans HX.out.2.2.2) e2 e3 T3.out L3.out hnb)
  have HBV := Lib.hid hBV
  have hsV := hBV.size
  have v0 := hNV.c0
  have vl := hNV.lt
  clear hcu hNV hBV
  go_upto_region 7 with fail
  (apply region_looseK (k := 20); (kernel_rfl); (kernel_rfl); intro opsL KL hopsL hKL; (dsimp only [List.take]))
  (apply rel_val; (rfl); (intro wq hbq; have hcq := (bcell hbq).1; (go_simp; first | done | rfl | exact ⟨rfl, rfl⟩)); (try go_simp))
  (apply rel_farith; (rfl); (rfl); (rfl); (rfl); (rfl); (assumption); (assumption); intro r hr hw; (try go_simp))
  iterate 2 (apply rel_val; (rfl); (intro wq hbq; have hcq := (bcell hbq).1; (go_simp; first | done | rfl | exact ⟨rfl, rfl⟩)); (try go_simp))
  (apply rel_call (RF .f32 (lerpF U Y0 Y1)); (rfl); (intro wq hbq; (go_simp; first | done | rfl | exact ⟨rfl, rfl⟩)); (intro wq hbq; exact HL1.out _ hbq); (try go_simp))
  rintro v ⟨lr, rfl, hlr, hlo⟩
  (apply rel_farith; (rfl); (rfl); (rfl); (rfl); (rfl); (assumption); (assumption); intro r hr hw; (try go_simp))
  iterate 3 (apply rel_val; (rfl); (intro wq hbq; have hcq := (bcell hbq).1; (go_simp; first | done | rfl | exact ⟨rfl, rfl⟩)); (try go_simp))
  iterate 3 (apply rel_val; (rfl); (intro wq hbq; have hcq := (bcell hbq).1; (try simp only [World.heap_drewN] at hcq); (go_simp; first | done | rfl | exact ⟨rfl, rfl⟩)); (try go_simp))
  (apply rel_call (RF .f32 (lerpF U Y2 Y3)); (rfl); (intro wq hbq; (go_simp; first | done | rfl | exact ⟨rfl, rfl⟩)); (intro wq hbq; exact HL2.out _ hbq); (try go_simp))
  rintro v ⟨lr, rfl, hlr, hlo⟩
  iterate 2 (apply rel_farith; (rfl); (rfl); (rfl); (rfl); (rfl); (assumption); (assumption); intro r hr hw; (try go_simp))
  (apply rel_call (numRes true (lerpF V (lerpF U Y0 Y1) (lerpF U Y2 Y3))); (rfl); (intro wq hbq; (go_simp; first | done | rfl | exact ⟨rfl, rfl⟩)); (intro wq hbq; exact finite_c _ _ true hr hw _); (try go_simp))
  rintro v ⟨p', q', rfl, ⟨fr, rfl, hfr, hfo⟩, rfl⟩
  (apply rel_of; rotate_left; (rfl); (intro wq hbq; have hcq := (bcell hbq).1; (go_simp; first | done | rfl | exact ⟨rfl, rfl⟩)); rotate_right; (exact RF.mk (by assumption) (by assumption)); (try go_simp); rintro v ⟨r, rfl, hr, hw⟩)
  (apply rel_val; (rfl); (intro wq hbq; have hcq := (bcell hbq).1; (go_simp; first | done | rfl | exact ⟨rfl, rfl⟩)); (try go_simp))
  (apply rel_of; rotate_left; (rfl); (intro wq hbq; have hcq := (bcell hbq).1; (go_simp; first | done | rfl | exact ⟨rfl, rfl⟩)); rotate_right; (exact RF.mk (by assumption) (by assumption)); (try go_simp); rintro v ⟨r, rfl, hr, hw⟩)
  (apply rel_val; (rfl); (intro wq hbq; have hcq := (bcell hbq).1; (go_simp; first | done | rfl | exact ⟨rfl, rfl⟩)); (try go_simp))
  (refine wpRel_nil ?_; refine hKL _ _ ?_; clear hKL hopsL opsL KL; intro w1 hb hnews; obtain ⟨hc, hfz⟩ := bcell hb; (try simp only [World.heap_drewN] at hc hfz); have hz := hb.size; (dsimp only [List.drop]))
  go_wp2
  go_ret2
  exact ⟨⟨_, rfl, _, _, rfl, ⟨_, rfl, hr, hw⟩, rfl⟩, HBV.out.trans (hb.mono hsV)⟩
end Go.Proofs.Ytpajakindpbepaa
