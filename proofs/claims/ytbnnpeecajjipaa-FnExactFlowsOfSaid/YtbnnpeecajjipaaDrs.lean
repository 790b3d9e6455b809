/- Contract of spec.DrainsOf. No condition. -/
import Derived.Test.YtbnnpeecajjipaaDr
namespace Go.Proofs.Ytbnnpeecajjipaa
open Go.RowKit
set_option linter.unusedSimpArgs false
/-- What is told so far. -/
def dvs (D : Nat → Int) (i : Nat) : List Value := (List.range i).map fun j => .int .i64 (D j)
theorem dvs_len (D : Nat → Int) (i : Nat) : (dvs D i).length = i := by simp [dvs]
theorem dvs_snoc (D : Nat → Int) (i : Nat) : dvs D (i + 1) = dvs D i ++ [.int .i64 (D i)] := by simp [dvs, List.range_succ]
theorem dvs_at {D : Nat → Int} {i j : Nat} (h : j < i) : (dvs D i)[j]? = some (.int .i64 (D j)) := by
  unfold dvs
  rw [List.getElem?_map, List.getElem?_range h]
  rfl
theorem IArr.blk {w : World} {lo n j : Nat} {v : Value} {d : Nat → Int} (h : IArr w lo v n d) (hj : j < n) : ∃ g cap, v = .slice (Option.some ⟨g, 0, none⟩) n cap ∧ lo ≤ g ∧ Dr w g n cap d := by
  rcases h with ⟨h, -⟩ | ⟨g, cap, e, h1, h2⟩
  · omega
  · exact ⟨g, cap, e, h1, h2⟩
/-- A number of canonical bits in a slot. -/
def isF (v : Value) (X : Nat) : Prop := ∃ r, v = .float .f32 r ∧ cn .f32 r = X ∧ okf .f32 r
theorem drS_t {X : Nat → Nat} {W i t : Nat} {L : List Nat} (h : fgt .f32 (fal X W i ((L[t]?).getD 0)) (drS X W i L t).2 = true) : drS X W i L (t + 1) = (((((L[t]?).getD 0) : Nat) : Int), fal X W i ((L[t]?).getD 0)) := by show (if _ then _ else _) = _; rw [h]; rfl
theorem drS_f {X : Nat → Nat} {W i t : Nat} {L : List Nat} (h : fgt .f32 (fal X W i ((L[t]?).getD 0)) (drS X W i L t).2 = false) : drS X W i L (t + 1) = drS X W i L t := by show (if _ then _ else _) = _; rw [h]; rfl
set_option maxRecDepth 100000 in
set_option maxHeartbeats 8000000 in
theorem l06Drains_c (p W H b n c : Nat) (X : Nat → Nat) (w : World) (h1 : 2 ≤ W) (h2 : W ≤ 16) (h3 : 2 ≤ H) (h4 : H ≤ 16) (hn : n = W * H) (c0 : w.cell? ⟨p, 0, none⟩ = some (.int .i64 W)) (c1 : w.cell? ⟨p, 1, none⟩ = some (.int .i64 H)) (c2 : w.cell? ⟨p, 2, none⟩ = some (.slice (some ⟨b, 0, none⟩) n c)) (hb : b < w.heap.size) (hX : FlCells w b n X) :
    Calls Try.prog 48 #[.pointer (some ⟨p, 0, none⟩)] w (IRes (drOk X W H n) (if drOk X W H n then n else 0) (drB X W H) w) := by
  have hpl := block_lt_of_cell c0
  simp only at hpl
  obtain ⟨i0, hi0, hI0, hI1, hI2⟩ := info_parts info_i64
  have hnb : n ≤ 256 := by rw [hn]; exact Nat.mul_le_mul h2 h4
  have hwm : IntKind.i64.wrap ((W : Int) * (H : Int)) = (n : Int) := by
    have e : (W : Int) * (H : Int) = (n : Int) := by rw [hn, Int.natCast_mul]
    rw [e, IntKind.wrap_i64]
    omega
  obtain ⟨K, hK⟩ : ∃ K, drOk X W H n = K := ⟨_, rfl⟩
  rw [hK]
  obtain ⟨N, hNn⟩ : ∃ N, (if K = true then n else 0) = N := ⟨_, rfl⟩
  rw [hNn]
  unfold IRes
  have HKK := Lib.hid hK
  have HNN := Lib.hid hNn
  have C0 := Lib.hid c0
  have C1 := Lib.hid c1
  have C2 := Lib.hid c2
  have HX := Lib.hid hX
  have HNE := Lib.hid hn
  clear hK hNn hX hn
  go_enter Try.func48, Try.ntmps48
  go_wp2
  clear c0 c1 c2
  go_loopw [4, 5] (fun ov iv wr => ∃ i : Nat, i ≤ n ∧ iv = .int .i64 i ∧ wr.ownsRow w.heap.size 2 1 ov i (dvs (drB X W H) i) ∧ (∀ j, j < i → drF X W j (nbs W H j) = true) ∧ Below w.heap.size w wr) (fun _ iv _ => n - (intOf iv).toNat)
  case atStart => exact ⟨0, by omega, rfl, ⟨rfl, .inr ⟨w.heap.size, 0, #[], rfl, Nat.le_refl _, heap_alloc_new _ _, Nat.le_refl _, by simp [maxLen], rfl, rfl⟩⟩, by omega, by (with_reducible repeat (first | exact Below.refl _ _ | apply below_alloc | apply below_dN | apply below_d | refine below_setCell ?_ (by dsimp only; omega) | refine below_call (by assumption) ?_))⟩
  case round =>
    rename World => wO
    obtain ⟨i, hi, rfl, hown, hall, hB⟩ := hrel
    have c0 := (hB.cell (p := ⟨p, 0, none⟩) hpl).trans C0.out
    have c1 := (hB.cell (p := ⟨p, 1, none⟩) hpl).trans C1.out
    have hplO := Nat.lt_of_lt_of_le hpl hB.size
    have HOWN := Lib.hid hown
    have HALL := Lib.hid hall
    have HB := Lib.hid hB
    have hBs := hB.size
    clear hown hall hB
    by_cases hlt : i < n
    · have hlt' : (i : Int) < (n : Int) := by omega
      have hxO := IxOk.mk' h1 h2 h3 h4 (HNE.out ▸ hlt)
      go_wp2
      (refine region_below (by kernel_rfl) (by kernel_rfl) ?_; (repeat (first | go_big_quiet_step (fail) | quiet_step (fail))); refine wpQuiet_nil ?_; intro w1 hb; obtain ⟨hc, hfz⟩ := bcell hb; (try simp only [World.heap_drewN] at hc hfz); have hz := hb.size)
      have hB1 := HB.out.trans (hb.mono hBs)
      have hs1 := hb.size
      have HB1 := Lib.hid hB1
      have HOWN1 := Lib.hid (own_below HOWN.out hb)
      have HAR := Lib.hid (fun (w' : World) (hB : Below w1.heap.size w1 w') => around_c p W H (i % W) (i / W) i w' hxO (((hB1.trans (hB.mono hB1.size)).cell (p := ⟨p, 0, none⟩) hpl).trans C0.out) (((hB1.trans (hB.mono hB1.size)).cell (p := ⟨p, 1, none⟩) hpl).trans C1.out))
      clear hB1 hb
      go_upto_region 8 with (go_at_call 69; ((with_reducible refine (HAR.out _ (Below.refl _ _)).mono ?_); rintro e w2 ⟨v, rfl, hA, hb2⟩))
      have hs2 := hb2.size
      have HB2 := Lib.hid (HB1.out.trans (hb2.mono HB1.out.size))
      have HOWN2 := Lib.hid (own_below HOWN1.out hb2)
      have hLe : nbL W H (i % W) (i / W) i 9 = nbs W H i := rfl
      rw [hLe] at hA
      have hll := nbs_len W H i
      have hlts := fun t ht => nbs_lt (W := W) (H := H) (i := i) (t := t) h1 ht
      have hdF : drF X W i (nbs W H i) = allB (fun t => fin .f32 (fal X W i (((nbs W H i)[t]?).getD 0))) (nbs W H i).length := rfl
      have hdB : drB X W H i = (drS X W i (nbs W H i) (nbs W H i).length).1 := rfl
      have HDF := Lib.hid hdF
      have HDB := Lib.hid hdB
      have HLT := Lib.hid hlts
      obtain ⟨sh, sc, se⟩ : ∃ A cp, v = .slice A (nbs W H i).length cp := by
        rcases hA with ⟨h, rfl⟩ | ⟨g, cap, rfl, -⟩
        · exact ⟨none, 0, by rw [h]⟩
        · exact ⟨_, _, rfl⟩
      have HA := Lib.hid hA
      have hwl : w.heap.size ≤ w2.heap.size := HB2.out.size
      clear hb2 hA hdF hdB hlts hLe c0 c1
      generalize hLL : nbs W H i = L at *
      generalize hLm : L.length = m at *
      subst se
      go_wp2
      go_loopw [6, 7, 9] (fun bv mv kv wx => ∃ t : Nat, t ≤ m ∧ kv = .int .i64 t ∧ bv = .int .i64 (drS X W i L t).1 ∧ isF mv (drS X W i L t).2 ∧ (∀ j, j < t → fin .f32 (fal X W i ((L[j]?).getD 0)) = true) ∧ Below w2.heap.size w2 wx) (fun _ _ kv _ => m - (intOf kv).toNat)
      case atStart => exact ⟨0, by omega, rfl, rfl, ⟨0, rfl, by simp [drS], okf_of (by decide)⟩, by omega, Below.refl _ _⟩
      case round =>
        rename World => wM
        obtain ⟨t, ht, rfl, rfl, ⟨mr, rfl, hmr, hmo⟩, hfin, hBx⟩ := hrel
        have HFIN := Lib.hid hfin
        clear hfin
        by_cases hlt2 : t < m
        · obtain ⟨g, cp, e, hg, hD⟩ := (HA.out.below hBx).blk hlt2
          injection e with e1 _ e2
          subst e1 e2
          have hBm := HB2.out.trans (hBx.mono (by omega))
          have hkn := HLT.out t hlt2
          have hkn2 : (L[t]?).getD 0 < n := by rw [HNE.out]; exact hkn
          have hkn3 : (((L[t]?).getD 0 : Nat) : Int) < (n : Int) := by omega
          have hin := HNE.out ▸ hlt
          have q0 := hD.cell hlt2
          rw [show nthI L t = (((L[t]?).getD 0 : Nat) : Int) from rfl] at q0
          have ql := hD.lt
          have hXm := HX.out.dn hb hBm
          obtain ⟨r0, x0, hr0⟩ := hXm i hlt
          obtain ⟨r1, x1, hr1⟩ := hXm _ hkn2
          have c0 := (hBm.cell (p := ⟨p, 0, none⟩) hpl).trans C0.out
          have c2 := (hBm.cell (p := ⟨p, 2, none⟩) hpl).trans C2.out
          have hplM := Nat.lt_of_lt_of_le hpl hBm.size
          have hbM := Nat.lt_of_lt_of_le hb hBm.size
          have hfalE : fal X W i ((L[t]?).getD 0) = fop .quo .f32 (fop .sub .f32 (X i) (X ((L[t]?).getD 0))) (lngN (dsq W i ((L[t]?).getD 0))) := rfl
          have hT := @drS_t X W i t L
          have hFf := @drS_f X W i t L
          have HT := Lib.hid hT
          have HFf := Lib.hid hFf
          have hC0 : ∀ w', Below wM.heap.size wM w' → w'.cell? ⟨p, 0, none⟩ = some (.int .i64 W) := fun w' hb' => (hb'.cell (p := ⟨p, 0, none⟩) hplM).trans c0
          have HC0 := Lib.hid hC0
          have hAW := away h1 h2 h3 h4 (i := (L[t]?).getD 0) (k := i) hkn hin
          rw [dsq_comm] at hAW
          have HAW := Lib.hid hAW
          have HFE := Lib.hid hfalE
          have HBx := Lib.hid hBx
          have HFA := Lib.hid (fun (h : fin .f32 (fal X W i ((L[t]?).getD 0)) = false) => (HDF.out.trans (allB_false hlt2 h)))
          clear hD hXm hT hFf hC0 hAW hfalE hBx hBm hkn hin
          generalize hk : (L[t]?).getD 0 = k at *
          generalize X i = Xi at *
          generalize X k = Xk at *
          generalize hF : fal X W i k = F at *
          generalize hM : (drS X W i L t).2 = M at *
          have hPi := Lib.hid (fun (w' : World) (hb' : Below wM.heap.size wM w') => (show Calls Try.prog 71 #[.pointer (some ⟨p, 0, none⟩), .int .i64 i] w' (Ret (RV (.complex .f32 (fofI .f32 ((i : Int) % (W : Int))) (fofI .f32 ((i : Int) / (W : Int))))) w') from Ret.of_below (l06Place_c p W i (by omega) (by omega) (by omega) w' (HC0.out w' hb')) rfl))
          have hPk := Lib.hid (fun (w' : World) (hb' : Below wM.heap.size wM w') => (show Calls Try.prog 71 #[.pointer (some ⟨p, 0, none⟩), .int .i64 k] w' (Ret (RV (.complex .f32 (fofI .f32 ((k : Int) % (W : Int))) (fofI .f32 ((k : Int) / (W : Int))))) w') from Ret.of_below (l06Place_c p W k (by omega) (by omega) (by omega) w' (HC0.out w' hb')) rfl))
          go_wp2
          (apply region_looseK (k := 30); (kernel_rfl); (kernel_rfl); intro opsL KL hopsL hKL; (dsimp only [List.take]))
          iterate 17 (apply rel_val; (rfl); (intro wq hbq; have hcq := (bcell hbq).1; (go_simp; first | done | rfl | exact ⟨rfl, rfl⟩)); (try go_simp))
          (apply rel_farith; (rfl); (rfl); (rfl); (rfl); (rfl); (assumption); (assumption); intro r hr hw; (try go_simp))
          iterate 5 (apply rel_val; (rfl); (intro wq hbq; have hcq := (bcell hbq).1; (go_simp; first | done | rfl | exact ⟨rfl, rfl⟩)); (try go_simp))
          (apply rel_call (RV (.complex .f32 (fofI .f32 ((k : Int) % (W : Int))) (fofI .f32 ((k : Int) / (W : Int))))); (rfl); (intro wq hbq; (go_simp; first | done | rfl | exact ⟨rfl, rfl⟩)); (intro wq hbq; exact hPk.out _ (by assumption)); (try go_simp))
          rintro v rfl
          iterate 2 (apply rel_val; (rfl); (intro wq hbq; have hcq := (bcell hbq).1; (go_simp; first | done | rfl | exact ⟨rfl, rfl⟩)); (try go_simp))
          (apply rel_call (RV (.complex .f32 (fofI .f32 ((i : Int) % (W : Int))) (fofI .f32 ((i : Int) / (W : Int))))); (rfl); (intro wq hbq; (go_simp; first | done | rfl | exact ⟨rfl, rfl⟩)); (intro wq hbq; exact hPi.out _ (by assumption)); (try go_simp))
          rintro v rfl
          (apply rel_csub; (rfl); (rfl); (rfl); (rfl); (exact cn_fofI _ _); (exact cn_fofI _ _); (exact cn_fofI _ _); (exact cn_fofI _ _); intro cx cy hcx hcy hox hoy; (try go_simp))
          (apply rel_call (RF .f32 (lngN (dsq W i k))); (rfl); (intro wq hbq; (go_simp; first | done | rfl | exact ⟨rfl, rfl⟩)); (intro wq hbq; exact HAW.out.1 ▸ l01Long_c _ _ _ _ (by assumption) (by assumption) HAW.out.2 _); (try go_simp))
          rintro v ⟨lr, rfl, hlr, hlo⟩
          (apply rel_farith; (rfl); (rfl); (rfl); (rfl); (rfl); (assumption); (assumption); intro r hr hw; (try go_simp))
          (refine wpRel_nil ?_; refine hKL _ _ ?_; clear hKL hopsL opsL KL; intro w1 hb hnews; obtain ⟨hc, hfz⟩ := bcell hb; (try simp only [World.heap_drewN] at hc hfz); have hz := hb.size; (dsimp only [List.drop]))
          have hr' : cn .f32 r = F := by rw [hr, HFE.out]
          have hBm := HBx.out.trans (hb.mono HBx.out.size)
          have HBm := Lib.hid hBm
          have hs3 := hb.size
          clear hr hBm
          cases cf : fin .f32 F
          · have HC := Lib.hid (fun w => cf ▸ sFinite_c r F hr' w)
            have HKF := Lib.hid (HKK.out.symm.trans (allB_false (f := fun i => drF X W i (nbs W H i)) hlt (by simp only [hLL]; exact HFA.out cf)))
            go_wp2_with (first | (go_at_call 36; ((with_reducible refine (HC.out _).mono ?_); rintro e w3 ⟨⟨v, rfl, rfl⟩, hb3⟩)))
            go_ret2
            obtain rfl : K = false := HKF.out
            obtain rfl : N = 0 := HNN.out.symm
            exact ⟨_, rfl, .inl ⟨rfl, rfl⟩, HB2.out.trans ((HBm.out.trans (hb3.mono HBm.out.size)).mono (by omega))⟩
          · have HC := Lib.hid (fun w => cf ▸ sFinite_c r F hr' w)
            cases cg : fgt .f32 F M
            · have hst := HFf.out cg
              have HST := Lib.hid hst
              clear hst
              go_wp2_with (first | (go_at_call 36; ((with_reducible refine (HC.out _).mono ?_); rintro e w3 ⟨⟨v, rfl, rfl⟩, hb3⟩)))
              go_roundw
              case rel => exact ⟨t + 1, by omega, by go_num, by rw [HST.out], ⟨mr, rfl, by rw [HST.out, hM]; exact hmr, hmo⟩, fun j hj => by
                by_cases ej : j = t
                · rw [ej, hk, hF]; exact cf
                · exact HFIN.out j (by omega), HBm.out.trans (hb3.mono HBm.out.size)⟩
              case measure => first | (simp [intOf]; done) | (simp [intOf]; omega)
            · have hst := HT.out cg
              have HST := Lib.hid hst
              clear hst
              go_wp2_with (first | (go_at_call 36; ((with_reducible refine (HC.out _).mono ?_); rintro e w3 ⟨⟨v, rfl, rfl⟩, hb3⟩; have q3 := (hb3.cell (p := ⟨g, t, none⟩) (Nat.lt_of_lt_of_le ql hs3)).trans ((hb.cell (p := ⟨g, t, none⟩) ql).trans q0); have ql3 : g < w3.heap.size := Nat.lt_of_lt_of_le ql (Nat.le_trans hs3 hb3.size))))
              go_roundw
              case rel => exact ⟨t + 1, by omega, by go_num, by rw [HST.out], ⟨r, rfl, by rw [HST.out]; exact hr', hw⟩, fun j hj => by
                by_cases ej : j = t
                · rw [ej, hk, hF]; exact cf
                · exact HFIN.out j (by omega), HBm.out.trans (hb3.mono HBm.out.size)⟩
              case measure => first | (simp [intOf]; done) | (simp [intOf]; omega)
        · obtain rfl : t = m := by omega
          have hown := own_below HOWN2.out hBx
          have hBw := HB2.out.trans (hBx.mono hwl)
          have hBws := hBw.size
          have HBw := Lib.hid hBw
          have hdf : drF X W i L = true := HDF.out.trans (allB_true HFIN.out)
          have HDFT := Lib.hid hdf
          clear hBx hBw hdf
          rw [← HDB.out]
          generalize hdv : drB X W H i = d at *
          go_wp2_with (at_builtin; refine wpList_append_own _ rfl (.tmp 75) (.tmp 77) 37 rfl w.heap.size 2 i0 (.int .i64 0) 1 8 Try.underlying37 hi0 hI0 hI1 hI2 rfl (by decide) _ _ _ rfl (hown.alloc _) ⟨wM.heap.size, 0, none⟩ 1 1 [.int .i64 d] rfl rfl (cell_one_new _ _ _) (by intro u hu; simp at hu; subst hu; rfl) (by unfold maxLen; omega) (by omega) (by simp; omega) ?_; intro v1 w5 hown5 hgrow5 hnil5)
          go_roundw
          case rel => exact ⟨i + 1, by omega, by go_num, by rw [dvs_snoc, hdv]; exact hown5, fun j hj => by
            by_cases ej : j = i
            · rw [ej, hLL]; exact HDFT.out
            · exact HALL.out j (by omega), (HBw.out.alloc hBws _).grown hgrow5 (by simp; omega) (fun j hj => (hown.lt j hj).1)⟩
          case measure => first | (simp [intOf]; done) | (simp [intOf]; omega)
    · obtain rfl : i = n := by omega
      have hlt' : ¬ ((i : Int) < (i : Int)) := by omega
      go_wp2
      (refine region_below (by kernel_rfl) (by kernel_rfl) ?_; (repeat (first | go_big_quiet_step (fail) | quiet_step (fail))); refine wpQuiet_nil ?_; intro w1 hb; obtain ⟨hc, hfz⟩ := bcell hb; (try simp only [World.heap_drewN] at hc hfz); have hz := hb.size)
      go_wp2
      go_ret2
      obtain rfl : K = true := HKK.out.symm.trans (allB_true HALL.out)
      obtain rfl : N = i := HNN.out.symm
      exact ⟨_, rfl, own_iarr (own_below HOWN.out hb) (fun j hj => dvs_at hj), HB.out.trans (hb.mono hBs)⟩
end Go.Proofs.Ytbnnpeecajjipaa
