/- Contract of (impl.Grid).sees. No condition. -/
import Derived.Test.YtpajakindpbepaaSPs
namespace Go.Proofs.Ytpajakindpbepaa
open Go.RowKit
set_option linter.unusedSimpArgs false
/-- A number less a number is finite only where both are (the second is). -/
theorem sub_fin {F G : Nat} (hG : num .f32 G) (h : fin .f32 F = false) : fin .f32 (fop .sub .f32 F G) = false := by
  obtain ⟨t, m, j, ey⟩ := hG
  cases hr : fin .f32 (fop .sub .f32 F G)
  · rfl
  · exfalso
    have hn := (fin_num _).1 hr
    cases ex : FloatKind.f32.format.read F with
    | number s m p => exact absurd ⟨s, m, p, ex⟩ (not_fin h)
    | nan s f => exact not_num_qn .f32 (by rw [show fop .sub .f32 F G = qn .f32 by simp only [fop, fopO, Ieee.Format.sub, ex]; rfl] at hn; exact hn)
    | infinity s => exact not_num_inf .f32 s (by rw [show fop .sub .f32 F G = FloatKind.f32.format.write (.infinity s) by simp only [fop, fopO, Ieee.Format.sub, ex, ey, Ieee.Datum.opposite, Ieee.Datum.sum]; rfl] at hn; exact hn)
theorem two_fin (g r r' T N : Nat) (w : World) (h0 : w.cell? ⟨g, 0, none⟩ = some (.float .f32 r)) (h1 : w.cell? ⟨g, 1, none⟩ = some (.float .f32 r')) (e : cn .f32 r = T) (e' : cn .f32 r' = N) : Calls Try.prog 79 #[.slice (some ⟨g, 0, none⟩) 2 2] w (Ret (RV (.bool (fin .f32 T && fin .f32 N))) w) := by
  have hc := areFinite_c g 2 2 (fun j => if j = 0 then T else N) w (block_lt_of_cell h0) (by decide) (fun j hj => by
    match j, hj with
    | 0, _ => exact ⟨r, h0, by simpa using e⟩
    | 1, _ => exact ⟨r', h1, by simpa using e'⟩)
  have ha : allF (fun j => if j = 0 then T else N) 2 = (fin .f32 T && fin .f32 N) := by simp [allF, List.range, List.range.loop]
  rw [ha] at hc
  exact hc
theorem new2_0 (w : World) (a b : Nat) (T : TypeId) : (w.alloc (.cells #[.float .f32 a, .float .f32 b] T)).cell? ⟨w.heap.size, 0, none⟩ = some (.float .f32 a) := by simp
theorem new2_1 (w : World) (a b : Nat) (T : TypeId) : (w.alloc (.cells #[.float .f32 a, .float .f32 b] T)).cell? ⟨w.heap.size, 1, none⟩ = some (.float .f32 b) := by simp
set_option maxRecDepth 100000 in
set_option maxHeartbeats 8000000 in
theorem sees_c (W D b n c f t x y E B s : Nat) (X : Nat → Nat) (w : World) (h1 : 2 ≤ W) (h2 : W ≤ 16) (h3 : 2 ≤ D) (h4 : D ≤ 16) (hn : n = W * D) (hbl : b < w.heap.size) (hX : FlCells w b n X)
    (hf : f < n) (ht : t < n) (hx : cn .f32 x = E) (hy : cn .f32 y = B) (hs1 : 1 ≤ s) (hs2 : s ≤ 64) (hsh : shareF B = true) :
    Calls Try.prog 72 #[.agg #[.int .i64 (W : Int), .int .i64 (D : Int), .slice (some ⟨b, 0, none⟩) n c], .int .i64 f, .int .i64 t, .float .f32 x, .float .f32 y, .int .i64 s] w (Ret (two (seeF X W D f t E B s)) w) := by
  have hnb : n ≤ 256 := by rw [hn]; exact Nat.mul_le_mul h2 h4
  have hfi : (f : Int) < (n : Int) := by omega
  have hti : (t : Int) < (n : Int) := by omega
  have hAW := away h1 h2 h3 h4 (hn ▸ ht) (hn ▸ hf)
  have HAW := Lib.hid hAW
  have HP := Lib.hid (fun (i : Nat) (hi : i < n) => number_c W i (D : Int) b n c (by omega) (by omega) (by omega))
  have hN := gtc.newAt (w := w) (p := w.heap.size) (u := .int .i64 (W : Int)) (v := .int .i64 (D : Int)) (z := .slice (some ⟨b, 0, none⟩) n c) rfl
  have hb0 : Below w.heap.size w (w.alloc (.cells #[.int .i64 (W : Int), .int .i64 (D : Int), .slice (some ⟨b, 0, none⟩) n c] 30)) := by (with_reducible repeat (first | exact Below.refl _ _ | apply below_alloc | apply below_dN | apply below_d | refine below_setCell ?_ (by dsimp only; omega) | refine below_call (by assumption) ?_))
  have hs0 : (w.alloc (.cells #[.int .i64 (W : Int), .int .i64 (D : Int), .slice (some ⟨b, 0, none⟩) n c] 30)).heap.size = w.heap.size + 1 := by simp
  have HX := Lib.hid hX
  have HN := Lib.hid hN
  have HB0 := Lib.hid hb0
  have HNE := Lib.hid hn
  have HE := Lib.hid hx
  have HYB := Lib.hid hy
  have HSH := Lib.hid hsh
  clear hX hN hb0 hn hx hy hsh hAW
  go_enter Try.func72, Try.ntmps72
  go_wp2
  have d0 := HN.out.c0
  have d1 := HN.out.c1
  have d2 := HN.out.c2
  have dl := HN.out.lt
  (apply region_looseK (k := 8); (kernel_rfl); (kernel_rfl); intro opsL KL hopsL hKL; (dsimp only [List.take]))
  iterate 2 (apply rel_val; (rfl); (intro wq hbq; have hcq := (bcell hbq).1; (try simp only [World.heap_drewN] at hcq); (go_simp; first | done | rfl | exact ⟨rfl, rfl⟩)); (try go_simp))
  (apply rel_call (RV (.complex .f32 (fofI .f32 ((f : Int) % (W : Int))) (fofI .f32 ((f : Int) / (W : Int))))); (rfl); (intro wq hbq; (go_simp; first | done | rfl | exact ⟨rfl, rfl⟩)); (intro wq hbq; exact Ret.of_below (HP.out f hf _) rfl); (try go_simp))
  rintro v rfl
  iterate 2 (apply rel_val; (rfl); (intro wq hbq; have hcq := (bcell hbq).1; (try simp only [World.heap_drewN] at hcq); (go_simp; first | done | rfl | exact ⟨rfl, rfl⟩)); (try go_simp))
  (apply rel_call (RV (.complex .f32 (fofI .f32 ((t : Int) % (W : Int))) (fofI .f32 ((t : Int) / (W : Int))))); (rfl); (intro wq hbq; (go_simp; first | done | rfl | exact ⟨rfl, rfl⟩)); (intro wq hbq; exact Ret.of_below (HP.out t ht _) rfl); (try go_simp))
  rintro v rfl
  iterate 2 (apply rel_val; (rfl); (intro wq hbq; have hcq := (bcell hbq).1; (go_simp; first | done | rfl | exact ⟨rfl, rfl⟩)); (try go_simp))
  (refine wpRel_nil ?_; refine hKL _ _ ?_; clear hKL hopsL opsL KL; intro w1 hb hnews; obtain ⟨hc, hfz⟩ := bcell hb; (try simp only [World.heap_drewN] at hc hfz); have hz := hb.size; (dsimp only [List.drop]))
  have hN1 := HN.out.below hb
  have hB1 := HB0.out.trans (hb.mono (by omega))
  have HN1 := Lib.hid hN1
  have HB1 := Lib.hid hB1
  have hs1' := hB1.size
  clear hb hc hfz d0 d1 d2 dl hN1 hB1
  go_upto_region 3 with (first | (go_at_call 65; ((with_reducible refine (less_c _ _ _ _ _ _ _ _ (cn_fofI _ _) (cn_fofI _ _) (cn_fofI _ _) (cn_fofI _ _) _).mono ?_); rintro e w2 ⟨⟨v, rfl, cx, cy, rfl, hcx, hcy, hox, hoy⟩, hb2⟩)) | (go_at_call 64; ((with_reducible refine (HAW.out.1 ▸ longOf_c _ _ _ _ hcx hcy HAW.out.2 _).mono ?_); rintro e w3 ⟨⟨v, rfl, lr, rfl, hlr, hlo⟩, hb3⟩)))
  have hd450 := dsq_le h1 h2 h3 h4 (HNE.out ▸ ht) (HNE.out ▸ hf)
  have hfar := lng_inn hd450
  have hBi := share_inn HSH.out
  have HDR := Lib.hid (dropOf_c lr y _ B hlr HYB.out (least_of hfar) HSH.out ((fin_num _).2 (drop_inn hfar hBi).1))
  have HFAR := Lib.hid hfar
  have HBI := Lib.hid hBi
  clear hfar hBi hd450
  go_upto_region 4 with (go_at_call 41; ((with_reducible refine (HDR.out _).mono ?_); rintro e w4 ⟨⟨v, rfl, v1, v2, rfl, ⟨dr, rfl, hdr, hdo⟩, rfl⟩, hb4⟩))
  have hB2 := HB1.out.trans (hb2.mono hs1')
  have hB3 := hB2.trans (hb3.mono hB2.size)
  have hB4 := hB3.trans (hb4.mono hB3.size)
  have hN4 := ((HN1.out.below hb2).below hb3).below hb4
  obtain ⟨r0, x0, e0⟩ := (HX.out.dn hbl hB4) f hf
  obtain ⟨r1, x1, e1⟩ := (HX.out.dn hbl hB4) t ht
  have d2 := hN4.c2
  have dl := hN4.lt
  have bl4 := Nat.lt_of_lt_of_le hbl hB4.size
  have hs4 := hB4.size
  have HN4 := Lib.hid hN4
  have HB4 := Lib.hid hB4
  have hx := HE.out
  clear hb2 hb3 hb4 hB2 hB3 hB4 hN4
  (apply region_looseK (k := 16); (kernel_rfl); (kernel_rfl); intro opsL KL hopsL hKL; (dsimp only [List.take]))
  iterate 6 (apply rel_val; (rfl); (intro wq hbq; have hcq := (bcell hbq).1; (try simp only [World.heap_drewN] at hcq); (go_simp; first | done | rfl | exact ⟨rfl, rfl⟩)); (try go_simp))
  (apply rel_farith; (rfl); (rfl); (rfl); (rfl); (rfl); (assumption); (assumption); intro r hr hw; (try go_simp))
  iterate 6 (apply rel_val; (rfl); (intro wq hbq; have hcq := (bcell hbq).1; (try simp only [World.heap_drewN] at hcq); (go_simp; first | done | rfl | exact ⟨rfl, rfl⟩)); (try go_simp))
  (apply rel_farith; (rfl); (rfl); (rfl); (rfl); (rfl); (assumption); (assumption); intro r hr hw; (try go_simp))
  (apply rel_of; rotate_left; (rfl); (intro wq hbq; have hcq := (bcell hbq).1; (go_simp; first | done | rfl | exact ⟨rfl, rfl⟩)); rotate_right; (exact RF.mk (by assumption) (by assumption)); (try go_simp); rintro v ⟨r, rfl, hr, hw⟩)
  have htop : cn .f32 r = topF X f E := by rw [hr]; rfl
  have hotop := hw
  (apply rel_of; rotate_left; (rfl); (intro wq hbq; have hcq := (bcell hbq).1; (go_simp; first | done | rfl | exact ⟨rfl, rfl⟩)); rotate_right; (exact RF.mk (by assumption) (by assumption)); (try go_simp); rintro v ⟨r, rfl, hr, hw⟩)
  have hend : cn .f32 r = endF X W f t B := by rw [hr]; rfl
  have hoend := hw
  (refine wpRel_nil ?_; refine hKL _ _ ?_; clear hKL hopsL opsL KL; intro w1 hb hnews; obtain ⟨hc, hfz⟩ := bcell hb; (try simp only [World.heap_drewN] at hc hfz); have hz := hb.size; (dsimp only [List.drop]))
  have hB5 := HB4.out.trans (hb.mono hs4)
  have HB5 := Lib.hid hB5
  have hs5 := hB5.size
  have HN5 := Lib.hid (HN4.out.below hb)
  clear hb hc hfz hB5 e0 e1 d2 dl bl4 x0 x1
  have HTOP := Lib.hid htop
  have HEND := Lib.hid hend
  cases ct : (fin .f32 (topF X f E) && fin .f32 (endF X W f t B))
  · have HSF := Lib.hid (show seeF X W D f t E B s = (false, false) by unfold seeF; rw [ct]; rfl)
    have HAF := Lib.hid (fun g w h0 h1 => ct ▸ two_fin g _ _ _ _ w h0 h1 htop hend)
    go_wp2_with (go_at_call 79; (refine Calls.mono (HAF.out _ _ (by simp) (by simp)) ?_); rintro e w5 ⟨⟨v, rfl, rfl⟩, hb5⟩)
    go_ret2
    exact ⟨⟨_, rfl, _, _, rfl, by rw [HSF.out]; rfl, by rw [HSF.out]; rfl⟩, HB5.out.trans (((Below.refl _ _).alloc (Nat.le_refl _) _ |>.trans (hb5.mono (by simp))).mono hs5)⟩
  · have HSF := Lib.hid (show seeF X W D f t E B s = seeL (grdF X W D f t B s) (sgtF X W f t E B s) (s - 1) 1 by unfold seeF; rw [ct]; rfl)
    have haf := fun g w h0 h1 => two_fin g _ _ _ _ w h0 h1 htop hend
    simp only [ct] at haf
    have HAF := Lib.hid haf
    clear haf
    go_wp2_with (go_at_call 79; (refine Calls.mono (HAF.out _ _ (by simp) (by simp)) ?_); rintro e w5 ⟨⟨v, rfl, rfl⟩, hb5⟩)
    have hB6 := HB5.out.trans (((Below.refl _ _).alloc (Nat.le_refl _) _ |>.trans (hb5.mono (by simp))).mono hs5)
    have HB6 := Lib.hid hB6
    have hs6 := hB6.size
    have HN6 := Lib.hid ((HN5.out.alloc _).below hb5)
    clear hB6 hb5 htop hend ct
    go_loopw [21] (fun kv wr => ∃ k : Nat, 1 ≤ k ∧ k ≤ s ∧ kv = .int .i64 k ∧ seeL (grdF X W D f t B s) (sgtF X W f t E B s) (s - k) k = seeL (grdF X W D f t B s) (sgtF X W f t E B s) (s - 1) 1 ∧ Below w5.heap.size w5 wr) (fun kv _ => s - (intOf kv).toNat)
    case atStart => exact ⟨1, by omega, hs1, rfl, rfl, Below.refl _ _⟩
    case round =>
      rename World => wO
      obtain ⟨k, hk1, hks, rfl, hse, hB⟩ := hrel
      have HSE := Lib.hid hse
      have HB := Lib.hid (HB6.out.trans (hB.mono hs6))
      have HB' := Lib.hid hB
      have HNO := Lib.hid (HN6.out.below hB)
      have hBs := HB.out.size
      have hBs' := hB.size
      clear hse hB
      by_cases hlt : k < s
      · have hlt' : (k : Int) < (s : Int) := by omega
        have HT := Lib.hid (shr_inn hks hs1 hs2)
        go_upto_region 11 with (first | (refine wpL_farith rfl _ _ _ _ _ rfl rfl _ _ _ rfl rfl ?_; intro r n hr hw))
        have hT : cn .f32 r = shrF k s := by rw [hr, cn_fofI, cn_fofI]; rfl
        have hoT := okf_of hw
        clear hr hw
        obtain ⟨i1, i2⟩ := see_inn (T := shrF k s) h1 h2 h3 h4 (HNE.out ▸ hf) (HNE.out ▸ ht) HT.out
        have HHT := Lib.hid (fun (w' : World) (hB : Below w.heap.size w w') a a' ha ha' => height_c W D b _ c a a' _ _ X w' h1 h2 h3 h4 HNE.out (Nat.lt_of_lt_of_le hbl hB.size) (HX.out.dn hbl hB) ha ha' i1 i2)
        have HMX := Lib.hid (fun w => mixed_c _ _ _ _ r _ _ _ _ _ (cn_fofI .f32 ((f : Int) % (W : Int))) (cn_fofI .f32 ((f : Int) / (W : Int))) (cn_fofI .f32 ((t : Int) % (W : Int))) (cn_fofI .f32 ((t : Int) / (W : Int))) hT w)
        have i3 := far_inn HFAR.out HT.out
        have HLS := Lib.hid (least_of i3)
        have hnd := (drop_inn i3 HBI.out).1
        have HFD := Lib.hid ((fin_num _).2 hnd)
        have HND := Lib.hid hnd
        have d0 := HNO.out.c0
        have d1 := HNO.out.c1
        have d2 := HNO.out.c2
        have dl := HNO.out.lt
        clear i1 i2 i3 hnd
        (apply region_looseK (k := 11); (kernel_rfl); (kernel_rfl); intro opsL KL hopsL hKL; (dsimp only [List.take]))
        (apply rel_val; (rfl); (intro wq hbq; have hcq := (bcell hbq).1; (try simp only [World.heap_drewN] at hcq); (go_simp; first | done | rfl | exact ⟨rfl, rfl⟩)); (try go_simp))
        iterate 3 (apply rel_val; (rfl); (intro wq hbq; have hcq := (bcell hbq).1; (go_simp; first | done | rfl | exact ⟨rfl, rfl⟩)); (try go_simp))
        (apply rel_call (RC (seeX W f t (shrF k s)) (seeY W f t (shrF k s))); (rfl); (intro wq hbq; (go_simp; first | done | rfl | exact ⟨rfl, rfl⟩)); (intro wq hbq; exact HMX.out _); (try go_simp))
        rintro v ⟨ax, ay, rfl, hax, hay, hox, hoy⟩
        (apply rel_call (numRes true (htF X W D (seeX W f t (shrF k s)) (seeY W f t (shrF k s)))); (rfl); (intro wq hbq; (go_simp; first | done | rfl | exact ⟨rfl, rfl⟩)); (intro wq hbq; exact HHT.out _ ((below_dN HB.out).trans (hbq.mono (by simpa using hBs))) _ _ hax hay); (try go_simp))
        rintro v ⟨p', q', rfl, ⟨gr, rfl, hgr, hgo⟩, rfl⟩
        (apply rel_of (numRes true (htF X W D (seeX W f t (shrF k s)) (seeY W f t (shrF k s)))); rotate_left; (rfl); (intro wq hbq; have hcq := (bcell hbq).1; (go_simp; first | done | rfl | exact ⟨rfl, rfl⟩)); rotate_right; (exact ⟨_, _, rfl, ⟨_, rfl, hgr, hgo⟩, rfl⟩); (try go_simp))
        clear hgr hgo
        rintro v ⟨p', q', rfl, ⟨gr, rfl, hgr, hgo⟩, rfl⟩
        (apply rel_of; rotate_left; (rfl); (intro wq hbq; have hcq := (bcell hbq).1; (go_simp; first | done | rfl | exact ⟨rfl, rfl⟩)); rotate_right; (exact RF.mk (by assumption) (by assumption)); (try go_simp); rintro v ⟨r, rfl, hr, hw⟩)
        (apply rel_val; (rfl); (intro wq hbq; have hcq := (bcell hbq).1; (go_simp; first | done | rfl | exact ⟨rfl, rfl⟩)); (try go_simp))
        (apply rel_of; rotate_left; (rfl); (intro wq hbq; have hcq := (bcell hbq).1; (go_simp; first | done | rfl | exact ⟨rfl, rfl⟩)); rotate_right; (exact RF.mk (by assumption) (by assumption)); (try go_simp); rintro v ⟨r, rfl, hr, hw⟩)
        (apply rel_val; (rfl); (intro wq hbq; have hcq := (bcell hbq).1; (go_simp; first | done | rfl | exact ⟨rfl, rfl⟩)); (try go_simp))
        (refine wpRel_nil ?_; refine hKL _ _ ?_; clear hKL hopsL opsL KL; intro w1 hb hnews; obtain ⟨hc, hfz⟩ := bcell hb; (try simp only [World.heap_drewN] at hc hfz); have hz := hb.size; (dsimp only [List.drop]))
        have hB7 := (below_dN HB'.out).trans (hb.mono (by simpa using hBs'))
        have HB7 := Lib.hid hB7
        have hs7 := hB7.size
        clear hb hc hfz hB7 d0 d1 d2 dl
        have hgr := hr
        clear hr hw
        go_upto_region 13 with (first | (refine wpL_farith rfl _ _ _ _ _ rfl rfl _ _ _ rfl rfl ?_; intro r n hr hw) | (go_at_call 41; have hfa : cn .f32 r = fop .mul .f32 (lngN (dsq W t f)) (shrF k s) := (by rw [hr, hlr, hT]); ((with_reducible refine (dropOf_c r y _ B hfa HYB.out HLS.out HSH.out HFD.out _).mono ?_); rintro e w8 ⟨⟨v, rfl, v1, v2, rfl, ⟨d8, rfl, hd8, ho8⟩, rfl⟩, hb8⟩)))
        clear hr hw
        go_upto_region 14 with (first | (refine wpL_farith rfl _ _ _ _ _ rfl rfl _ _ _ rfl rfl ?_; intro r n hr hw))
        rename_i rL nL hrL hwL rE nE hrE hwE rM nM hrM hwM K1 a1 K0 a0
        have hsgt : cn .f32 r = sgtF X W f t E B s k := by rw [hr, hrM, hrE, HTOP.out, HEND.out, hT]; rfl
        have hosgt := okf_of hw
        have hogrd := okf_of hwL
        clear hr hw hrM hrE hwM hwE hwL
        obtain ⟨m, hm⟩ : ∃ m, s - k = m + 1 := ⟨s - k - 1, by omega⟩
        have hm1 : s - (k + 1) = m := by omega
        rw [hm] at HSE
        have hB8 := HB7.out.trans (((below_dN (Below.refl _ _)).trans (hb8.mono (by simp))).mono hs7)
        have HB8 := Lib.hid hB8
        have hs8 := hB8.size
        clear hb8 hB8
        cases co : fin .f32 (htF X W D (seeX W f t (shrF k s)) (seeY W f t (shrF k s)))
        · have cg : fin .f32 (grdF X W D f t B s k) = false := sub_fin HND.out co
          have hres : seeF X W D f t E B s = (false, false) := by rw [HSF.out, ← HSE.out, seeL_no (by rw [cg]; rfl)]
          have HRES := Lib.hid hres
          clear hres cg
          go_wp2
          go_ret2
          exact ⟨⟨_, rfl, _, _, rfl, by rw [HRES.out]; rfl, by rw [HRES.out]; rfl⟩, HB6.out.trans ((below_dN HB8.out).mono hs6)⟩
        · have hgrd : cn .f32 rL = grdF X W D f t B s k := by rw [hrL, hgr, hd8, co]; rfl
          clear hrL hgr
          cases ct : (fin .f32 (grdF X W D f t B s k) && fin .f32 (sgtF X W f t E B s k))
          · have haf := fun g w h0 h1 => two_fin g _ _ _ _ w h0 h1 hgrd hsgt
            simp only [ct] at haf
            have HAF := Lib.hid haf
            clear haf
            have hres : seeF X W D f t E B s = (false, false) := by rw [HSF.out, ← HSE.out, seeL_no ct]
            have HRES := Lib.hid hres
            clear hres
            go_wp2_with (go_at_call 79; (refine Calls.mono (HAF.out _ _ (new2_0 (w8.drewN _) _ _ _) (new2_1 (w8.drewN _) _ _ _)) ?_); rintro e w9 ⟨⟨v, rfl, rfl⟩, hb9⟩)
            go_ret2
            exact ⟨⟨_, rfl, _, _, rfl, by rw [HRES.out]; rfl, by rw [HRES.out]; rfl⟩, HB6.out.trans ((HB8.out.trans ((((below_dN (Below.refl _ _)).alloc (by simp) _).trans (hb9.mono (by simp))).mono hs8)).mono hs6)⟩
          · have haf := fun g w h0 h1 => two_fin g _ _ _ _ w h0 h1 hgrd hsgt
            simp only [ct] at haf
            have HAF := Lib.hid haf
            clear haf
            cases cf : fgt .f32 (grdF X W D f t B s k) (sgtF X W f t E B s k)
            · have hres : seeL (grdF X W D f t B s) (sgtF X W f t E B s) (s - (k + 1)) (k + 1) = seeL (grdF X W D f t B s) (sgtF X W f t E B s) (s - 1) 1 := by rw [hm1, ← HSE.out, seeL_on ct cf]
              have HRES := Lib.hid hres
              clear hres ct
              go_wp2_with (go_at_call 79; (refine Calls.mono (HAF.out _ _ (new2_0 (w8.drewN _) _ _ _) (new2_1 (w8.drewN _) _ _ _)) ?_); rintro e w9 ⟨⟨v, rfl, rfl⟩, hb9⟩)
              have hB9 := HB8.out.trans ((((below_dN (Below.refl _ _)).alloc (by simp) _).trans (hb9.mono (by simp))).mono hs8)
              go_roundw
              case rel => exact ⟨k + 1, by omega, by omega, by go_num, HRES.out, hB9⟩
              case measure => first | (simp [intOf]; done) | (simp [intOf]; omega)
            · have hres : seeF X W D f t E B s = (false, true) := by rw [HSF.out, ← HSE.out, seeL_hid ct cf]
              have HRES := Lib.hid hres
              clear hres ct
              go_wp2_with (go_at_call 79; (refine Calls.mono (HAF.out _ _ (new2_0 (w8.drewN _) _ _ _) (new2_1 (w8.drewN _) _ _ _)) ?_); rintro e w9 ⟨⟨v, rfl, rfl⟩, hb9⟩)
              go_ret2
              exact ⟨⟨_, rfl, _, _, rfl, by rw [HRES.out]; rfl, by rw [HRES.out]; rfl⟩, HB6.out.trans ((HB8.out.trans ((((below_dN (Below.refl _ _)).alloc (by simp) _).trans (hb9.mono (by simp))).mono hs8)).mono hs6)⟩
      · obtain rfl : k = s := by omega
        have hlt' : ¬ ((k : Int) < (k : Int)) := by omega
        go_wp2
        go_ret2
        have hres : seeF X W D f t E B k = (true, true) := by rw [HSF.out, ← HSE.out, Nat.sub_self]; rfl
        exact ⟨⟨_, rfl, _, _, rfl, by rw [hres]; rfl, by rw [hres]; rfl⟩, HB.out⟩
end Go.Proofs.Ytpajakindpbepaa
