/- Flat grids and cones. No condition. -/
import Derived.Test.YtpajakindpbepaaMad
import Derived.Test.YtpajakindpbepaaSFl
namespace Go.Proofs.Ytpajakindpbepaa
open Go.RowKit Go.IntWalk
set_option linter.unusedSimpArgs false
theorem hcf_flat (a : Array Value) (w' : World) : (callFunc 77 a).run Try.prog w' = .ok (.enter 77 a) w' := by go_simp
set_option maxHeartbeats 400000 in
theorem flat1_c (i : Int) (p x : Nat) (w : World) (h : w.cell? ⟨p, 0, none⟩ = some (.float .f32 x)) : Calls Try.prog 77 #[.int .i64 i, .pointer (some ⟨p, 0, none⟩)] w (Ret (RV (.float .f32 x)) w) := by
  go_enter Try.func77, Try.ntmps77
  go_wp2
  go_ret
  exact ⟨⟨_, rfl, rfl⟩, Below.refl _ _⟩
theorem fin_two : fin .f32 1073741824 = true := by decide +kernel
theorem cn_two : cn .f32 1073741824 = 1073741824 := by decide +kernel
set_option maxRecDepth 100000 in
set_option maxHeartbeats 4000000 in
theorem flatGrid_c (W D n : Nat) (w : World) (h1 : 2 ≤ W) (h2 : W ≤ 16) (h3 : 2 ≤ D) (h4 : D ≤ 16) (hn : W * D = n) :
    Calls Try.prog 39 #[.int .i64 (W : Int), .int .i64 (D : Int), .float .f32 1073741824] w (MG W D n (fun _ => 1073741824) w) := by
  have hSd := fun w' => areSides_c (W : Int) (D : Int) w'
  have hsd : sidesOk (W : Int) (D : Int) = true := by unfold sidesOk; simp; omega
  rw [hsd] at hSd
  have HSd := Lib.hid hSd
  clear hSd hsd
  go_enter Try.func39, Try.ntmps39
  go_upto_region 3 with (go_at_call 75; ((with_reducible refine (HSd.out _).mono ?_); rintro e w' ⟨rfl, rfl⟩))
  refine absw (fun V hV => ?_)
  have hs1 : V.heap.size = w.heap.size + 1 + 1 := by rw [hV]; simp
  have hx : V.cell? ⟨w.heap.size, 0, none⟩ = some (.float .f32 1073741824) := by rw [hV]; simp
  have tQ1 : gtc V (w.heap.size + 1) (.int .i64 0) (.int .i64 0) (.slice none 0 0) := by rw [hV]; exact gtc.newAt (by simp)
  have hB1 : Below w.heap.size w V := by rw [hV]; (with_reducible repeat (first | exact Below.refl _ _ | apply below_alloc | apply below_dN | apply below_d | refine below_setCell ?_ (by dsimp only; omega) | refine below_call (by assumption) ?_))
  have HM := Lib.hid (madeGrid_c 77 #[.pointer (some ⟨w.heap.size, 0, none⟩)] W D n (fun _ => 1073741824) V h1 h2 h3 h4 hn (fun _ _ => fin_two) (fun i hi w' hB => flat1_c (i : Int) w.heap.size _ w' ((hB.cell (p := ⟨w.heap.size, 0, none⟩) (by simp only; omega)).trans hx)) (fun _ _ => cn_two) hcf_flat)
  clear hV hx hn
  go_wp2_with (go_at_call 76; ((with_reducible refine (HM.out).mono ?_); rintro e w2 ⟨b, cap, rfl, hb, hF, hB⟩); have tQ2 := tQ1.below hB; have q0 := tQ2.c0; have q1 := tQ2.c1; have q2 := tQ2.c2; have ql := tQ2.lt; have qf0 := tQ2.fr 0; have qf1 := tQ2.fr 1; have qf2 := tQ2.fr 2)
  refine bodyPost_ret (v := .tuple #[.agg #[.int .i64 W, .int .i64 D, .slice (some ⟨b, 0, none⟩) n cap], .bool true]) (by simp [results, Try.results39, go_sem, *] <;> (first | rfl | exact ⟨rfl, rfl⟩ | exact ⟨rfl, rfl, rfl⟩ | exact ⟨rfl, rfl, rfl, rfl⟩)) rfl ?_
  have kq : Keep1 (w.heap.size + 1) w2 (((w2.setCell ⟨w.heap.size + 1, 0, none⟩ (.int .i64 W)).setCell ⟨w.heap.size + 1, 1, none⟩ (.int .i64 D)).setCell ⟨w.heap.size + 1, 2, none⟩ (.slice (some ⟨b, 0, none⟩) n cap)) := Keep1.set (Keep1.set (Keep1.set (Keep1.refl _ _) _) _) _
  have hBe := hB1.trans (hB.mono (by omega))
  exact ⟨b, cap, rfl, ⟨by omega, by simpa [World.setCell] using hb.2⟩, hF.keep1 hb.2 kq (by omega), ((hBe.setCell (p := ⟨w.heap.size + 1, 0, none⟩) (by simp only; omega) _).setCell (p := ⟨w.heap.size + 1, 1, none⟩) (by simp only; omega) _).setCell (p := ⟨w.heap.size + 1, 2, none⟩) (by simp only; omega) _⟩
def coneM (M N x y : Nat) : Nat := fop .sub .f32 1082130432 (fop .mul .f32 1065353216 (lng (fop .sub .f32 (fofI .f32 (x : Int)) M) (fop .sub .f32 (fofI .f32 (y : Int)) N)))
def coneOkB (M N x y : Nat) : Bool := fitsB .f64 .f32 (fsq (pww (fop .sub .f32 (fofI .f32 (x : Int)) M) (fop .sub .f32 (fofI .f32 (y : Int)) N))) && !nanB .f32 (coneM M N x y) && fin .f32 (coneM M N x y) && (cn .f32 (coneM M N x y) == coneM M N x y)
theorem cone_ok0 : ∀ x : Fin 5, ∀ y : Fin 5, coneOkB 0 0 x.val y.val = true := by decide +kernel
set_option maxRecDepth 100000 in
set_option maxHeartbeats 4000000 in
theorem cone1_c (W i a b c d M N : Nat) (w : World) (hW : 1 ≤ W) (hWb : W ≤ 1048576) (hi : i ≤ 1048576) (ha : w.cell? ⟨a, 0, none⟩ = some (.float .f32 1082130432)) (hb : w.cell? ⟨b, 0, none⟩ = some (.float .f32 1065353216)) (hc : w.cell? ⟨c, 0, none⟩ = some (.int .i64 (W : Int))) (hd : w.cell? ⟨d, 0, none⟩ = some (.complex .f32 M N)) (hM : cn .f32 M = M) (hN : cn .f32 N = N) (hok : coneOkB M N (i % W) (i / W) = true) :
    Calls Try.prog 80 #[.int .i64 (i : Int), .pointer (some ⟨a, 0, none⟩), .pointer (some ⟨b, 0, none⟩), .pointer (some ⟨c, 0, none⟩), .pointer (some ⟨d, 0, none⟩)] w (Ret (RV (.float .f32 (coneM M N (i % W) (i / W)))) w) := by
  have la := block_lt_of_cell ha
  have lb := block_lt_of_cell hb
  have lc := block_lt_of_cell hc
  have ld := block_lt_of_cell hd
  simp only at la lb lc ld
  unfold coneOkB at hok
  simp only [Bool.and_eq_true, Bool.not_eq_true', beq_iff_eq] at hok
  obtain ⟨⟨⟨k1, k2⟩, k3⟩, k4⟩ := hok
  have e1 : ((i % W : Nat) : Int) = (i : Int) % (W : Int) := by omega
  have e2 : ((i / W : Nat) : Int) = (i : Int) / (W : Int) := by simp
  rw [e1, e2] at k1
  have HK1 := Lib.hid (fits_ofB k1)
  have hX : coneM M N (i % W) (i / W) = fop .sub .f32 1082130432 (fop .mul .f32 1065353216 (lng (fop .sub .f32 (fofI .f32 ((i : Int) % (W : Int))) M) (fop .sub .f32 (fofI .f32 ((i : Int) / (W : Int))) N))) := by unfold coneM; rw [e1, e2]
  have HX := Lib.hid hX
  have HK2 := Lib.hid k2
  clear k1 k2 k3 k4 e1 e2 hX
  have f4 : cn .f32 1082130432 = 1082130432 := by decide +kernel
  have f1 : cn .f32 1065353216 = 1065353216 := by decide +kernel
  have HP := Lib.hid (fun w' => placeAt_c W i hW hi hWb w')
  go_enter Try.func80, Try.ntmps80
  go_wp2
  (apply region_looseK (k := 11); (kernel_rfl); (kernel_rfl); intro opsL KL hopsL hKL; (dsimp only [List.take]))
  iterate 4 (apply rel_val; (rfl); (intro wq hbq; have hcq := (bcell hbq).1; (go_simp; first | done | rfl | exact ⟨rfl, rfl⟩)); (try go_simp))
  (apply rel_call (RV (.complex .f32 (fofI .f32 ((i : Int) % (W : Int))) (fofI .f32 ((i : Int) / (W : Int))))); (rfl); (intro wq hbq; (go_simp; first | done | rfl | exact ⟨rfl, rfl⟩)); (intro wq hbq; exact Ret.of_below (HP.out _) rfl); (try go_simp))
  rintro v rfl
  (apply rel_val; (rfl); (intro wq hbq; have hcq := (bcell hbq).1; (go_simp; first | done | rfl | exact ⟨rfl, rfl⟩)); (try go_simp))
  (apply rel_call (RC (fop .sub .f32 (fofI .f32 ((i : Int) % (W : Int))) M) (fop .sub .f32 (fofI .f32 ((i : Int) / (W : Int))) N)); (rfl); (intro wq hbq; (go_simp; first | done | rfl | exact ⟨rfl, rfl⟩)); (intro wq hbq; exact less_c _ _ _ _ _ _ _ _ (cn_fofI _ _) (cn_fofI _ _) hM hN _); (try go_simp))
  rintro v ⟨cx, cy, rfl, hcx, hcy, hox, hoy⟩
  (apply rel_call (RF .f32 (lng (fop .sub .f32 (fofI .f32 ((i : Int) % (W : Int))) M) (fop .sub .f32 (fofI .f32 ((i : Int) / (W : Int))) N))); (rfl); (intro wq hbq; (go_simp; first | done | rfl | exact ⟨rfl, rfl⟩)); (intro wq hbq; exact longOf_c _ _ _ _ hcx hcy HK1.out _); (try go_simp))
  rintro v ⟨lr, rfl, hlr, hlo⟩
  (apply rel_farith; (rfl); (rfl); (rfl); (rfl); (rfl); (assumption); (assumption); intro r hr hw; (try go_simp))
  (apply rel_farith; (rfl); (rfl); (rfl); (rfl); (rfl); (assumption); (assumption); intro r hr hw; (try go_simp))
  (apply rel_of; rotate_left; (rfl); (intro wq hbq; have hcq := (bcell hbq).1; (go_simp; first | done | rfl | exact ⟨rfl, rfl⟩)); rotate_right; (exact RF.mk (by assumption) (by assumption)); (try go_simp); rintro v ⟨r, rfl, hr, hw⟩)
  (refine wpRel_nil ?_; refine hKL _ _ ?_; clear hKL hopsL opsL KL; intro w1 hb hnews; obtain ⟨hc, hfz⟩ := bcell hb; (try simp only [World.heap_drewN] at hc hfz); have hz := hb.size; (dsimp only [List.drop]))
  have hr' := hr.trans HX.out.symm
  obtain rfl := raw_of HK2.out hr'
  go_wp2
  go_ret
  exact ⟨⟨_, rfl, rfl⟩, hb⟩
set_option maxHeartbeats 1000000 in
theorem isFinC_c (M N : Nat) (w : World) (h1 : fin .f32 (cn .f32 M) = true) (h2 : fin .f32 (cn .f32 N) = true) : Calls Try.prog 78 #[.complex .f32 M N] w (Ret (RV (.bool true)) w) := by
  have H1 := Lib.hid (fun w => h1 ▸ iFinite_c M _ rfl w)
  have H2 := Lib.hid (fun w => h2 ▸ iFinite_c N _ rfl w)
  clear h1 h2
  go_enter Try.func78, Try.ntmps78
  go_wp2_with (first | (go_at_call 55; ((with_reducible refine (H1.out _).mono ?_); rintro e w1 ⟨⟨v, rfl, rfl⟩, hb1⟩)) | (go_at_call 55; ((with_reducible refine (H2.out _).mono ?_); rintro e w2 ⟨⟨v, rfl, rfl⟩, hb2⟩)))
  go_ret
  exact ⟨⟨_, rfl, rfl⟩, hb1.trans (hb2.mono hb1.size)⟩
theorem one_new (w : World) (v : Value) (T : TypeId) (p : Nat) (hp : p = w.heap.size) : (w.alloc (.cells #[v] T)).rowIs p T 1 (fun _ => v) := by
  subst hp
  exact World.rowIs_alloc w _ _ _ (fun i hi => by
    match i, hi with
    | 0, _ => rfl)
theorem hcf_cone (a : Array Value) (w' : World) : (callFunc 80 a).run Try.prog w' = .ok (.enter 80 a) w' := by go_simp
set_option maxRecDepth 100000 in
set_option maxHeartbeats 4000000 in
theorem coneGrid_c (W D n M N : Nat) (w : World) (h1 : 2 ≤ W) (h2 : W ≤ 16) (h3 : 2 ≤ D) (h4 : D ≤ 16) (hn : W * D = n) (hM : cn .f32 M = M) (hN : cn .f32 N = N) (fM : fin .f32 M = true) (fN : fin .f32 N = true) (hok : ∀ j, j < n → coneOkB M N (j % W) (j / W) = true) :
    Calls Try.prog 40 #[.int .i64 (W : Int), .int .i64 (D : Int), .complex .f32 M N, .float .f32 1082130432, .float .f32 1065353216] w (MG W D n (fun j => coneM M N (j % W) (j / W)) w) := by
  have hnb : n ≤ 16 * 16 := by rw [← hn]; exact Nat.mul_le_mul h2 h4
  have hSd := fun w' => areSides_c (W : Int) (D : Int) w'
  have hsd : sidesOk (W : Int) (D : Int) = true := by unfold sidesOk; simp; omega
  rw [hsd] at hSd
  have HSd := Lib.hid hSd
  have HFC := Lib.hid (fun w => isFinC_c M N w (by rw [hM]; exact fM) (by rw [hN]; exact fN))
  have haf := fun g w h0 h1 => two_fin g 1082130432 1065353216 1082130432 1065353216 w h0 h1 (by decide +kernel) (by decide +kernel)
  rw [show (fin .f32 1082130432 && fin .f32 1065353216) = true by decide +kernel] at haf
  have HAF := Lib.hid haf
  have HCF := Lib.hid hok
  clear hSd hsd haf hok
  go_enter Try.func40, Try.ntmps40
  go_upto_region 1 with fail
  refine absw (fun V hV => ?_)
  have hs1 : V.heap.size = w.heap.size + 1 + 1 + 1 + 1 + 1 := by rw [hV]; simp
  have x0 : V.cell? ⟨w.heap.size, 0, none⟩ = some (.int .i64 (W : Int)) := by rw [hV]; exact (((((one_new w _ _ _ rfl).alloc _).alloc _).alloc _).alloc _).cell (i := 0) (by omega)
  have x1 : V.cell? ⟨w.heap.size + 1, 0, none⟩ = some (.complex .f32 M N) := by rw [hV]; exact ((((one_new _ _ _ _ (by simp)).alloc _).alloc _).alloc _).cell (i := 0) (by omega)
  have x2 : V.cell? ⟨w.heap.size + 1 + 1, 0, none⟩ = some (.float .f32 1082130432) := by rw [hV]; exact (((one_new _ _ _ _ (by simp)).alloc _).alloc _).cell (i := 0) (by omega)
  have x3 : V.cell? ⟨w.heap.size + 1 + 1 + 1, 0, none⟩ = some (.float .f32 1065353216) := by rw [hV]; exact ((one_new _ _ _ _ (by simp)).alloc _).cell (i := 0) (by omega)
  have tQ1 : gtc V (w.heap.size + 1 + 1 + 1 + 1) (.int .i64 0) (.int .i64 0) (.slice none 0 0) := by rw [hV]; exact gtc.newAt (by simp)
  have hB1 : Below w.heap.size w V := by rw [hV]; (with_reducible repeat (first | exact Below.refl _ _ | apply below_alloc | apply below_dN | apply below_d | refine below_setCell ?_ (by dsimp only; omega) | refine below_call (by assumption) ?_))
  have X0 := Lib.hid x0
  have X1 := Lib.hid x1
  have X2 := Lib.hid x2
  have X3 := Lib.hid x3
  have HTQ := Lib.hid tQ1
  have HB1 := Lib.hid hB1
  clear hV tQ1 hB1
  go_upto_region 3 with (first | (go_at_call 75; ((with_reducible refine (HSd.out _).mono ?_); rintro e w' ⟨rfl, rfl⟩)) | (go_at_call 78; ((with_reducible refine (HFC.out _).mono ?_); rintro e w1 ⟨⟨v, rfl, rfl⟩, hb1⟩; have y2 := (hb1.cell (p := ⟨w.heap.size + 1 + 1, 0, none⟩) (by simp only; omega)).trans X2.out; have y3 := (hb1.cell (p := ⟨w.heap.size + 1 + 1 + 1, 0, none⟩) (by simp only; omega)).trans X3.out)) | (go_at_call 79; (refine Calls.mono (HAF.out _ _ (by simp) (by simp)) ?_); rintro e w2 ⟨⟨v, rfl, rfl⟩, hb2⟩))
  have hb12 := hb1.trans (((Below.refl w1.heap.size w1).alloc (Nat.le_refl _) _ |>.trans (hb2.mono (by simp))).mono hb1.size)
  clear hb1 hb2 x0 x1 x2 x3 y2 y3
  have hs2 := hb12.size
  have x0 := (hb12.cell (p := ⟨w.heap.size, 0, none⟩) (by first | omega | (simp only; omega))).trans X0.out
  have x1 := (hb12.cell (p := ⟨w.heap.size + 1, 0, none⟩) (by first | omega | (simp only; omega))).trans X1.out
  have x2 := (hb12.cell (p := ⟨w.heap.size + 1 + 1, 0, none⟩) (by first | omega | (simp only; omega))).trans X2.out
  have x3 := (hb12.cell (p := ⟨w.heap.size + 1 + 1 + 1, 0, none⟩) (by first | omega | (simp only; omega))).trans X3.out
  have hB2 := HB1.out.trans (hb12.mono (by omega))
  have tQ1 := HTQ.out.below hb12
  have HM := Lib.hid (madeGrid_c 80 #[.pointer (some ⟨w.heap.size + 1 + 1, 0, none⟩), .pointer (some ⟨w.heap.size + 1 + 1 + 1, 0, none⟩), .pointer (some ⟨w.heap.size, 0, none⟩), .pointer (some ⟨w.heap.size + 1, 0, none⟩)] W D n (fun j => coneM M N (j % W) (j / W)) w2 h1 h2 h3 h4 hn
    (fun j hj => by have h := HCF.out j hj; unfold coneOkB at h; simp only [Bool.and_eq_true] at h; exact h.1.2)
    (fun i hi w' hB => cone1_c W i _ _ _ _ M N w' (by omega) (by omega) (by omega) ((hB.cell (p := ⟨w.heap.size + 1 + 1, 0, none⟩) (by simp only; omega)).trans x2) ((hB.cell (p := ⟨w.heap.size + 1 + 1 + 1, 0, none⟩) (by simp only; omega)).trans x3) ((hB.cell (p := ⟨w.heap.size, 0, none⟩) (by simp only; omega)).trans x0) ((hB.cell (p := ⟨w.heap.size + 1, 0, none⟩) (by simp only; omega)).trans x1) hM hN (HCF.out i hi))
    (fun j hj => by have h := HCF.out j hj; unfold coneOkB at h; simp only [Bool.and_eq_true, beq_iff_eq] at h; exact h.2) hcf_cone)
  have hwl : w.heap.size < w2.heap.size := by omega
  clear x1 x2 x3 hn hb12
  go_wp2_with (go_at_call 76; ((with_reducible refine (HM.out).mono ?_); rintro e w3 ⟨b, cap, rfl, hb, hF, hB⟩); have tQ2 := tQ1.below hB; have q0 := tQ2.c0; have q1 := tQ2.c1; have q2 := tQ2.c2; have ql := tQ2.lt; have qf0 := tQ2.fr 0; have qf1 := tQ2.fr 1; have qf2 := tQ2.fr 2)
  refine bodyPost_ret (v := .tuple #[.agg #[.int .i64 W, .int .i64 D, .slice (some ⟨b, 0, none⟩) n cap], .bool true]) (by simp [results, Try.results40, go_sem, *] <;> (first | rfl | exact ⟨rfl, rfl⟩ | exact ⟨rfl, rfl, rfl⟩ | exact ⟨rfl, rfl, rfl, rfl⟩)) rfl ?_
  have kq : Keep1 (w.heap.size + 1 + 1 + 1 + 1) w3 (((w3.setCell ⟨w.heap.size + 1 + 1 + 1 + 1, 0, none⟩ (.int .i64 W)).setCell ⟨w.heap.size + 1 + 1 + 1 + 1, 1, none⟩ (.int .i64 D)).setCell ⟨w.heap.size + 1 + 1 + 1 + 1, 2, none⟩ (.slice (some ⟨b, 0, none⟩) n cap)) := Keep1.set (Keep1.set (Keep1.set (Keep1.refl _ _) _) _) _
  have hBe := hB2.trans (hB.mono (by omega))
  exact ⟨b, cap, rfl, ⟨by omega, by simpa [World.setCell] using hb.2⟩, hF.keep1 hb.2 kq (by omega), ((hBe.setCell (p := ⟨w.heap.size + 1 + 1 + 1 + 1, 0, none⟩) (by simp only; omega) _).setCell (p := ⟨w.heap.size + 1 + 1 + 1 + 1, 1, none⟩) (by simp only; omega) _).setCell (p := ⟨w.heap.size + 1 + 1 + 1 + 1, 2, none⟩) (by simp only; omega) _⟩
end Go.Proofs.Ytpajakindpbepaa
