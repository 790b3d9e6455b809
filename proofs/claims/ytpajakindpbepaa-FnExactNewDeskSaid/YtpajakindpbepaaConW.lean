/- A cone's grid, whose heights may be written. No condition. -/
import Derived.Test.YtpajakindpbepaaCon
import Derived.Test.YtpajakindpbepaaMadW
namespace Go.Proofs.Ytpajakindpbepaa
open Go.RowKit Go.IntWalk
set_option linter.unusedSimpArgs false
set_option maxRecDepth 100000 in
set_option maxHeartbeats 4000000 in
theorem coneGridW_c (W D n M N : Nat) (w : World) (h1 : 2 ≤ W) (h2 : W ≤ 16) (h3 : 2 ≤ D) (h4 : D ≤ 16) (hn : W * D = n) (hM : cn .f32 M = M) (hN : cn .f32 N = N) (fM : fin .f32 M = true) (fN : fin .f32 N = true) (hok : ∀ j, j < n → coneOkB M N (j % W) (j / W) = true) :
    Calls Try.prog 40 #[.int .i64 (W : Int), .int .i64 (D : Int), .complex .f32 M N, .float .f32 1082130432, .float .f32 1065353216] w (MGw W D n (fun j => coneM M N (j % W) (j / W)) w) := by
  have hnb : n ≤ 16 * 16 := by rw [← hn]; exact Nat.mul_le_mul h2 h4
  have hSd := fun w' => areSides_c (W : Int) (D : Int) w'
  have hsd : sidesOk (W : Int) (D : Int) = true := by unfold sidesOk; simp; omega
  rw [hsd] at hSd
  have HSd := Lib.hid hSd
  have HFC := Lib.hid (fun w => isFinC_c M N w (by rw [hM]; exact fM) (by rw [hN]; exact fN))
  have haf := fun g w h0 h1 => two_fin g 1082130432 1065353216 1082130432 1065353216 w h0 h1 (by decide +kernel) (by decide +kernel)
  rw [show (fin .f32 1082130432 && fin .f32 1065353216) = true by decide +kernel] at haf
  have HAF := Lib.hid haf
  have HCF := Lib.hid hok
  clear hSd hsd haf hok
  go_enter Try.func40, Try.ntmps40
  go_upto_region 1 with fail
  refine absw (fun V hV => ?_)
  have hs1 : V.heap.size = w.heap.size + 1 + 1 + 1 + 1 + 1 := by rw [hV]; simp
  have x0 : V.cell? ⟨w.heap.size, 0, none⟩ = some (.int .i64 (W : Int)) := by rw [hV]; exact (((((one_new w _ _ _ rfl).alloc _).alloc _).alloc _).alloc _).cell (i := 0) (by omega)
  have x1 : V.cell? ⟨w.heap.size + 1, 0, none⟩ = some (.complex .f32 M N) := by rw [hV]; exact ((((one_new _ _ _ _ (by simp)).alloc _).alloc _).alloc _).cell (i := 0) (by omega)
  have x2 : V.cell? ⟨w.heap.size + 1 + 1, 0, none⟩ = some (.float .f32 1082130432) := by rw [hV]; exact (((one_new _ _ _ _ (by simp)).alloc _).alloc _).cell (i := 0) (by omega)
  have x3 : V.cell? ⟨w.heap.size + 1 + 1 + 1, 0, none⟩ = some (.float .f32 1065353216) := by rw [hV]; exact ((one_new _ _ _ _ (by simp)).alloc _).cell (i := 0) (by omega)
  have tQ1 : gtc V (w.heap.size + 1 + 1 + 1 + 1) (.int .i64 0) (.int .i64 0) (.slice none 0 0) := by rw [hV]; exact gtc.newAt (by simp)
  have hB1 : Below w.heap.size w V := by rw [hV]; (with_reducible repeat (first | exact Below.refl _ _ | apply below_alloc | apply below_dN | apply below_d | refine below_setCell ?_ (by dsimp only; omega) | refine below_call (by assumption) ?_))
  have X0 := Lib.hid x0
  have X1 := Lib.hid x1
  have X2 := Lib.hid x2
  have X3 := Lib.hid x3
  have HTQ := Lib.hid tQ1
  have HB1 := Lib.hid hB1
  clear hV tQ1 hB1
  go_upto_region 3 with (first | (go_at_call 75; ((with_reducible refine (HSd.out _).mono ?_); rintro e w' ⟨rfl, rfl⟩)) | (go_at_call 78; ((with_reducible refine (HFC.out _).mono ?_); rintro e w1 ⟨⟨v, rfl, rfl⟩, hb1⟩; have y2 := (hb1.cell (p := ⟨w.heap.size + 1 + 1, 0, none⟩) (by simp only; omega)).trans X2.out; have y3 := (hb1.cell (p := ⟨w.heap.size + 1 + 1 + 1, 0, none⟩) (by simp only; omega)).trans X3.out)) | (go_at_call 79; (refine Calls.mono (HAF.out _ _ (by simp) (by simp)) ?_); rintro e w2 ⟨⟨v, rfl, rfl⟩, hb2⟩))
  have hb12 := hb1.trans (((Below.refl w1.heap.size w1).alloc (Nat.le_refl _) _ |>.trans (hb2.mono (by simp))).mono hb1.size)
  clear hb1 hb2 x0 x1 x2 x3 y2 y3
  have hs2 := hb12.size
  have x0 := (hb12.cell (p := ⟨w.heap.size, 0, none⟩) (by first | omega | (simp only; omega))).trans X0.out
  have x1 := (hb12.cell (p := ⟨w.heap.size + 1, 0, none⟩) (by first | omega | (simp only; omega))).trans X1.out
  have x2 := (hb12.cell (p := ⟨w.heap.size + 1 + 1, 0, none⟩) (by first | omega | (simp only; omega))).trans X2.out
  have x3 := (hb12.cell (p := ⟨w.heap.size + 1 + 1 + 1, 0, none⟩) (by first | omega | (simp only; omega))).trans X3.out
  have hB2 := HB1.out.trans (hb12.mono (by omega))
  have tQ1 := HTQ.out.below hb12
  have HM := Lib.hid (madeGridW_c 80 #[.pointer (some ⟨w.heap.size + 1 + 1, 0, none⟩), .pointer (some ⟨w.heap.size + 1 + 1 + 1, 0, none⟩), .pointer (some ⟨w.heap.size, 0, none⟩), .pointer (some ⟨w.heap.size + 1, 0, none⟩)] W D n (fun j => coneM M N (j % W) (j / W)) w2 h1 h2 h3 h4 hn
    (fun j hj => by have h := HCF.out j hj; unfold coneOkB at h; simp only [Bool.and_eq_true] at h; exact h.1.2)
    (fun i hi w' hB => cone1_c W i _ _ _ _ M N w' (by omega) (by omega) (by omega) ((hB.cell (p := ⟨w.heap.size + 1 + 1, 0, none⟩) (by simp only; omega)).trans x2) ((hB.cell (p := ⟨w.heap.size + 1 + 1 + 1, 0, none⟩) (by simp only; omega)).trans x3) ((hB.cell (p := ⟨w.heap.size, 0, none⟩) (by simp only; omega)).trans x0) ((hB.cell (p := ⟨w.heap.size + 1, 0, none⟩) (by simp only; omega)).trans x1) hM hN (HCF.out i hi))
    (fun j hj => by have h := HCF.out j hj; unfold coneOkB at h; simp only [Bool.and_eq_true, beq_iff_eq] at h; exact h.2) hcf_cone)
  have hwl : w.heap.size < w2.heap.size := by omega
  clear x1 x2 x3 hn hb12
  go_wp2_with (go_at_call 76; ((with_reducible refine (HM.out).mono ?_); rintro e w3 ⟨b, cap, rfl, hb, hF, hB⟩); have tQ2 := tQ1.below hB; have q0 := tQ2.c0; have q1 := tQ2.c1; have q2 := tQ2.c2; have ql := tQ2.lt; have qf0 := tQ2.fr 0; have qf1 := tQ2.fr 1; have qf2 := tQ2.fr 2)
  refine bodyPost_ret (v := .tuple #[.agg #[.int .i64 W, .int .i64 D, .slice (some ⟨b, 0, none⟩) n cap], .bool true]) (by simp [results, Try.results40, go_sem, *] <;> (first | rfl | exact ⟨rfl, rfl⟩ | exact ⟨rfl, rfl, rfl⟩ | exact ⟨rfl, rfl, rfl, rfl⟩)) rfl ?_
  have kq : Keep1 (w.heap.size + 1 + 1 + 1 + 1) w3 (((w3.setCell ⟨w.heap.size + 1 + 1 + 1 + 1, 0, none⟩ (.int .i64 W)).setCell ⟨w.heap.size + 1 + 1 + 1 + 1, 1, none⟩ (.int .i64 D)).setCell ⟨w.heap.size + 1 + 1 + 1 + 1, 2, none⟩ (.slice (some ⟨b, 0, none⟩) n cap)) := Keep1.set (Keep1.set (Keep1.set (Keep1.refl _ _) _) _) _
  have hBe := hB2.trans (hB.mono (by omega))
  exact ⟨b, cap, rfl, ⟨by omega, by simpa [World.setCell] using hb.2⟩, hF.keep1 hb.2 kq (by omega), ((hBe.setCell (p := ⟨w.heap.size + 1 + 1 + 1 + 1, 0, none⟩) (by simp only; omega) _).setCell (p := ⟨w.heap.size + 1 + 1 + 1 + 1, 1, none⟩) (by simp only; omega) _).setCell (p := ⟨w.heap.size + 1 + 1 + 1 + 1, 2, none⟩) (by simp only; omega) _⟩
end Go.Proofs.Ytpajakindpbepaa
