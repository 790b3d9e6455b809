/- A walk along legs. No condition. -/
import Derived.Test.YtnkfbinppikhkaaWkO
import Derived.Test.YtnkfbinppikhkaaLoof
namespace Go.Proofs.Ytnkfbinppikhkaa
open Go.RowKit Go.Deep
set_option linter.unusedSimpArgs false
def cxV (X Y : Nat → Nat) (xs : List Value) (m : Nat) : Prop := ∀ j, j < m → ∃ r s, xs[j]? = some (.complex .f32 r s) ∧ cn .f32 r = X j ∧ cn .f32 s = Y j
theorem cxV.snoc {X Y : Nat → Nat} {xs : List Value} {m r s : Nat} (h : cxV X Y xs m) (hl : xs.length = m) (h1 : cn .f32 r = X m) (h2 : cn .f32 s = Y m) : cxV X Y (xs ++ [.complex .f32 r s]) (m + 1) := fun j hj => by
  by_cases e : j = m
  · subst e
    exact ⟨r, s, by rw [List.getElem?_append_right (by omega), hl, Nat.sub_self]; rfl, h1, h2⟩
  · obtain ⟨r', s', e1, e2⟩ := h j (by omega)
    exact ⟨r', s', by rw [List.getElem?_append_left (by omega)]; exact e1, e2⟩
theorem cxV.arg {w : World} {lo n : Nat} {v : Value} {xs : List Value} {X Y : Nat → Nat} (h : w.ownsRow lo 32 1 v n xs) (hx : cxV X Y xs n) : ∃ A c, v = .slice A n c ∧ CxArg w A n X Y := (carr_of h hx).arg
/-- A row of complex numbers that is returned. -/
def CxRes (n : Nat) (X Y : Nat → Nat) (w : World) (e : Ending) (w' : World) : Prop := ∃ A c, e = .returned (.tuple #[.slice A n c, .bool true]) ∧ CxArg w' A n X Y ∧ Below w.heap.size w w'
theorem w_all {n : Nat} {a b : Nat → Int} (h : Mk n a b) : allC (wX a b) (wY a b) n = true := allB_true fun j hj => by
  obtain ⟨h1, h2⟩ := w_near h j hj
  unfold finC
  rw [(fin_num _).2 h1.1, (fin_num _).2 h2.1]
  rfl
set_option maxRecDepth 100000 in
set_option maxHeartbeats 8000000 in
theorem walkLegs_c (A : Option Addr) (n c x y : Nat) (a b : Nat → Int) (w : World) (hM : Mk n a b) (hx : cn .f32 x = qz (a 0)) (hy : cn .f32 y = qz (b 0)) (hA : LgArg w A (n - 1) (lT a b) (lL a b)) :
    Calls Try.prog 8 #[.complex .f32 x y, .slice A (n - 1) c] w (CxRes n (wX a b) (wY a b) w) := by
  have h2 := hM.n2
  have h9 := hM.n9
  obtain ⟨i0, hi0, hI0, hI1, hI2⟩ := info_parts info_c64
  have hfc : finC (qz (a 0)) (qz (b 0)) = true := by
    have := mk_all hM
    exact allB_of this 0 (by omega)
  have HFC := Lib.hid (hfc ▸ iCFinite_c x y _ _ hx hy w)
  have HLg := Lib.hid (fun w' (hb : Below w.heap.size w w') => areLegs_c A (n - 1) c _ _ w' (by omega) (by omega) (hA.below hb) (fun j hj => leg_lgF hM (by omega)))
  have HM := Lib.hid hM
  have HA := Lib.hid hA
  have HALL := Lib.hid (w_all hM)
  clear hA hM hfc
  go_enter Try.func8, Try.ntmps8
  go_wp2_with (first | (go_at_call 21; ((with_reducible refine (HFC.out).mono ?_); rintro e w1 ⟨⟨v, rfl, rfl⟩, hb1⟩)) | (go_at_call 10; ((with_reducible refine (HLg.out _ hb1).mono ?_); rintro e w2 ⟨⟨v, rfl, rfl⟩, hb2⟩; have hB2 := hb1.trans (hb2.mono hb1.size); have HB2 := Lib.hid hB2; clear hB2)))
  have hs2 := HB2.out.size
  go_loopw [6, 21] (fun v k wr => ∃ (m : Nat) (xs : List Value), m ≤ n - 1 ∧ k = .int .i64 (m : Int) ∧ wr.ownsRow w2.heap.size 32 1 v (m + 1) xs ∧ cxV (wX a b) (wY a b) xs (m + 1) ∧ Below w2.heap.size w2 wr) (fun _ k _ => n - (intOf k).toNat)
  case atStart => exact ⟨0, [.complex .f32 x y], by omega, rfl, ⟨rfl, .inr ⟨_, 1, #[.complex .f32 x y], rfl, Nat.le_refl _, heap_alloc_new _ _, Nat.le_refl _, by simp [maxLen], rfl, rfl⟩⟩, fun j hj => by
    obtain rfl : j = 0 := by omega
    exact ⟨x, y, rfl, hx, hy⟩, (Below.refl _ _).alloc (Nat.le_refl _) _⟩
  case round =>
    rename World => wO
    obtain ⟨m, xs, hm, rfl, hown, hxs, hB⟩ := hrel
    have hsO := hB.size
    have HXS := Lib.hid hxs
    have HB := Lib.hid hB
    have HOWN := Lib.hid hown
    have hl := hown.1
    by_cases hlt : m < n - 1
    · have hlt' : (m : Int) < ((n - 1 : Nat) : Int) := by omega
      obtain ⟨g, rfl, hg, tu, lo, c0, c1, hT, hL, otu, olo⟩ := HA.out.below (HB2.out.trans (hB.mono hs2)) m hlt
      obtain ⟨-, -, -, k⟩ := leg_facts HM.out (show m + 1 < n by omega)
      have HK := Lib.hid k
      have HW := Lib.hid (show num .f32 (wX a b (m + 1)) ∧ num .f32 (wY a b (m + 1)) from ⟨(w_near HM.out (m + 1) (by omega)).1.1, (w_near HM.out (m + 1) (by omega)).2.1⟩)
      obtain ⟨q, cap, rfl, hq1, hq2⟩ := hown.form (by omega)
      obtain ⟨r, s, er, hr, hs⟩ := hxs m (by omega)
      have d0 := hown.cells (g := q) rfl m _ er
      have ha : (⟨q, 0, none⟩ : Addr).add m = ⟨q, m, none⟩ := by unfold Addr.add; split <;> simp_all
      rw [ha] at d0
      clear hown hxs hB er ha
      go_upto_region 7 with fail
      refine absw (fun V hV => ?_)
      have z0 : V.cell? ⟨wO.heap.size, 0, none⟩ = some (.float .f32 tu) := by rw [hV]; simp
      have z1 : V.cell? ⟨wO.heap.size, 1, none⟩ = some (.float .f32 lo) := by rw [hV]; simp
      have BV : Below wO.heap.size wO V := by rw [hV]; exact (Below.refl _ _).alloc (Nat.le_refl _) _
      have hsV : V.heap.size = wO.heap.size + 1 := by rw [hV]; simp
      have zl : wO.heap.size < V.heap.size := by omega
      have d1 := (BV.cell (p := ⟨q, m, none⟩) hq2).trans d0
      have ql : q < V.heap.size := by omega
      have HBV := Lib.hid BV
      have hi1 : 0 ≤ (m : Int) := by omega
      have hi2 : (m : Int) < (m : Int) + 1 := by omega
      clear hV hsV c0 c1 d0 BV
      have b0 : V.heap.size ≤ V.drew.heap.size := Nat.le_refl _
      go_region_law (first
        | (go_simp; go_at_call 24; refine (wayOf_c _ _ hT HK.out.ph V.drew).mono ?_; rintro e wA ⟨⟨v, rfl, wx, wy, rfl, hwx, hwy, owx, owy⟩, hbA⟩; have hA1 : Below V.heap.size V wA := ⟨hbA.os, hbA.tape, hbA.output, hbA.size, hbA.block⟩; have dA := (hA1.cell (p := ⟨q, m, none⟩) ql).trans d1; have zA0 := (hA1.cell (p := ⟨wO.heap.size, 0, none⟩) zl).trans z0; have zA1 := (hA1.cell (p := ⟨wO.heap.size, 1, none⟩) zl).trans z1; have qA := Nat.lt_of_lt_of_le ql hA1.size; have lA := Nat.lt_of_lt_of_le zl hA1.size; dsimp only)
        | (go_simp; go_at_call 23; refine (scale_c _ _ _ _ _ _ hwx hwy hL wA).mono ?_; rintro e wB ⟨⟨v, rfl, sx, sy, rfl, hsx, hsy, osx, osy⟩, hbB⟩; have hB1 := hA1.trans (hbB.mono hA1.size); have dB := (hB1.cell (p := ⟨q, m, none⟩) ql).trans d1; have qB := Nat.lt_of_lt_of_le ql hB1.size; dsimp only)
        | (go_simp; go_at_call 22; refine (plus_c _ _ _ _ _ _ _ _ hr hs hsx hsy wB).mono ?_; rintro e wC ⟨⟨v, rfl, px, py, rfl, hpx, hpy, opx, opy⟩, hbC⟩; have hC1 := hB1.trans (hbC.mono hB1.size); have own1 := own_below HOWN.out (HBV.out.trans (hC1.mono HBV.out.size)); have hsC := (HBV.out.trans (hC1.mono HBV.out.size)).size; dsimp only)
        | (refine step_append_lies _ rfl (.tmp 26) (.tmp 38) 25 rfl w2.heap.size 32 i0 (.complex .f32 0 0) 1 8 Try.underlying25 hi0 hI0 hI1 hI2 rfl (by decide) _ _ _ rfl (own1.alloc _) _ _ _ [.complex .f32 px py] rfl rfl (cell_one_new _ _ _) (by intro u hu; simp at hu; subst hu; rfl) (by omega) (by unfold maxLen; omega) (by omega) (by simp; omega) _ rfl ?_; intro gN cap5 w5 hown5 hgrow5 hlies5 hlt5))
      all_goals
        have hfin : Below w2.heap.size w2 w5 := ((HB.out.trans ((HBV.out.trans (hC1.mono HBV.out.size)).mono hsO)).alloc (by omega) _).grown hgrow5 (by simp; omega) (fun j hj => (own1.lt j hj).1)
        have HFIN := Lib.hid hfin
        have HO5 := Lib.hid hown5
        clear hfin hown5 hgrow5 hlies5 hA1 dA zA0 zA1 qA lA hB1 dB qB hC1 own1 hbA hbB hbC
        go_wp2
        go_roundw
        case rel => exact ⟨m + 1, _, by omega, by go_num, HO5.out, HXS.out.snoc (by omega) hpx hpy, HFIN.out⟩
        case measure => first | (simp [intOf]; done) | (simp [intOf]; omega)
    · obtain rfl : m = n - 1 := by omega
      have hlt' : ¬ (((n - 1 : Nat) : Int) < ((n - 1 : Nat) : Int)) := by omega
      have e1 : n - 1 + 1 = n := by omega
      rw [e1] at hown hxs
      obtain ⟨A2, c2, rfl, hL⟩ := cxV.arg hown hxs
      have HL := Lib.hid hL
      have HF := Lib.hid (finitePoints_c A2 n c2 _ _ wO (by omega) hL HALL.out)
      clear hL hown hxs hB
      go_wp2_with (go_at_call 25; ((with_reducible refine (HF.out).mono ?_); rintro e w3 ⟨⟨v, rfl, rfl⟩, hb3⟩))
      go_ret2
      exact ⟨A2, c2, rfl, HL.out.below hb3, HB2.out.trans ((HB.out.trans (hb3.mono hsO)).mono hs2)⟩
end Go.Proofs.Ytnkfbinppikhkaa
