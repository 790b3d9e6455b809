/- Where a level crosses a side of a cell: contracts in both spellings. No condition. -/
import Derived.Test.YtbnnpeecajjipaaGX
import Derived.Test.YtbnnpeecajjipaaSees
namespace Go.Proofs.Ytbnnpeecajjipaa
open Go.RowKit
set_option linter.unusedSimpArgs false
/-- The share at which level E is crossed between two places. -/
def mtT (X : Nat → Nat) (E i k : Nat) : Nat := fop .quo .f32 (fop .sub .f32 E (X i)) (fop .sub .f32 (X k) (X i))
def mtX (X : Nat → Nat) (W E a b : Nat) : Nat := mixF (fofI .f32 ((min a b : Nat) % (W : Int))) (fofI .f32 ((max a b : Nat) % (W : Int))) (mtT X E (min a b) (max a b))
def mtY (X : Nat → Nat) (W E a b : Nat) : Nat := mixF (fofI .f32 ((min a b : Nat) / (W : Int))) (fofI .f32 ((max a b : Nat) / (W : Int))) (mtT X E (min a b) (max a b))
theorem l00Max_c (a b r : Nat) (h : r = max a b) (w : World) : Calls Try.prog 86 #[.int .i64 (a : Int), .int .i64 (b : Int)] w (Ret (RV (.int .i64 (r : Int))) w) := by
  by_cases hc : (b : Int) < (a : Int)
  · obtain rfl : r = a := by omega
    clear h
    go_enter Try.func86, Try.ntmps86
    go_wp2
    go_ret
    exact ⟨⟨_, rfl, rfl⟩, Below.refl _ _⟩
  · obtain rfl : r = b := by omega
    clear h
    go_enter Try.func86, Try.ntmps86
    go_wp2
    go_ret
    exact ⟨⟨_, rfl, rfl⟩, Below.refl _ _⟩
set_option maxRecDepth 100000 in
set_option maxHeartbeats 4000000 in
theorem l06Meet_c (p W b n c a d x E : Nat) (X : Nat → Nat) (w : World) (h1 : 2 ≤ W) (h2 : W ≤ 16) (hnb : n ≤ 256) (c0 : w.cell? ⟨p, 0, none⟩ = some (.int .i64 W)) (c2 : w.cell? ⟨p, 2, none⟩ = some (.slice (some ⟨b, 0, none⟩) n c)) (hbl : b < w.heap.size) (hX : FlCells w b n X) (ha : a < n) (hd : d < n) (hx : cn .f32 x = E) :
    Calls Try.prog 61 #[.pointer (some ⟨p, 0, none⟩), .int .i64 (a : Int), .int .i64 (d : Int), .float .f32 x] w (Ret (RC (mtX X W E a d) (mtY X W E a d)) w) := by
  have hpl := block_lt_of_cell c0
  simp only at hpl
  obtain ⟨i, hi⟩ : ∃ i, i = min a d := ⟨_, rfl⟩
  obtain ⟨k, hk⟩ : ∃ k, k = max a d := ⟨_, rfl⟩
  have HMin := Lib.hid (fun w => l00Min_c a d i hi w)
  have HMax := Lib.hid (fun w => l00Max_c a d k hk w)
  have hin : i < n := by omega
  have hkn : k < n := by omega
  have HP := Lib.hid (fun (w' : World) (hB : Below w.heap.size w w') (j : Nat) (hj : j < n) => l06Place_c p W j (by omega) (by omega) (by omega) w' ((hB.cell (p := ⟨p, 0, none⟩) hpl).trans c0))
  obtain ⟨r0, x0, e0⟩ := hX i hin
  obtain ⟨r1, x1, e1⟩ := hX k hkn
  have HRX := Lib.hid (show mtX X W E a d = mixF (fofI .f32 ((i : Int) % (W : Int))) (fofI .f32 ((k : Int) % (W : Int))) (mtT X E i k) by subst hi hk; rfl)
  have HRY := Lib.hid (show mtY X W E a d = mixF (fofI .f32 ((i : Int) / (W : Int))) (fofI .f32 ((k : Int) / (W : Int))) (mtT X E i k) by subst hi hk; rfl)
  have hii : (i : Int) < (n : Int) := by omega
  have hki : (k : Int) < (n : Int) := by omega
  have X0 := Lib.hid x0
  have X1 := Lib.hid x1
  have C2 := Lib.hid c2
  clear hX hi hk x0 x1 c0 c2
  go_enter Try.func61, Try.ntmps61
  go_upto_region 3 with (first | (go_at_call 85; ((with_reducible refine (HMin.out _).mono ?_); rintro e w1 ⟨⟨v, rfl, rfl⟩, hb1⟩)) | (go_at_call 86; ((with_reducible refine (HMax.out _).mono ?_); rintro e w2 ⟨⟨v, rfl, rfl⟩, hb2⟩)))
  have hB2 := hb1.trans (hb2.mono hb1.size)
  go_upto_region 4 with (go_at_call 71; ((with_reducible refine (HP.out _ hB2 i hin).mono ?_); rintro e w3 ⟨rfl, hb3⟩))
  have hB3 := hB2.trans (hb3.mono hB2.size)
  go_upto_region 5 with (go_at_call 71; ((with_reducible refine (HP.out _ hB3 k hkn).mono ?_); rintro e w4 ⟨rfl, hb4⟩))
  have hB4 := hB3.trans (hb4.mono hB3.size)
  have q2 := (hB4.cell (p := ⟨p, 2, none⟩) hpl).trans C2.out
  have y0 := (hB4.cell (p := ⟨b, i, none⟩) hbl).trans X0.out
  have y1 := (hB4.cell (p := ⟨b, k, none⟩) hbl).trans X1.out
  have pl4 := Nat.lt_of_lt_of_le hpl hB4.size
  have bl4 := Nat.lt_of_lt_of_le hbl hB4.size
  have HB4 := Lib.hid hB4
  have hs4 := hB4.size
  clear hb1 hb2 hb3 hb4 hB2 hB3 hB4
  (apply region_looseK (k := 26); (kernel_rfl); (kernel_rfl); intro opsL KL hopsL hKL; (dsimp only [List.take]))
  iterate 8 (apply rel_val; (rfl); (intro wq hbq; have hcq := (bcell hbq).1; (go_simp; first | done | rfl | exact ⟨rfl, rfl⟩)); (try go_simp))
  (apply rel_farith; (rfl); (rfl); (rfl); (rfl); (rfl); (assumption); (assumption); intro r hr hw; (try go_simp))
  iterate 14 (apply rel_val; (rfl); (intro wq hbq; have hcq := (bcell hbq).1; (go_simp; first | done | rfl | exact ⟨rfl, rfl⟩)); (try go_simp))
  (apply rel_farith; (rfl); (rfl); (rfl); (rfl); (rfl); (assumption); (assumption); intro r hr hw; (try go_simp))
  (apply rel_farith; (rfl); (rfl); (rfl); (rfl); (rfl); (assumption); (assumption); intro r hr hw; (try go_simp))
  (apply rel_of; rotate_left; (rfl); (intro wq hbq; have hcq := (bcell hbq).1; (go_simp; first | done | rfl | exact ⟨rfl, rfl⟩)); rotate_right; (exact RF.mk (by assumption) (by assumption)); (try go_simp); rintro v ⟨r, rfl, hr, hw⟩)
  have hT : cn .f32 r = mtT X E i k := by rw [hr]; rfl
  have hoT := hw
  (refine wpRel_nil ?_; refine hKL _ _ ?_; clear hKL hopsL opsL KL; intro w1 hb hnews; obtain ⟨hc, hfz⟩ := bcell hb; (try simp only [World.heap_drewN] at hc hfz); have hz := hb.size; (dsimp only [List.drop]))
  have hB5 := HB4.out.trans (hb.mono hs4)
  have HB5 := Lib.hid hB5
  have hs5 := hB5.size
  clear hb hc hfz hB5 q2 y0 y1 pl4 bl4 e0 e1
  go_wp2_with (first | (refine wpL_csub rfl _ _ _ _ rfl _ _ _ _ rfl rfl ?_; intro cx cy nc hcx hcy hwx hwy) | (refine wpL_cadd rfl _ _ _ _ rfl _ _ _ _ rfl rfl ?_; intro ax ay na hax hay hvx hvy) | (refine wpL_farith rfl _ _ _ _ _ rfl rfl _ _ _ rfl rfl ?_; intro r n hr hw))
  have hzx : cn .f32 ax = mtX X W E a d := by rw [HRX.out, hax]; simp only [*, cn_fofI]; rfl
  have hzy : cn .f32 ay = mtY X W E a d := by rw [HRY.out, hay]; simp only [*, cn_fofI]; rfl
  go_ret
  exact ⟨⟨_, rfl, _, _, rfl, hzx, hzy, okf_of hvx, okf_of hvy⟩, below_dN HB5.out⟩
set_option maxRecDepth 100000 in
set_option maxHeartbeats 4000000 in
theorem crossing_c (W : Nat) (D : Int) (b n c a d x E : Nat) (X : Nat → Nat) (w : World) (h1 : 2 ≤ W) (h2 : W ≤ 16) (hnb : n ≤ 256) (hbl : b < w.heap.size) (hX : FlCells w b n X) (ha : a < n) (hd : d < n) (hx : cn .f32 x = E) :
    Calls Try.prog 43 #[.agg #[.int .i64 (W : Int), .int .i64 D, .slice (some ⟨b, 0, none⟩) n c], .int .i64 (a : Int), .int .i64 (d : Int), .float .f32 x] w (Ret (RC (mtX X W E a d) (mtY X W E a d)) w) := by
  obtain ⟨i, hi⟩ : ∃ i, i = min a d := ⟨_, rfl⟩
  obtain ⟨k, hk⟩ : ∃ k, k = max a d := ⟨_, rfl⟩
  have hin : i < n := by omega
  have hkn : k < n := by omega
  have HP := Lib.hid (fun (i : Nat) (hi : i < n) => number_c W i D b n c (by omega) (by omega) (by omega))
  obtain ⟨r0, x0, e0⟩ := hX i hin
  obtain ⟨r1, x1, e1⟩ := hX k hkn
  have hN := gtc.newAt (w := w) (p := w.heap.size) (u := .int .i64 (W : Int)) (v := .int .i64 D) (z := .slice (some ⟨b, 0, none⟩) n c) rfl
  have hb0 : Below w.heap.size w (w.alloc (.cells #[.int .i64 (W : Int), .int .i64 D, .slice (some ⟨b, 0, none⟩) n c] 30)) := by (with_reducible repeat (first | exact Below.refl _ _ | apply below_alloc | apply below_dN | apply below_d | refine below_setCell ?_ (by dsimp only; omega) | refine below_call (by assumption) ?_))
  have HRX := Lib.hid (show mtX X W E a d = mixF (fofI .f32 ((i : Int) % (W : Int))) (fofI .f32 ((k : Int) % (W : Int))) (mtT X E i k) by subst hi hk; rfl)
  have HRY := Lib.hid (show mtY X W E a d = mixF (fofI .f32 ((i : Int) / (W : Int))) (fofI .f32 ((k : Int) / (W : Int))) (mtT X E i k) by subst hi hk; rfl)
  have hmn : ∀ (inst : Decidable (d < a)), @ite _ (d < a) inst (d : Int) (a : Int) = (i : Int) := by intro inst; split <;> omega
  have hmx : ∀ (inst : Decidable (a < d)), @ite _ (a < d) inst (d : Int) (a : Int) = (k : Int) := by intro inst; split <;> omega
  have hii : (i : Int) < (n : Int) := by omega
  have hki : (k : Int) < (n : Int) := by omega
  have X0 := Lib.hid x0
  have X1 := Lib.hid x1
  have HN := Lib.hid hN
  have HB0 := Lib.hid hb0
  clear hX x0 x1 hN hb0
  go_enter Try.func43, Try.ntmps43
  go_upto_region 2 with fail
  simp only [← hi, ← hk]
  clear hi hk
  refine abs_world (fun V hV => ?_)
  have hVs : V.heap.size = w.heap.size + 1 := by rw [hV]; simp
  have tV : gtc V w.heap.size (.int .i64 (W : Int)) (.int .i64 D) (.slice (some ⟨b, 0, none⟩) n c) := by rw [hV]; exact HN.out
  have hBV : Below w.heap.size w V := by rw [hV]; exact HB0.out
  have y0 := (hBV.cell (p := ⟨b, i, none⟩) hbl).trans X0.out
  have y1 := (hBV.cell (p := ⟨b, k, none⟩) hbl).trans X1.out
  have q2 := tV.c2
  have ql := tV.lt
  have bl := Nat.lt_of_lt_of_le hbl hBV.size
  have HTV := Lib.hid tV
  have HBV := Lib.hid hBV
  clear hV tV hBV hmn hmx
  (apply region_looseK (k := 20); (kernel_rfl); (kernel_rfl); intro opsL KL hopsL hKL; (dsimp only [List.take]))
  iterate 6 (apply rel_val; (rfl); (intro wq hbq; have hcq := (bcell hbq).1; (go_simp; first | done | rfl | exact ⟨rfl, rfl⟩)); (try go_simp))
  (apply rel_farith; (rfl); (rfl); (rfl); (rfl); (rfl); (assumption); (assumption); intro r hr hw; (try go_simp))
  iterate 10 (apply rel_val; (rfl); (intro wq hbq; have hcq := (bcell hbq).1; (go_simp; first | done | rfl | exact ⟨rfl, rfl⟩)); (try go_simp))
  (apply rel_farith; (rfl); (rfl); (rfl); (rfl); (rfl); (assumption); (assumption); intro r hr hw; (try go_simp))
  (apply rel_farith; (rfl); (rfl); (rfl); (rfl); (rfl); (assumption); (assumption); intro r hr hw; (try go_simp))
  (apply rel_of; rotate_left; (rfl); (intro wq hbq; have hcq := (bcell hbq).1; (go_simp; first | done | rfl | exact ⟨rfl, rfl⟩)); rotate_right; (exact RF.mk (by assumption) (by assumption)); (try go_simp); rintro v ⟨r, rfl, hr, hw⟩)
  have hT : cn .f32 r = mtT X E i k := by rw [hr]; rfl
  have hoT := hw
  (refine wpRel_nil ?_; refine hKL _ _ ?_; clear hKL hopsL opsL KL; intro w1 hb hnews; obtain ⟨hc, hfz⟩ := bcell hb; (try simp only [World.heap_drewN] at hc hfz); have hz := hb.size; (dsimp only [List.drop]))
  have hB5 := HBV.out.trans (hb.mono (by omega))
  have HB5 := Lib.hid hB5
  have hs5 := hB5.size
  have t5 := HTV.out.below hb
  clear hb hc hfz hB5 q2 y0 y1 ql bl e0 e1
  have q0 := t5.c0
  have q1 := t5.c1
  have q2 := t5.c2
  have ql := t5.lt
  have HMX := Lib.hid (fun w => mixed_c _ _ _ _ r _ _ _ _ _ (cn_fofI .f32 ((i : Int) % (W : Int))) (cn_fofI .f32 ((i : Int) / (W : Int))) (cn_fofI .f32 ((k : Int) % (W : Int))) (cn_fofI .f32 ((k : Int) / (W : Int))) hT w)
  go_upto_region 3 with fail
  (apply region_looseK (k := 9); (kernel_rfl); (kernel_rfl); intro opsL KL hopsL hKL; (dsimp only [List.take]))
  iterate 2 (apply rel_val; (rfl); (intro wq hbq; have hcq := (bcell hbq).1; (go_simp; first | done | rfl | exact ⟨rfl, rfl⟩)); (try go_simp))
  (apply rel_call (RV (.complex .f32 (fofI .f32 ((i : Int) % (W : Int))) (fofI .f32 ((i : Int) / (W : Int))))); (rfl); (intro wq hbq; (go_simp; first | done | rfl | exact ⟨rfl, rfl⟩)); (intro wq hbq; exact Ret.of_below (HP.out i hin _) rfl); (try go_simp))
  rintro v rfl
  iterate 2 (apply rel_val; (rfl); (intro wq hbq; have hcq := (bcell hbq).1; (go_simp; first | done | rfl | exact ⟨rfl, rfl⟩)); (try go_simp))
  (apply rel_call (RV (.complex .f32 (fofI .f32 ((k : Int) % (W : Int))) (fofI .f32 ((k : Int) / (W : Int))))); (rfl); (intro wq hbq; (go_simp; first | done | rfl | exact ⟨rfl, rfl⟩)); (intro wq hbq; exact Ret.of_below (HP.out k hkn _) rfl); (try go_simp))
  rintro v rfl
  (apply rel_val; (rfl); (intro wq hbq; have hcq := (bcell hbq).1; (go_simp; first | done | rfl | exact ⟨rfl, rfl⟩)); (try go_simp))
  (apply rel_call (RC (mtX X W E a d) (mtY X W E a d)); (rfl); (intro wq hbq; (go_simp; first | done | rfl | exact ⟨rfl, rfl⟩)); (intro wq hbq; exact (HRX.out.symm ▸ HRY.out.symm ▸ HMX.out _)); (try go_simp))
  rintro v ⟨ax, ay, rfl, hax, hay, hox, hoy⟩
  (apply rel_of (RC (mtX X W E a d) (mtY X W E a d)); rotate_left; (rfl); (intro wq hbq; have hcq := (bcell hbq).1; (go_simp; first | done | rfl | exact ⟨rfl, rfl⟩)); rotate_right; (exact ⟨_, _, rfl, hax, hay, hox, hoy⟩); (try go_simp))
  clear hax hay hox hoy
  rintro v ⟨ax, ay, rfl, hax, hay, hox, hoy⟩
  (refine wpRel_nil ?_; refine hKL _ _ ?_; clear hKL hopsL opsL KL; intro w1 hb hnews; obtain ⟨hc, hfz⟩ := bcell hb; (try simp only [World.heap_drewN] at hc hfz); have hz := hb.size; (dsimp only [List.drop]))
  go_wp2
  go_ret
  exact ⟨⟨_, rfl, _, _, rfl, hax, hay, hox, hoy⟩, HB5.out.trans (hb.mono hs5)⟩
end Go.Proofs.Ytbnnpeecajjipaa
