/- Contract of spec.l06At. No condition. -/
import Derived.Test.YtpajakindpbepaaEye
namespace Go.Proofs.Ytpajakindpbepaa
open Go.RowKit
set_option linter.unusedSimpArgs false
theorem raw_of {k : FloatKind} {r Y : Nat} (hn : nanB k Y = false) (h : cn k r = Y) : r = Y := by
  cases hb : nanB k r
  · rw [cn_of hb] at h; exact h
  · rw [cn_nan hb] at h; rw [← h, nanB_qn] at hn; cases hn
theorem run_toint {P : Program} (src dst : TypeId) (s : FloatKind) (k : IntKind) (b : Nat) (n : Int) (w : World) (hs : (P.underlying src).isSome = true) (hd : P.underlying dst = some (.int k)) (h : (s.decode b).toInt .zero = some n) (h1 : k.min ≤ n) (h2 : n ≤ k.max) :
    (convert src dst (.float s b)).run P w = .ok (.int k n) w := by
  obtain ⟨u, hs'⟩ := Option.isSome_iff_exists.1 hs
  cases u <;> simp [convert, run_underlying hs', run_underlying hd, Conv.floatToInt, h, h1, h2]
/-- A float made an int, in a region of open order. -/
theorem rel_toint {P : Program} {ops : Array Oper} {l : List Oper} {o : Oper} {a : Act} {w0 : World} {Q : Act → List New → Prop} {S : List Item'} {acc : List New} (src dst : TypeId) (X : Operand) (ho : o.op = .convert src dst X) (hg : o.guard = none) (k : FloatKind) (r : Nat) (m : Nat) (hX : a.eval X = .float k r) (hs : (P.underlying src).isSome = true) (hd : P.underlying dst = some (.int .i64)) (h : (k.decode r).toInt .zero = some (m : Int)) (hm : m ≤ 1048576)
    (h2 : wpRel P ops w0 Q l S (a.put o.dst (.int .i64 (m : Int))) acc) : wpRel P ops w0 Q (o :: l) ((none, RV (.int .i64 (m : Int))) :: S) a acc :=
  rel_step _ hg (fun w _ => by
    have e := run_toint (P := P) src dst k .i64 r (m : Int) w hs hd h (by show (-9223372036854775808 : Int) ≤ _; omega) (by show _ ≤ (9223372036854775807 : Int); omega)
    have : (execOp a.eval o).run P w = .ok (.value (.int .i64 (m : Int))) w := by
      unfold execOp
      rw [ho]
      simp only [hX, Sem.run_bind, Sem.run_pure, Result.andThen_ok, e]
    rw [this]
    exact ⟨Below.refl _ _, rfl⟩) fun v hv => by rw [show v = _ from hv]; exact h2
theorem l00Min_c (a b r : Nat) (h : r = min a b) (w : World) : Calls Try.prog 113 #[.int .i64 (a : Int), .int .i64 (b : Int)] w (Ret (RV (.int .i64 (r : Int))) w) := by
  by_cases c : (a : Int) < (b : Int)
  · obtain rfl : r = a := by omega
    clear h
    go_enter Try.func113, Try.ntmps113
    go_wp2
    go_ret
    exact ⟨⟨_, rfl, rfl⟩, by (with_reducible repeat (first | exact Below.refl _ _ | apply below_alloc | apply below_dN | apply below_d | refine below_setCell ?_ (by dsimp only; omega) | refine below_call (by assumption) ?_))⟩
  · obtain rfl : r = b := by omega
    clear h
    go_enter Try.func113, Try.ntmps113
    go_wp2
    go_ret
    exact ⟨⟨_, rfl, rfl⟩, by (with_reducible repeat (first | exact Below.refl _ _ | apply below_alloc | apply below_dN | apply below_d | refine below_setCell ?_ (by dsimp only; omega) | refine below_call (by assumption) ?_))⟩
set_option maxRecDepth 100000 in
set_option maxHeartbeats 8000000 in
theorem l06At_c (p W D b n c a a' P Q : Nat) (X : Nat → Nat) (w : World) (h1 : 2 ≤ W) (h2 : W ≤ 16) (h3 : 2 ≤ D) (h4 : D ≤ 16) (hn : n = W * D) (c0 : w.cell? ⟨p, 0, none⟩ = some (.int .i64 W)) (c1 : w.cell? ⟨p, 1, none⟩ = some (.int .i64 D)) (c2 : w.cell? ⟨p, 2, none⟩ = some (.slice (some ⟨b, 0, none⟩) n c)) (hbl : b < w.heap.size) (hX : FlCells w b n X)
    (ha : cn .f32 a = P) (ha' : cn .f32 a' = Q) (hP : inn .f32 P 0 ((W - 1 : Nat) : Rat)) (hQ : inn .f32 Q 0 ((D - 1 : Nat) : Rat)) :
    Calls Try.prog 108 #[.pointer (some ⟨p, 0, none⟩), .complex .f32 a a'] w (Ret (RF .f32 (htF X W D P Q)) w) := by
  have hpl := block_lt_of_cell c0
  simp only at hpl
  obtain ⟨M, hM⟩ := flOk_of (hP.mono Rat.le_refl (by exact_mod_cast (by omega : W - 1 ≤ 16)))
  obtain ⟨L, hL⟩ := flOk_of (hQ.mono Rat.le_refl (by exact_mod_cast (by omega : D - 1 ≤ 16)))
  have hM1 := hM.lt hP.2.2
  have hL1 := hL.lt hQ.2.2
  obtain ⟨i, hi⟩ : ∃ i, htC P W = i := ⟨_, rfl⟩
  obtain ⟨k, hk⟩ : ∃ k, htC Q D = k := ⟨_, rfl⟩
  have hiM : i = min M (W - 2) := by rw [← hi]; unfold htC; rw [hM.eq, Int.toNat_natCast]
  have hkL : k = min L (D - 2) := by rw [← hk]; unfold htC; rw [hL.eq, Int.toNat_natCast]
  have hlt := ht_lt (i := i) (k := k) h1 h3 (by omega) (by omega)
  rw [← hn] at hlt
  have hkw : k * W ≤ 240 := Nat.le_trans (Nat.mul_le_mul (show k ≤ 15 by omega) h2) (by decide)
  have hwm : IntKind.i64.wrap ((k : Int) * (W : Int)) = ((k * W : Nat) : Int) := by rw [← Int.natCast_mul, IntKind.wrap_i64]; omega
  have hF : htF X W D P Q = lerpF (htU Q D) (lerpF (htU P W) (X (k * W + i)) (X (k * W + i + 1))) (lerpF (htU P W) (X (k * W + i + W)) (X (k * W + i + W + 1))) := by unfold htF; rw [hi, hk]
  have hUu : htU P W = fop .sub .f32 P (fofI .f32 (i : Int)) := by unfold htU; rw [hi]
  have hVv : htU Q D = fop .sub .f32 Q (fofI .f32 (k : Int)) := by unfold htU; rw [hk]
  obtain ⟨r0, x0, e0⟩ := hX (k * W + i) (by omega)
  obtain ⟨r1, x1, e1⟩ := hX (k * W + i + 1) (by omega)
  obtain ⟨r2, x2, e2⟩ := hX (k * W + i + W) (by omega)
  obtain ⟨r3, x3, e3⟩ := hX (k * W + i + W + 1) (by omega)
  have f1 : cn .f32 1065353216 = 1065353216 := by decide +kernel
  rw [hF]
  have g1 := Lib.hid hM
  have g2 := Lib.hid hL
  have hMin := Lib.hid (fun w => l00Min_c M (W - 2) i hiM w)
  have hLin := Lib.hid (fun w => l00Min_c L (D - 2) k hkL w)
  have hW2 : ((W - 2 : Nat) : Int) = (W : Int) - 2 := by omega
  have hD2 : ((D - 2 : Nat) : Int) = (D : Int) - 2 := by omega
  rw [hW2] at hMin
  rw [hD2] at hLin
  have HU := Lib.hid hUu
  have HV := Lib.hid hVv
  have HA := Lib.hid ha
  have HA' := Lib.hid ha'
  generalize X (k * W + i) = Y0 at *
  generalize X (k * W + i + 1) = Y1 at *
  generalize X (k * W + i + W) = Y2 at *
  generalize X (k * W + i + W + 1) = Y3 at *
  generalize htU P W = U at *
  generalize htU Q D = V at *
  obtain ⟨q, hq⟩ : ∃ q, k * W = q := ⟨_, rfl⟩
  rw [hq] at hkw hwm hlt x0 x1 x2 x3
  obtain ⟨t0, ht0⟩ : ∃ t, q + i = t := ⟨_, rfl⟩
  rw [ht0] at hlt x0 x1 x2 x3
  obtain ⟨t1, ht1⟩ : ∃ t, t0 + 1 = t := ⟨_, rfl⟩
  obtain ⟨t2, ht2⟩ : ∃ t, t0 + W = t := ⟨_, rfl⟩
  rw [ht2] at hlt x2 x3
  obtain ⟨t3, ht3⟩ : ∃ t, t2 + 1 = t := ⟨_, rfl⟩
  rw [ht1] at x1
  rw [ht3] at x3 hlt
  have z0 : IntKind.i64.wrap ((q : Int) + (i : Int)) = (t0 : Int) := by rw [IntKind.wrap_i64]; omega
  have z1 : IntKind.i64.wrap ((t0 : Int) + 1) = (t1 : Int) := by rw [IntKind.wrap_i64]; omega
  have z2 : IntKind.i64.wrap ((t0 : Int) + (W : Int)) = (t2 : Int) := by rw [IntKind.wrap_i64]; omega
  have z3 : IntKind.i64.wrap ((t2 : Int) + 1) = (t3 : Int) := by rw [IntKind.wrap_i64]; omega
  have zW : IntKind.i64.wrap ((W : Int) - 2) = (W : Int) - 2 := by rw [IntKind.wrap_i64]; omega
  have zD : IntKind.i64.wrap ((D : Int) - 2) = (D : Int) - 2 := by rw [IntKind.wrap_i64]; omega
  have y0 : t0 < n := by omega
  have y1 : t1 < n := by omega
  have y2 : t2 < n := by omega
  have y3 : t3 < n := by omega
  have y0' : (t0 : Int) < n := by omega
  have y1' : (t1 : Int) < n := by omega
  have y2' : (t2 : Int) < n := by omega
  have y3' : (t3 : Int) < n := by omega
  have yb : t3 ≤ 1000 := by omega
  clear hX hP hQ hF hUu hVv hi hk hM hL ha ha' hiM hkL hW2 hD2 hlt hkw ht0 ht1 ht2 ht3 hq hn
  go_enter Try.func108, Try.ntmps108
  go_wp2
  (apply region_looseK (k := 11); (kernel_rfl); (kernel_rfl); intro opsL KL hopsL hKL; (dsimp only [List.take]))
  iterate 2 (apply rel_val; (rfl); (intro wq hbq; have hcq := (bcell hbq).1; (go_simp; first | done | rfl | exact ⟨rfl, rfl⟩)); (try go_simp))
  (apply rel_fconv (k := .f32) (k' := .f64); (rfl); (rfl); (rfl); (decide); (exact Try.underlying25); (exact Try.underlying62); (exact HA.out); (exact fits_wide _); intro r hr hw; (try go_simp))
  (apply rel_call (RF .f64 (flB P)); (rfl); (intro wq hbq; (go_simp; first | done | rfl | exact ⟨rfl, rfl⟩)); (intro wq hbq; exact floor_c _ _ hr _); (try go_simp))
  rintro v ⟨fr, rfl, hfr, hfo⟩
  obtain rfl : fr = flB P := raw_of g1.out.n64 hfr
  (apply rel_toint; (rfl); (rfl); (rfl); (rw [Try.underlying62]; rfl); (exact Try.underlying2); (exact g1.out.i64); (exact by omega); (try go_simp))
  iterate 5 (apply rel_val; (rfl); (intro wq hbq; have hcq := (bcell hbq).1; (go_simp; first | done | rfl | exact ⟨rfl, rfl⟩)); (try go_simp))
  (apply rel_call (RV (.int .i64 (i : Int))); (rfl); (intro wq hbq; (go_simp; first | done | rfl | exact ⟨rfl, rfl⟩)); (intro wq hbq; exact hMin.out _); (try go_simp))
  rintro v rfl
  (refine wpRel_nil ?_; refine hKL _ _ ?_; clear hKL hopsL opsL KL; intro w1 hb hnews; obtain ⟨hc, hfz⟩ := bcell hb; (try simp only [World.heap_drewN] at hc hfz); have hz := hb.size; (dsimp only [List.drop]))
  have hs1 := hb.size
  have HX := Lib.hid (And.intro x0 (And.intro x1 (And.intro x2 x3)))
  have HC := Lib.hid (And.intro c0 (And.intro c1 c2))
  have c1' := (hb.cell (p := ⟨p, 1, none⟩) hpl).trans c1
  have hpl' := Nat.lt_of_lt_of_le hpl hs1
  have HB1 := Lib.hid hb
  have HPL := Lib.hid hpl
  have HBL := Lib.hid hbl
  clear hb hc hfz c0 c1 c2 x0 x1 x2 x3 hpl hbl
  go_wp2
  (apply region_looseK (k := 11); (kernel_rfl); (kernel_rfl); intro opsL KL hopsL hKL; (dsimp only [List.take]))
  iterate 2 (apply rel_val; (rfl); (intro wq hbq; have hcq := (bcell hbq).1; (go_simp; first | done | rfl | exact ⟨rfl, rfl⟩)); (try go_simp))
  (apply rel_fconv (k := .f32) (k' := .f64); (rfl); (rfl); (rfl); (decide); (exact Try.underlying25); (exact Try.underlying62); (exact HA'.out); (exact fits_wide _); intro r hr hw; (try go_simp))
  (apply rel_call (RF .f64 (flB Q)); (rfl); (intro wq hbq; (go_simp; first | done | rfl | exact ⟨rfl, rfl⟩)); (intro wq hbq; exact floor_c _ _ hr _); (try go_simp))
  rintro v ⟨fr, rfl, hfr, hfo⟩
  obtain rfl : fr = flB Q := raw_of g2.out.n64 hfr
  (apply rel_toint; (rfl); (rfl); (rfl); (rw [Try.underlying62]; rfl); (exact Try.underlying2); (exact g2.out.i64); (exact by omega); (try go_simp))
  iterate 5 (apply rel_val; (rfl); (intro wq hbq; have hcq := (bcell hbq).1; (go_simp; first | done | rfl | exact ⟨rfl, rfl⟩)); (try go_simp))
  (apply rel_call (RV (.int .i64 (k : Int))); (rfl); (intro wq hbq; (go_simp; first | done | rfl | exact ⟨rfl, rfl⟩)); (intro wq hbq; exact hLin.out _); (try go_simp))
  rintro v rfl
  (refine wpRel_nil ?_; refine hKL _ _ ?_; clear hKL hopsL opsL KL; intro w1 hb hnews; obtain ⟨hc, hfz⟩ := bcell hb; (try simp only [World.heap_drewN] at hc hfz); have hz := hb.size; (dsimp only [List.drop]))
  have hB2 := HB1.out.trans (hb.mono hs1)
  have c0 := (hB2.cell (p := ⟨p, 0, none⟩) HPL.out).trans HC.out.1
  have c2 := (hB2.cell (p := ⟨p, 2, none⟩) HPL.out).trans HC.out.2.2
  have x0 := (hB2.cell (p := ⟨b, t0, none⟩) HBL.out).trans HX.out.1
  have x1 := (hB2.cell (p := ⟨b, t1, none⟩) HBL.out).trans HX.out.2.1
  have x2 := (hB2.cell (p := ⟨b, t2, none⟩) HBL.out).trans HX.out.2.2.1
  have x3 := (hB2.cell (p := ⟨b, t3, none⟩) HBL.out).trans HX.out.2.2.2
  have hpl := Nat.lt_of_lt_of_le HPL.out hB2.size
  have hbl := Nat.lt_of_lt_of_le HBL.out hB2.size
  have HB2 := Lib.hid hB2
  have hs2 := hB2.size
  clear hb hc hfz hB2 c1' hpl'
  go_upto_region 4 with (first | (refine wpL_farith rfl _ _ _ _ _ rfl rfl _ _ _ rfl rfl ?_; intro r n hr hw))
  have hu : cn .f32 r = U := by rw [hr, HA.out, cn_fofI, HU.out]
  have hou := okf_of hw
  clear hr hw
  go_upto_region 5 with (first | (refine wpL_farith rfl _ _ _ _ _ rfl rfl _ _ _ rfl rfl ?_; intro r n hr hw))
  have hv : cn .f32 r = V := by rw [hr, HA'.out, cn_fofI, HV.out]
  have hov := okf_of hw
  clear hr hw
  go_upto_region 6 with fail
  (apply region_looseK (k := 21); (kernel_rfl); (kernel_rfl); intro opsL KL hopsL hKL; (dsimp only [List.take]))
  (apply rel_val; (rfl); (intro wq hbq; have hcq := (bcell hbq).1; (go_simp; first | done | rfl | exact ⟨rfl, rfl⟩)); (try go_simp))
  (apply rel_farith; (rfl); (rfl); (rfl); (rfl); (rfl); (assumption); (assumption); intro r hr hw; (try go_simp))
  iterate 7 (apply rel_val; (rfl); (intro wq hbq; have hcq := (bcell hbq).1; (try simp only [World.heap_drewN] at hcq); (go_simp; first | done | rfl | exact ⟨rfl, rfl⟩)); (try go_simp))
  (apply rel_farith; (rfl); (rfl); (rfl); (rfl); (rfl); (assumption); (assumption); intro r hr hw; (try go_simp))
  iterate 9 (apply rel_val; (rfl); (intro wq hbq; have hcq := (bcell hbq).1; (try simp only [World.heap_drewN] at hcq); (go_simp; first | done | rfl | exact ⟨rfl, rfl⟩)); (try go_simp))
  iterate 2 (apply rel_farith; (rfl); (rfl); (rfl); (rfl); (rfl); (assumption); (assumption); intro r hr hw; (try go_simp))
  (refine wpRel_nil ?_; refine hKL _ _ ?_; clear hKL hopsL opsL KL; intro w1 hb hnews; obtain ⟨hc, hfz⟩ := bcell hb; (try simp only [World.heap_drewN] at hc hfz); have hz := hb.size; (dsimp only [List.drop]))
  have ha6 : cn .f32 r = lerpF U Y0 Y1 := hr
  have hoa6 := hw
  have hs6 := hb.size
  have c0 := (hb.cell (p := ⟨p, 0, none⟩) (by simpa using hpl)).trans (by simpa using c0)
  have c2 := (hb.cell (p := ⟨p, 2, none⟩) (by simpa using hpl)).trans (by simpa using c2)
  have x2 := (hb.cell (p := ⟨b, t2, none⟩) (by simpa using hbl)).trans (by simpa using x2)
  have x3 := (hb.cell (p := ⟨b, t3, none⟩) (by simpa using hbl)).trans (by simpa using x3)
  simp only [World.heap_drewN] at hs6
  have hB6 := HB2.out.trans (((below_dN (Below.refl _ _)).trans (hb.mono (by simp))).mono hs2)
  have hpl := Nat.lt_of_lt_of_le hpl hs6
  have hbl := Nat.lt_of_lt_of_le hbl hs6
  have hs7 := hB6.size
  have HB6 := Lib.hid hB6
  clear hr hw hc hfz hb hB6
  go_upto_region 7 with fail
  (apply region_looseK (k := 31); (kernel_rfl); (kernel_rfl); intro opsL KL hopsL hKL; (dsimp only [List.take]))
  (apply rel_val; (rfl); (intro wq hbq; have hcq := (bcell hbq).1; (go_simp; first | done | rfl | exact ⟨rfl, rfl⟩)); (try go_simp))
  (apply rel_farith; (rfl); (rfl); (rfl); (rfl); (rfl); (assumption); (assumption); intro r hr hw; (try go_simp))
  iterate 12 (apply rel_val; (rfl); (intro wq hbq; have hcq := (bcell hbq).1; (try simp only [World.heap_drewN] at hcq); (go_simp; first | done | rfl | exact ⟨rfl, rfl⟩)); (try go_simp))
  (apply rel_farith; (rfl); (rfl); (rfl); (rfl); (rfl); (assumption); (assumption); intro r hr hw; (try go_simp))
  iterate 14 (apply rel_val; (rfl); (intro wq hbq; have hcq := (bcell hbq).1; (try simp only [World.heap_drewN] at hcq); (go_simp; first | done | rfl | exact ⟨rfl, rfl⟩)); (try go_simp))
  iterate 2 (apply rel_farith; (rfl); (rfl); (rfl); (rfl); (rfl); (assumption); (assumption); intro r hr hw; (try go_simp))
  (refine wpRel_nil ?_; refine hKL _ _ ?_; clear hKL hopsL opsL KL; intro w1 hb hnews; obtain ⟨hc, hfz⟩ := bcell hb; (try simp only [World.heap_drewN] at hc hfz); have hz := hb.size; (dsimp only [List.drop]))
  have ha7 : cn .f32 r = lerpF U Y2 Y3 := hr
  have hoa7 := hw
  have hB7 := HB6.out.trans (hb.mono hs7)
  clear hr hw hc hfz hb
  go_wp2_with (first | (refine wpL_farith rfl _ _ _ _ _ rfl rfl _ _ _ rfl rfl ?_; intro r n hr hw))
  go_ret
  exact ⟨⟨_, rfl, _, rfl, by rw [hr]; simp only [*]; rfl, okf_of hw⟩, below_dN hB7⟩
end Go.Proofs.Ytpajakindpbepaa
