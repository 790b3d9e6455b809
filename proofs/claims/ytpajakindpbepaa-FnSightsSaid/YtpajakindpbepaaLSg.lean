/- The law of Sights. No condition. -/
import Derived.Test.YtpajakindpbepaaSiL
namespace Go.Proofs.Ytpajakindpbepaa
open Go.RowKit Go.IntWalk
set_option linter.unusedSimpArgs false
theorem ByArg.dn {w w' : World} {A : Option Addr} {n : Nat} (h : ByArg w A n) (hb : Below w.heap.size w w') : ByArg w' A n :=
  h.below (fun a e h0 => by
    obtain ⟨a', k, e', h1, -⟩ := h 0 h0
    rw [e] at e'
    cases e'
    exact h1) hb
theorem BArr.pos {w : World} {lo n : Nat} {v : Value} {d : Nat → Bool} (h : BArr w lo v n d) (hn : 0 < n) : ∃ g cap, v = .slice (Option.some ⟨g, 0, none⟩) n cap ∧ Db w g n cap d := by
  rcases h with ⟨h0, -⟩ | ⟨g, cap, e, -, h1⟩
  · omega
  · exact ⟨g, cap, e, h1⟩
theorem feq_zero {z : Nat} (h : cn .f32 z = 0) : feq .f32 (cn .f32 z) 0 = true := by
  rw [h]
  decide +kernel
set_option maxRecDepth 100000 in
set_option maxHeartbeats 16000000 in
theorem lawSights (A A' : Option Addr) (n m c c' : Nat) (w : World) (hA : ByArg w A n) (hA' : ByArg w A' m) :
    Calls Try.prog 9 #[.slice A n c, .slice A' m c'] w fun e w' => e = .returned (.bool true) ∧ Below w.heap.size w w' := by
  by_cases hlong : (48 < n ∨ 48 < m)
  · have e : (decide (48 < n) || decide (48 < m)) = true := by simpa using hlong
    have HL := Lib.hid (fun w' => e ▸ r8Long_c n c m c' A A' w')
    clear hA hA' hlong e
    go_enter Try.func9, Try.ntmps9
    go_wp2_with (go_at_call 36; (with_reducible refine (HL.out _).mono ?_); rintro e w1 ⟨⟨v, rfl, rfl⟩, hb1⟩)
    go_ret
    exact ⟨rfl, hb1⟩
  · have e : (decide (48 < n) || decide (48 < m)) = false := by simp; omega
    have HL := Lib.hid (fun w' => e ▸ r8Long_c n c m c' A A' w')
    have HG := Lib.hid (fun w' (hB : Below w.heap.size w w') => R8Grid_c n c A w' (by omega) (hA.dn hB))
    have HA := Lib.hid hA'
    have hm48 : m ≤ 48 := by omega
    clear hA hA' hlong e
    have fT : cn .f32 1065353216 = 1065353216 := by decide +kernel
    have f4 : cn .f32 1082130432 = 1082130432 := by decide +kernel
    have f1000 : cn .f32 1148846080 = 1148846080 := by decide +kernel
    go_enter Try.func9, Try.ntmps9
    go_upto_region 4 with (first | (go_at_call 36; (with_reducible refine (HL.out _).mono ?_); rintro e w1 ⟨⟨v, rfl, rfl⟩, hb1⟩) | (go_at_call 37; (with_reducible refine (HG.out _ hb1).mono ?_); rintro e w2 ⟨W, D, b, cap, hs, hW1, hW2, hD1, hD2, rfl, hbb, hhs, hF, hB2⟩))
    refine absw (fun V hV => ?_)
    obtain ⟨N, hN⟩ : ∃ N, W * D = N := ⟨_, rfl⟩
    obtain ⟨X, hXe⟩ : ∃ X, (fun j => q4 (hs j)) = X := ⟨_, rfl⟩
    rw [hN, hXe] at hF
    rw [hN] at hV
    obtain ⟨q, hq⟩ : ∃ q, w2.heap.size = q := ⟨_, rfl⟩
    rw [hq]
    have hBV2 : Below w2.heap.size w2 V := by rw [hV]; exact (Below.refl _ _).alloc (Nat.le_refl _) _
    have tG : gtc V q (.int .i64 (W : Int)) (.int .i64 (D : Int)) (.slice (some ⟨b, 0, none⟩) N cap) := by rw [hV]; exact gtc.newAt hq.symm
    have hF' : FlCells V b N X := hF.dn hbb.2 hBV2
    have hbl : b < V.heap.size := Nat.lt_of_lt_of_le hbb.2 hBV2.size
    have hBV : Below w.heap.size w V := (hb1.trans (hB2.mono hb1.size)).trans (hBV2.mono (Nat.le_trans hb1.size hB2.size))
    have hN4 : 2 * 2 ≤ N := by rw [← hN]; exact Nat.mul_le_mul hW1 hD1
    have hN25 : N ≤ 5 * 5 := by rw [← hN]; exact Nat.mul_le_mul hW2 hD2
    have hwm : IntKind.i64.wrap ((W : Int) * (D : Int)) = (N : Int) := by
      have e : (W : Int) * (D : Int) = (N : Int) := by rw [← hN, Int.natCast_mul]
      rw [e, IntKind.wrap_i64]
      omega
    have hXi : ∀ j, inn .f32 (X j) 0 8 := by rw [← hXe]; exact fun j => q4_small (hhs j)
    have HSM := Lib.hid (fun f t s (hf : f < N) (ht : t < N) (h1 : 1 ≤ s) (h2 : s ≤ 8) => (⟨hW1, hW2, hD1, hD2, hN ▸ hf, hN ▸ ht, h1, h2⟩ : Small W D f t s))
    have HSELF := Lib.hid (fun f s (h : Small W D f f s) e (he : e ≤ 8) => (hXe ▸ Small.self h hhs he : seeF X W D f f (q4 e) 1065353216 s = (true, true)))
    have HXI := Lib.hid hXi
    have HNN := Lib.hid hN
    have HF := Lib.hid hF'
    have HTG := Lib.hid tG
    have HBV := Lib.hid hBV
    have hVs := hBV.size
    have HA0 := Lib.hid (fun w' (hB : Below w.heap.size w w') => (show Calls Try.prog 38 #[.slice A' m c', .int .i64 0, .int .i64 (N : Int)] w' (fun e w'' => ∃ r : Nat, r < N ∧ e = .returned (.int .i64 (r : Int)) ∧ w' = w'') from r8At_c m c' 0 N A' w' (by omega) (HA.out.dn hB)))
    have HA1 := Lib.hid (fun w' (hB : Below w.heap.size w w') => (show Calls Try.prog 38 #[.slice A' m c', .int .i64 1, .int .i64 9] w' (fun e w'' => ∃ r : Nat, r < 9 ∧ e = .returned (.int .i64 (r : Int)) ∧ w' = w'') from r8At_c m c' 1 9 A' w' (by omega) (HA.out.dn hB)))
    have HA2 := Lib.hid (fun w' (hB : Below w.heap.size w w') => (show Calls Try.prog 38 #[.slice A' m c', .int .i64 2, .int .i64 8] w' (fun e w'' => ∃ r : Nat, r < 8 ∧ e = .returned (.int .i64 (r : Int)) ∧ w' = w'') from r8At_c m c' 2 8 A' w' (by omega) (HA.out.dn hB)))
    have HA3 := Lib.hid (fun w' (hB : Below w.heap.size w w') => (show Calls Try.prog 38 #[.slice A' m c', .int .i64 3, .int .i64 40] w' (fun e w'' => ∃ r : Nat, r < 40 ∧ e = .returned (.int .i64 (r : Int)) ∧ w' = w'') from r8At_c m c' 3 40 A' w' (by omega) (HA.out.dn hB)))
    have HA4 := Lib.hid (fun w' (hB : Below w.heap.size w w') => (show Calls Try.prog 38 #[.slice A' m c', .int .i64 4, .int .i64 9] w' (fun e w'' => ∃ r : Nat, r < 9 ∧ e = .returned (.int .i64 (r : Int)) ∧ w' = w'') from r8At_c m c' 4 9 A' w' (by omega) (HA.out.dn hB)))
    clear hV hXe hF hF' hBV2 hBV hXi hhs hbb hb1 hB2 HL HG HA hN tG hq
    have g0 := HTG.out.c0
    have g1 := HTG.out.c1
    have gl := HTG.out.lt
    go_upto_region 6 with (go_at_call 38; (with_reducible refine (HA0.out _ HBV.out).mono ?_); rintro e w' ⟨f, hf, rfl, rfl⟩)
    clear g0 g1
    go_upto_region 7 with (first | (refine wpL_farith rfl _ _ _ _ _ rfl rfl _ _ _ rfl rfl ?_; intro r n hr hw) | (go_at_call 38; (with_reducible refine (HA1.out _ HBV.out).mono ?_); rintro e w' ⟨ey, hey, rfl, rfl⟩))
    have hex : cn .f32 r = q4 ey := by rw [hr, cn_fofI, f4]; rfl
    clear hr hw
    go_upto_region 8 with (first | (go_at_call 38; (with_reducible refine (HA2.out _ (below_dN HBV.out)).mono ?_); rintro e w' ⟨s0, hs0, rfl, rfl⟩))
    have e0 : (0 : Rat) ≤ ey := Rat.natCast_nonneg
    have e8 : (ey : Rat) ≤ 8 := by exact_mod_cast (by omega : ey ≤ 8)
    have hE : inn .f32 (q4 ey) 0 1000 := (q4_inn (by omega)).mono (by grind) (by grind)
    have hE2 : inn .f32 1148846080 0 1000 := inn_1000.mono (by decide +kernel) Rat.le_refl
    refine absw (fun U hU => ?_)
    have hBU : Below V.heap.size V U := by rw [hU]; exact below_dN (Below.refl _ _)
    have hBwU := HBV.out.trans (hBU.mono hVs)
    have eS : (1 : Int) + (s0 : Int) = ((1 + s0 : Nat) : Int) := by omega
    obtain ⟨d, hd⟩ : ∃ d : Nat → Bool, ∀ t, d t = (seeF X W D f t (q4 ey) 1065353216 (1 + s0)).1 := ⟨_, fun t => rfl⟩
    have hdf : d f = true := by rw [hd, HSELF.out f (1 + s0) (HSM.out f f _ hf hf (by omega) (by omega)) ey (by omega)]
    have FU := HF.out.dn hbl hBU
    have bU : b < U.heap.size := Nat.lt_of_lt_of_le hbl hBU.size
    have HS1 := Lib.hid (fun w' (hB : Below U.heap.size U w') => eS ▸ seenSmall HNN.out (HSM.out f f (1 + s0) hf hf (by omega) (by omega)) HXI.out hE hex (d := d) (fun t _ => hd t) b cap w' (Nat.lt_of_lt_of_le bU hB.size) (FU.dn bU hB))
    have HS2 := Lib.hid (fun w' (hB : Below U.heap.size U w') => eS ▸ seenSmall HNN.out (HSM.out f f (1 + s0) hf hf (by omega) (by omega)) HXI.out hE2 f1000 (d := fun _ => true) (fun t ht => by rw [Small.high (HSM.out f t (1 + s0) hf ht (by omega) (by omega)) HXI.out]) b cap w' (Nat.lt_of_lt_of_le bU hB.size) (FU.dn bU hB))
    have HP1 := Lib.hid (fun t (ht : t < N) w' (hB : Below U.heap.size U w') => eS ▸ seesSmall HNN.out (HSM.out f t (1 + s0) hf ht (by omega) (by omega)) HXI.out hE hex (hd t) b cap w' (Nat.lt_of_lt_of_le bU hB.size) (FU.dn bU hB))
    have HP2 := Lib.hid (fun t (ht : t < N) w' (hB : Below U.heap.size U w') => (show Calls Try.prog 30 #[.agg #[.int .i64 (W : Int), .int .i64 (D : Int), .slice (some ⟨b, 0, none⟩) N cap], .int .i64 (f : Int), .int .i64 (t : Int), .float .f32 r, .float .f32 1065353216, .int .i64 1] w' (Ret (two (true, true)) w') from seesSmall HNN.out (HSM.out f t 1 hf ht (by omega) (by omega)) HXI.out hE hex (d := true) (by rw [Small.near (HSM.out f t 1 hf ht (by omega) (by omega)) HXI.out hE]) b cap w' (Nat.lt_of_lt_of_le bU hB.size) (FU.dn bU hB)))
    have HTU := Lib.hid (HTG.out.below hBU)
    have HBU := Lib.hid hBwU
    have hUs := hBwU.size
    clear hU hBU hBwU hd FU hE hE2 e0 e8 eS gl HTG HF HSELF HXI HA0 HA1 HA2 HBV
    have g0 := HTU.out.c0
    have g1 := HTU.out.c1
    have g2 := HTU.out.c2
    have gl := HTU.out.lt
    go_upto_region 9 with (first | (go_at_call 32; (with_reducible refine (HS1.out _ (Below.refl _ _)).mono ?_); rintro e w3 ⟨v0, rfl, hI0, hb3⟩; obtain ⟨p1, q1, rfl, hR1⟩ := hI0.pos (by omega)))
    clear g0 g1 g2 gl hI0
    have t3 := HTU.out.below hb3
    have g0 := t3.c0
    have g1 := t3.c1
    have g2 := t3.c2
    have gl := t3.lt
    go_upto_region 10 with (first | (go_at_call 32; (with_reducible refine (HS2.out _ hb3).mono ?_); rintro e w4 ⟨v0, rfl, hI0, hb4⟩; obtain ⟨p2, q2, rfl, hR2⟩ := hI0.pos (by omega)))
    have hB4 := hb3.trans (hb4.mono hb3.size)
    have hR1' : Db w4 p1 N q1 d := hR1.below hb4
    have k1 := hR1'.cell hf
    rw [hdf] at k1
    have kl := hR1'.lt
    have HR1 := Lib.hid hR1'
    have HR2 := Lib.hid hR2
    have HB4 := Lib.hid hB4
    have HT4 := Lib.hid (HTU.out.below hB4)
    have hfi : (f : Int) < (N : Int) := by omega
    clear g0 g1 g2 gl t3 hI0 hb3 hb4 hR1 hR1' hR2 hB4
    go_wp2
    clear k1 kl
    go_loopw [14] (fun iv wr => ∃ (i : Nat), i ≤ N ∧ iv = .int .i64 (i : Int) ∧ Below w4.heap.size w4 wr) (fun iv _ => N - (intOf iv).toNat)
    case atStart => exact ⟨0, by omega, rfl, Below.refl _ _⟩
    case round =>
      rename World => wO
      obtain ⟨i, hi, rfl, hB⟩ := hrel
      have hBO := HB4.out.trans (hB.mono HB4.out.size)
      have tO := HT4.out.below hB
      have HB := Lib.hid hB
      have HBO := Lib.hid hBO
      have HTO := Lib.hid tO
      clear hB hBO tO
      by_cases hlt : i < N
      · have hlt' : (i : Int) < (N : Int) := by omega
        have g0 := HTO.out.c0
        have g1 := HTO.out.c1
        have g2 := HTO.out.c2
        have gl := HTO.out.lt
        go_upto_region 16 with (first | (go_at_call 30; (with_reducible refine (HP1.out i hlt _ HBO.out).mono ?_); rintro e w5 ⟨⟨v, rfl, u1, u2, rfl, rfl, rfl⟩, hb5⟩))
        clear g0 g1 g2 gl
        have t5 := HTO.out.below hb5
        have g0 := t5.c0
        have g1 := t5.c1
        have g2 := t5.c2
        have gl := t5.lt
        have hBO5 := HBO.out.trans (hb5.mono HBO.out.size)
        go_upto_region 17 with (first | (go_at_call 30; (with_reducible refine (HP2.out i hlt _ hBO5).mono ?_); rintro e w6 ⟨⟨v, rfl, u1, u2, rfl, rfl, rfl⟩, hb6⟩))
        have hB6 := (HB.out.trans (hb5.mono HB.out.size)).trans (hb6.mono (Nat.le_trans HB.out.size hb5.size))
        have r1 := HR1.out.below hB6
        have r2 := HR2.out.below hB6
        have k1 := r1.cell hlt
        have k2 := r2.cell hlt
        have l1 := r1.lt
        have l2 := r2.lt
        clear g0 g1 g2 gl t5 r1 r2 hb5 hb6 hBO5
        go_wp2
        go_roundw
        case rel => exact ⟨i + 1, by omega, by go_num, hB6⟩
        case measure => first | (simp [intOf]; done) | (simp [intOf]; omega)
      · obtain rfl : i = N := by omega
        have hlt' : ¬ ((i : Int) < (i : Int)) := by omega
        have g0 := HTO.out.c0
        have g1 := HTO.out.c1
        have g2 := HTO.out.c2
        have gl := HTO.out.lt
        have hBwO := HBU.out.trans (HBO.out.mono hUs)
        go_upto_region 19 with fail
        have HFG := Lib.hid (fun w' => flatGrid_c W D i w' hW1 (by omega) hD1 (by omega) HNN.out)
        go_upto_region 20 with (go_at_call 39; (with_reducible refine (HFG.out _).mono ?_); rintro e w7 ⟨b7, cap7, rfl, hb7, hF7, hB7⟩)
        refine absw (fun V7 hV7 => ?_)
        have hBV7 : Below w7.heap.size w7 V7 := by rw [hV7]; exact (Below.refl _ _).alloc (Nat.le_refl _) _
        have t7 : gtc V7 w7.heap.size (.int .i64 (W : Int)) (.int .i64 (D : Int)) (.slice (some ⟨b7, 0, none⟩) i cap7) := by rw [hV7]; exact gtc.newAt rfl
        have F7 := hF7.dn hb7.2 hBV7
        have bl7 := Nat.lt_of_lt_of_le hb7.2 hBV7.size
        have HO7 := hB7.trans (hBV7.mono hB7.size)
        have HS3 := Lib.hid (show Calls Try.prog 32 #[.agg #[.int .i64 (W : Int), .int .i64 (D : Int), .slice (some ⟨b7, 0, none⟩) i cap7], .int .i64 (f : Int), .float .f32 1065353216, .float .f32 1065353216, .int .i64 8] V7 (BRes true i (fun _ => true) V7) from
          seenSmall HNN.out (HSM.out f f 8 hf hf (by omega) (by omega)) (fun _ => inn_two.mono (by decide +kernel) (by decide +kernel)) (inn_one.mono (by decide +kernel) (by decide +kernel)) fT (d := fun _ => true) (fun t ht => by rw [Small.flat (HSM.out f t 8 hf ht (by omega) (by omega))]) b7 cap7 V7 bl7 F7)
        clear hV7 hF7 hb7 hB7 hBV7 F7 bl7 g0 g1 g2 gl
        have g0 := t7.c0
        have g1 := t7.c1
        have g2 := t7.c2
        have gl := t7.lt
        go_upto_region 21 with (go_at_call 32; (with_reducible refine (HS3.out).mono ?_); rintro e w8 ⟨v0, rfl, hI8, hb8⟩; obtain ⟨p3, q3, rfl, hR3⟩ := hI8.pos (by omega))
        have HO8 := HO7.trans (hb8.mono HO7.size)
        have tO8 := HTO.out.below HO8
        clear g0 g1 g2 gl t7 hb8 HO7 hI8
        have g0 := tO8.c0
        have g1 := tO8.c1
        have gl := tO8.lt
        have HCG := Lib.hid (fun w' => coneGrid_c W D i 0 0 w' hW1 (by omega) hD1 (by omega) HNN.out (by decide +kernel) (by decide +kernel) (by decide +kernel) (by decide +kernel) (fun j hj => by
          have m1 := Nat.mod_lt j (show 0 < W by omega)
          have m2 : j / W < D := Nat.div_lt_of_lt_mul (by have := HNN.out; omega)
          exact cone_ok0 ⟨j % W, by omega⟩ ⟨j / W, by omega⟩))
        go_upto_region 22 with (go_at_call 40; (with_reducible refine (HCG.out _).mono ?_); rintro e w9 ⟨b9, cap9, rfl, hb9, hF9, hB9⟩)
        refine absw (fun V9 hV9 => ?_)
        have hBV9 : Below w9.heap.size w9 V9 := by rw [hV9]; exact (Below.refl _ _).alloc (Nat.le_refl _) _
        have t9 : gtc V9 w9.heap.size (.int .i64 (W : Int)) (.int .i64 (D : Int)) (.slice (some ⟨b9, 0, none⟩) i cap9) := by rw [hV9]; exact gtc.newAt rfl
        have F9 := hF9.dn hb9.2 hBV9
        have bl9 := Nat.lt_of_lt_of_le hb9.2 hBV9.size
        have H89 := hB9.trans (hBV9.mono hB9.size)
        have HS4 := Lib.hid (seenCone HNN.out (HSM.out 0 0 8 (by omega) (by omega) (by omega) (by omega)) b9 cap9 V9 bl9 F9)
        clear hV9 hF9 hb9 hB9 hBV9 F9 bl9 g0 g1 gl tO8
        have g0 := t9.c0
        have g1 := t9.c1
        have g2 := t9.c2
        have gl := t9.lt
        go_upto_region 23 with (go_at_call 32; (with_reducible refine (HS4.out).mono ?_); rintro e w10 ⟨v0, rfl, hI10, hb10⟩; obtain ⟨p4, q4', rfl, hR4⟩ := hI10.pos (by omega))
        have H810 := H89.trans (hb10.mono H89.size)
        have hR3' := hR3.below H810
        have HR3 := Lib.hid hR3'
        have HR4 := Lib.hid hR4
        have HBX := Lib.hid (hBwO.trans ((HO8.trans (H810.mono HO8.size)).mono hBwO.size))
        have hXs := HBX.out.size
        clear g0 g1 g2 gl t9 hI10 hb10 hR3 hR3' hR4 H89 H810 HO8 hBwO
        go_wp2
        clear fT f1000 HSM HP1 HP2 HS1 HS2 HFG HCG HS3 HS4 HTO HT4 HTU
        go_loopw [27] (fun iv wr => ∃ (j : Nat), j ≤ i ∧ iv = .int .i64 (j : Int) ∧ Below w10.heap.size w10 wr) (fun iv _ => i - (intOf iv).toNat)
        case atStart => exact ⟨0, by omega, rfl, Below.refl _ _⟩
        case round =>
          rename World => wP
          obtain ⟨j, hj, rfl, hB⟩ := hrel
          have HB := Lib.hid hB
          clear hB
          by_cases hlt : j < i
          · have hlt2 : (j : Int) < (i : Int) := by omega
            have r3 := HR3.out.below HB.out
            have r4 := HR4.out.below HB.out
            have k3 := r3.cell hlt
            have k4 := r4.cell hlt
            have l3 := r3.lt
            have l4 := r4.lt
            clear r3 r4
            go_wp2
            go_roundw
            case rel => exact ⟨j + 1, by omega, by go_num, HB.out⟩
            case measure => first | (simp [intOf]; done) | (simp [intOf]; omega)
          · obtain rfl : j = i := by omega
            have hlt2 : ¬ ((j : Int) < (j : Int)) := by omega
            have hBP := HBX.out.trans (HB.out.mono hXs)
            have HBP := Lib.hid hBP
            clear hBP
            go_upto_region 31 with (first | (refine wpL_farith rfl _ _ _ _ _ rfl rfl _ _ _ rfl rfl ?_; intro r n hr hw) | (go_at_call 38; (with_reducible refine (HA3.out _ HBP.out).mono ?_); rintro e w' ⟨ha, hha, rfl, rfl⟩))
            have hfar : cn .f32 r = q4 (ha + 1) := by rw [hr, cn_fofI, f4, show (1 : Int) + (ha : Int) = ((ha + 1 : Nat) : Int) by omega]; rfl
            clear hr hw
            have f8 : cn .f32 1090519040 = 1090519040 := by decide +kernel
            have f2 : cn .f32 1073741824 = 1073741824 := by decide +kernel
            go_upto_region 32 with (first | (refine wpL_farith rfl _ _ _ _ _ rfl rfl _ _ _ rfl rfl ?_; intro r n hr hw) | (go_at_call 38; (with_reducible refine (HA4.out _ (below_dN HBP.out)).mono ?_); rintro e w' ⟨hb, hhb, rfl, rfl⟩))
            have hbend : cn .f32 r = e8 hb := by rw [hr, cn_fofI, f8]; rfl
            clear hr hw
            have hD := drop_all ⟨ha, hha⟩ ⟨hb, hhb⟩
            unfold dropB at hD
            simp only [Bool.and_eq_true, Bool.not_eq_true', beq_iff_eq] at hD
            obtain ⟨⟨⟨⟨⟨⟨⟨⟨⟨⟨⟨⟨⟨⟨⟨⟨⟨⟨d1, d2⟩, d3⟩, d4⟩, d5⟩, d6⟩, d7⟩, d8⟩, d9⟩, d10⟩, d11⟩, d12⟩, d13⟩, d14⟩, d15⟩, d16⟩, d17⟩, d18⟩, d19⟩ := hD
            have HDN := Lib.hid (fun w' => dropOf_c _ 1065353216 _ 1065353216 hfar (by decide +kernel) d3 share1 (by rw [d8]; decide +kernel) w')
            have hdr0 := fun w' => dropOf_c _ _ _ _ hfar hbend d3 d4 d5 w'
            have hdt0 := fun x hx w' => dropOf_c x _ _ _ hx hbend d6 d4 d7 w'
            rw [show dropF (q4 (ha + 1)) (e8 hb) = dP (ha + 1) hb from rfl] at hdr0
            rw [show dropF (fop .mul .f32 (q4 (ha + 1)) 1073741824) (e8 hb) = dT (ha + 1) hb from rfl] at hdt0
            generalize dP (ha + 1) hb = P at *
            generalize dT (ha + 1) hb = T at *
            have cP := cn_of d10
            have cT := cn_of d11
            have d9' : fge .f32 (cn .f32 P) 0 = true := by rw [cP]; exact d9
            obtain ⟨n1, hn1⟩ := wide_sk (P := Try.prog) 25 62 Try.underlying25 Try.underlying62 cT d15
            obtain ⟨n2, hn2⟩ := wide_sk (P := Try.prog) 25 62 Try.underlying25 Try.underlying62 cP d16
            obtain ⟨n3, hn3⟩ := arith_sk (P := Try.prog) .mul rfl 62 .f64 (show cn .f64 4616189618054758400 = 4616189618054758400 by decide +kernel) (cn_of d16) d17
            obtain ⟨n4, hn4⟩ := arith_sk (P := Try.prog) .add rfl 62 .f64 (show cn .f64 4607182418800017408 = 4607182418800017408 by decide +kernel) (cn_of d15) d18
            obtain ⟨n5, hn5⟩ := arith_sk (P := Try.prog) .mul rfl 62 .f64 (show cn .f64 4562254508917369340 = 4562254508917369340 by decide +kernel) (cn_of d18) d19
            have hgap := fun w' => r8Gap_c _ _ _ _ (cn_of d15) (cn_of d17) d12 d13 w'
            have hlt14 : flt .f64 0 (cn .f64 (fop .mul .f64 4562254508917369340 (fop .add .f64 4607182418800017408 (fcv .f32 .f64 T)))) = true := by rw [cn_of d19]; exact d14
            have HGP := Lib.hid hgap
            have HDR := Lib.hid hdr0
            have HDT := Lib.hid hdt0
            clear hdr0 hdt0
            refine absw (fun Y hY => ?_)
            have hBY : Below w.heap.size w Y := by rw [hY]; exact below_dN HBP.out
            have HBY := Lib.hid hBY
            have hYs := hBY.size
            clear hY hBY
            go_upto_region 33 with (go_at_call 41; (with_reducible refine (HDR.out _).mono ?_); rintro e y1 ⟨⟨v, rfl, v1, v2, rfl, ⟨dr, rfl, hdr, hdo⟩, rfl⟩, hy1⟩)
            obtain rfl : dr = P := raw_of d10 hdr
            go_upto_region 34 with (first | (refine wpL_farith rfl _ _ _ _ _ rfl rfl _ _ _ rfl rfl ?_; intro r n hr hw) | (go_at_call 41; (with_reducible refine (HDT.out _ (by rw [hr, hfar, f2]) _).mono ?_); rintro e y2 ⟨⟨v, rfl, v1, v2, rfl, ⟨tr, rfl, htr, hto⟩, rfl⟩, hy2⟩))
            obtain rfl : tr = T := raw_of d11 htr
            go_upto_region 35 with (go_at_call 41; (with_reducible refine (HDN.out _).mono ?_); rintro e y3 ⟨⟨v, rfl, v1, v2, rfl, ⟨zr, rfl, hzr, hzo⟩, rfl⟩, hy3⟩)
            rw [d8] at hzr
            have z0 := feq_zero hzr
            have hW1 := HBY.out.trans (hy1.mono hYs)
            have hW2 := (below_dN hW1).trans (hy2.mono (by simpa using hW1.size))
            have hW3 := hW2.trans (hy3.mono hW2.size)
            have hs3 := hW3.size
            clear hy1 hy2 hy3 hW1 hW2
            have HW3 := Lib.hid hW3
            clear hW3
            go_wp2_with (go_at_call 42; (with_reducible refine (HGP.out _).mono ?_); rintro e y4 ⟨⟨v, rfl, rfl⟩, hy4⟩)
            go_ret
            exact ⟨rfl, below_dN ((below_dN HW3.out).trans (hy4.mono (by simpa using hs3)))⟩
end Go.Proofs.Ytpajakindpbepaa
