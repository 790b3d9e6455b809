/- Contract of impl.ContourPieces. No condition. -/
import Derived.Test.YtbnnpeecajjipaaCPs
namespace Go.Proofs.Ytbnnpeecajjipaa
open Go.RowKit
set_option linter.unusedSimpArgs false
theorem rel_valg {P : Program} {ops : Array Oper} {w0 : World} {Q : Act → List New → Prop} {o : Oper} {l : List Oper} {S : List Item'} {a : Act} {acc : List New} (val : Value) (hw : Region.wanted o (yielded ops a.tmps) = true) (h1 : ∀ w, Below w0.heap.size w0 w → (execOp a.eval o).run P w = .ok (.value val) w) (h2 : wpRel P ops w0 Q l S (a.put o.dst val) acc) :
    wpRel P ops w0 Q (o :: l) ((none, RV val) :: S) a acc :=
  rel_want (RV val) hw (fun w hb => by rw [h1 w hb]; exact ⟨Below.refl _ _, rfl⟩) fun v hv => by rw [show v = val from hv]; exact h2
set_option maxRecDepth 100000 in
set_option maxHeartbeats 2000000 in
theorem finitePoints_c (v : Value) (n : Nat) (X Y : Nat → Nat) (lo : Nat) (w : World) (hn : n ≤ 1048576) (hA : CArr w lo v n X Y) (K : Bool) (hK : allC X Y n = K) :
    Calls Try.prog 44 #[v, .bool true] w fun e w' => e = .returned (.tuple #[if K = true then v else .slice none 0 0, .bool K]) ∧ Below w.heap.size w w' := by
  obtain ⟨A, c, rfl, hX⟩ := hA.arg
  have HP := Lib.hid (hK ▸ arePoints_c A n c X Y w hn hX)
  clear hA hX hK
  cases K
  · go_enter Try.func44, Try.ntmps44
    go_wp2_with (go_at_call 67; ((with_reducible refine (HP.out).mono ?_); rintro e w1 ⟨⟨v, rfl, rfl⟩, hb1⟩))
    go_ret2
    exact ⟨rfl, hb1⟩
  · go_enter Try.func44, Try.ntmps44
    go_wp2_with (go_at_call 67; ((with_reducible refine (HP.out).mono ?_); rintro e w1 ⟨⟨v, rfl, rfl⟩, hb1⟩))
    go_ret2
    exact ⟨rfl, hb1⟩
set_option maxRecDepth 100000 in
set_option maxHeartbeats 8000000 in
theorem iPieces_c (W D b n c x E : Nat) (X : Nat → Nat) (w : World) (h1 : 2 ≤ W) (h2 : W ≤ 16) (h3 : 2 ≤ D) (h4 : D ≤ 16) (hn : n = W * D) (hq : gridOk (W : Int) (D : Int) n X = true) (hf : fin .f32 E = true) (hbl : b < w.heap.size) (hX : FlCells w b n X) (hx : cn .f32 x = E) :
    Calls Try.prog 12 #[.agg #[.int .i64 (W : Int), .int .i64 (D : Int), .slice (some ⟨b, 0, none⟩) n c], .float .f32 x] w (CPR (W : Int) (D : Int) n X E w) := by
  obtain ⟨i0, hi0, hI0, hI1, hI2⟩ := info_parts info_c64
  have hnb : n ≤ 256 := by rw [hn]; exact Nat.mul_le_mul h2 h4
  have hN := gtc.newAt (w := w) (p := w.heap.size) (u := .int .i64 (W : Int)) (v := .int .i64 (D : Int)) (z := .slice (some ⟨b, 0, none⟩) n c) rfl
  have hb0 : Below w.heap.size w (w.alloc (.cells #[.int .i64 (W : Int), .int .i64 (D : Int), .slice (some ⟨b, 0, none⟩) n c] 30)) := by (with_reducible repeat (first | exact Below.refl _ _ | apply below_alloc | apply below_dN | apply below_d | refine below_setCell ?_ (by dsimp only; omega) | refine below_call (by assumption) ?_))
  have hs0 : (w.alloc (.cells #[.int .i64 (W : Int), .int .i64 (D : Int), .slice (some ⟨b, 0, none⟩) n c] 30)).heap.size = w.heap.size + 1 := by simp
  have HVG := Lib.hid (hq ▸ iValidGrid_c b n c (W : Int) (D : Int) X (w.alloc (.cells #[.int .i64 (W : Int), .int .i64 (D : Int), .slice (some ⟨b, 0, none⟩) n c] 30)) (by omega) (by omega) (hX.dn hbl hb0))
  have HFI := Lib.hid (fun w => hf ▸ iFinite_c x E hx w)
  have HCR := Lib.hid (fun a d (ha : a < n) (hd : d < n) (w' : World) (hB : Below w.heap.size w w') => crossing_c W (D : Int) b n c a d x E X w' h1 h2 hnb (Nat.lt_of_lt_of_le hbl hB.size) (hX.dn hbl hB) ha hd hx)
  have HX := Lib.hid hX
  have HNE := Lib.hid hn
  have HE := Lib.hid hx
  have hk : cpQ (W : Int) (D : Int) n X E = allC (cpX (W : Int) (D : Int) n X E) (cpY (W : Int) (D : Int) n X E) (cpP (W : Int) (D : Int) n X E).length := by unfold cpQ; rw [hq, hf]; rfl
  have HK := Lib.hid hk
  have hpp : cpP (W : Int) (D : Int) n X E = pre X W D E n := by unfold cpP; simp only [Int.toNat_natCast]
  have HPP := Lib.hid hpp
  have hlenP : (cpP (W : Int) (D : Int) n X E).length ≤ 1048576 := by
    have := pre_len X W D E n
    rw [hpp]
    omega
  have HLP := Lib.hid hlenP
  clear hX hn hx hq hf hk hpp hlenP
  go_enter Try.func12, Try.ntmps12
  go_upto_region 4 with (first | (go_at_call 40; ((with_reducible refine (HVG.out).mono ?_); rintro e wA ⟨⟨v, rfl, rfl⟩, hbA⟩)) | (go_at_call 41; ((with_reducible refine (HFI.out _).mono ?_); rintro e wB ⟨⟨v, rfl, rfl⟩, hbB⟩)))
  have hbAB := hbA.trans (hbB.mono hbA.size)
  have HNB := Lib.hid (hN.below hbAB)
  have HBB := Lib.hid (hb0.trans (hbAB.mono (by omega)))
  have hsB := HBB.out.size
  clear hN hbA hbB hb0 hs0 hbAB
  have j2 := HNB.out.c2
  have jl := HNB.out.lt
  have hNB1 := HNB.out
  go_wp2_with (go_at_call 42; ((with_reducible refine (length_c _ _ n _ rfl _).mono ?_); rintro e wL ⟨⟨v, rfl, rfl⟩, hbL⟩))
  have HNL := Lib.hid (hNB1.below hbL)
  have HBL := Lib.hid (HBB.out.trans (hbL.mono hsB))
  have hsL := HBL.out.size
  clear j2 jl hNB1 hbL
  go_loopw [6, 27] (fun ov iv wr => ∃ i : Nat, i ≤ n ∧ iv = .int .i64 i ∧ PRow wr wL.heap.size ov (pre X W D E i) ∧ Below wL.heap.size wL wr) (fun _ iv _ => n - (intOf iv).toNat)
  case atStart => exact ⟨0, by omega, rfl, ⟨[], ⟨rfl, .inl ⟨rfl, rfl⟩⟩, fun j q h => by simp [pre] at h⟩, Below.refl _ _⟩
  case round =>
    rename World => wO
    obtain ⟨i, hi, rfl, hR, hB⟩ := hrel
    have hNO := HNL.out.below hB
    have c0 := hNO.c0
    have c1 := hNO.c1
    have c2 := hNO.c2
    have pl := hNO.lt
    have HNO := Lib.hid hNO
    have HR := Lib.hid hR
    have HB := Lib.hid hB
    have hBs := hB.size
    clear hR hB hNO
    by_cases hlt : i < n
    · have hlt' : (i : Int) < (n : Int) := by omega
      have hW0 : ¬ ((W : Int) = 0) := by omega
      have hWn : ¬ (W = 0) := by omega
      by_cases hcol : i % W + 1 = W
      · have hc1 : (i : Int) % (W : Int) = (W : Int) - 1 := by omega
        have hpe : pre X W D E (i + 1) = pre X W D E i := by rw [pre_succ]; unfold cellP; rw [if_pos (Or.inl hcol), List.append_nil]
        have HPE := Lib.hid hpe
        clear hpe
        go_upto_region 7 with fail
        (refine region_below (by kernel_rfl) (by kernel_rfl) ?_; (repeat (first | go_big_quiet_step (fail) | quiet_step (fail))); refine wpQuiet_nil ?_; intro w1 hb; obtain ⟨hc, hfz⟩ := bcell hb; (try simp only [World.heap_drewN] at hc hfz); have hz := hb.size)
        have hB1 := HB.out.trans (hb.mono hBs)
        have HB1 := Lib.hid hB1
        have HR1 := Lib.hid (HR.out.below hb)
        clear hb hc hfz hB1 c0 c1 c2 pl
        go_wp2
        go_roundw
        case rel => exact ⟨i + 1, by omega, by go_num, by rw [HPE.out]; exact HR1.out, HB1.out⟩
        case measure => first | (simp [intOf]; done) | (simp [intOf]; omega)
      · have hc1 : ¬ ((i : Int) % (W : Int) = (W : Int) - 1) := by omega
        by_cases hrow : i / W + 1 = D
        · have hc2 : (i : Int) / (W : Int) = (D : Int) - 1 := by
            have : ((i / W : Nat) : Int) + 1 = (D : Int) := by exact_mod_cast hrow
            rw [Int.natCast_ediv] at this
            omega
          have hpe : pre X W D E (i + 1) = pre X W D E i := by rw [pre_succ]; unfold cellP; rw [if_pos (Or.inr hrow), List.append_nil]
          have HPE := Lib.hid hpe
          clear hpe
          obtain ⟨xm, hxm⟩ : ∃ xm, i % W = xm := ⟨_, rfl⟩
          obtain ⟨ym, hym⟩ : ∃ ym, i / W = ym := ⟨_, rfl⟩
          obtain ⟨wm, hwm⟩ : ∃ wm, W - 1 = wm := ⟨_, rfl⟩
          obtain ⟨dm, hdm'⟩ : ∃ dm, D - 1 = dm := ⟨_, rfl⟩
          have ht1 : (i : Int).tmod (W : Int) = (xm : Int) := by rw [← hxm, Int.tmod_eq_emod_of_nonneg (by omega), Int.natCast_emod]
          have ht2 : (i : Int).tdiv (W : Int) = (ym : Int) := by rw [← hym, Int.tdiv_eq_ediv_of_nonneg (by omega), Int.natCast_ediv]
          have hv1 : IntKind.i64.wrap ((W : Int) - 1) = (wm : Int) := by rw [IntKind.wrap_i64]; omega
          have hv2 : IntKind.i64.wrap ((D : Int) - 1) = (dm : Int) := by rw [IntKind.wrap_i64]; omega
          have hym2 : ym ≤ i := by rw [← hym]; exact Nat.div_le_self _ _
          have ht3 : IntKind.i64.wrap (ym : Int) = (ym : Int) := by rw [IntKind.wrap_i64]; omega
          have hn1 : ((xm : Int) == (wm : Int)) = false := by rw [beq_eq_false_iff_ne]; omega
          have hn2 : ym = dm := by omega
          clear hc1 hc2 hcol hrow hxm hym hwm hdm'
          subst hn2
          go_upto_region 7 with fail
          (apply region_looseK (k := 18); (kernel_rfl); (kernel_rfl); intro opsL KL hopsL hKL; (dsimp only [List.take]))
          iterate 9 (apply rel_val; (rfl); (intro wq hbq; have hcq := (bcell hbq).1; (go_simp; first | done | rfl | exact ⟨rfl, rfl⟩)); (try go_simp))
          iterate 8 (apply rel_valg; (kernel_rfl); (intro wq hbq; have hcq := (bcell hbq).1; (go_simp; first | done | rfl | exact ⟨rfl, rfl⟩)); (try go_simp))
          (apply rel_val; (rfl); (intro wq hbq; have hcq := (bcell hbq).1; (go_simp; first | done | rfl | exact ⟨rfl, rfl⟩)); (try go_simp))
          (refine wpRel_nil ?_; refine hKL _ _ ?_; clear hKL hopsL opsL KL; intro w1 hb hnews; obtain ⟨hc, hfz⟩ := bcell hb; (try simp only [World.heap_drewN] at hc hfz); have hz := hb.size; (dsimp only [List.drop]))
          have hB1 := HB.out.trans (hb.mono hBs)
          have HB1 := Lib.hid hB1
          have HR1 := Lib.hid (HR.out.below hb)
          clear hb hc hfz hB1 c0 c1 c2 pl
          go_wp2
          go_roundw
          case rel => exact ⟨i + 1, by omega, by go_num, by rw [HPE.out]; exact HR1.out, HB1.out⟩
          case measure => first | (simp [intOf]; done) | (simp [intOf]; omega)

        · have hdm := Nat.div_add_mod i W
          have hml := Nat.mod_lt i (show 0 < W by omega)
          have hdl : i / W < D := Nat.div_lt_of_lt_mul (by have := HNE.out; omega)
          have hin : i + W + 1 < n := by
            have h8 : W * (i / W + 2) ≤ W * D := Nat.mul_le_mul_left W (by omega)
            have e8 : W * (i / W + 2) = W * (i / W) + W + W := by rw [Nat.mul_add]; omega
            have := HNE.out
            omega
          have hc2 : ¬ ((i : Int) / (W : Int) = (D : Int) - 1) := by
            intro h
            apply hrow
            have e : ((i / W : Nat) : Int) = (D : Int) - 1 := by rw [Int.natCast_ediv]; exact h
            omega
          have hpe : pre X W D E (i + 1) = pre X W D E i ++ six X W E i 6 := by rw [pre_succ]; unfold cellP; rw [if_neg (by omega)]
          have HPE := Lib.hid hpe
          obtain ⟨i1, hi1⟩ : ∃ i1, i + 1 = i1 := ⟨_, rfl⟩
          obtain ⟨iW, hiW⟩ : ∃ iW, i + W = iW := ⟨_, rfl⟩
          obtain ⟨i3, hi3⟩ : ∃ i3, iW + 1 = i3 := ⟨_, rfl⟩
          have hw3 : IntKind.i64.wrap ((i : Int) + 1) = (i1 : Int) := by rw [IntKind.wrap_i64]; omega
          have hw4 : IntKind.i64.wrap ((i : Int) + (W : Int)) = (iW : Int) := by rw [IntKind.wrap_i64]; omega
          have hw5 : IntKind.i64.wrap ((iW : Int) + 1) = (i3 : Int) := by rw [IntKind.wrap_i64]; omega
          have HI := Lib.hid (⟨hi1, hiW, hi3⟩ : i + 1 = i1 ∧ i + W = iW ∧ iW + 1 = i3)
          clear hpe hdm hml hdl hi1 hiW hi3
          obtain ⟨xm, hxm⟩ : ∃ xm, i % W = xm := ⟨_, rfl⟩
          obtain ⟨ym, hym⟩ : ∃ ym, i / W = ym := ⟨_, rfl⟩
          obtain ⟨wm, hwm⟩ : ∃ wm, W - 1 = wm := ⟨_, rfl⟩
          obtain ⟨dm, hdm'⟩ : ∃ dm, D - 1 = dm := ⟨_, rfl⟩
          have ht1 : (i : Int).tmod (W : Int) = (xm : Int) := by rw [← hxm, Int.tmod_eq_emod_of_nonneg (by omega), Int.natCast_emod]
          have ht2 : (i : Int).tdiv (W : Int) = (ym : Int) := by rw [← hym, Int.tdiv_eq_ediv_of_nonneg (by omega), Int.natCast_ediv]
          have hv1 : IntKind.i64.wrap ((W : Int) - 1) = (wm : Int) := by rw [IntKind.wrap_i64]; omega
          have hv2 : IntKind.i64.wrap ((D : Int) - 1) = (dm : Int) := by rw [IntKind.wrap_i64]; omega
          have hym2 : ym ≤ i := by rw [← hym]; exact Nat.div_le_self _ _
          have ht3 : IntKind.i64.wrap (ym : Int) = (ym : Int) := by rw [IntKind.wrap_i64]; omega
          have hn1 : ((xm : Int) == (wm : Int)) = false := by rw [beq_eq_false_iff_ne]; omega
          have hn2 : ((ym : Int) == (dm : Int)) = false := by rw [beq_eq_false_iff_ne]; omega
          clear hc1 hc2 hcol hrow hxm hym hwm hdm'
          go_upto_region 7 with fail
          (apply region_looseK (k := 18); (kernel_rfl); (kernel_rfl); intro opsL KL hopsL hKL; (dsimp only [List.take]))
          iterate 9 (apply rel_val; (rfl); (intro wq hbq; have hcq := (bcell hbq).1; (go_simp; first | done | rfl | exact ⟨rfl, rfl⟩)); (try go_simp))
          iterate 8 (apply rel_valg; (kernel_rfl); (intro wq hbq; have hcq := (bcell hbq).1; (go_simp; first | done | rfl | exact ⟨rfl, rfl⟩)); (try go_simp))
          (apply rel_val; (rfl); (intro wq hbq; have hcq := (bcell hbq).1; (go_simp; first | done | rfl | exact ⟨rfl, rfl⟩)); (try go_simp))
          (refine wpRel_nil ?_; refine hKL _ _ ?_; clear hKL hopsL opsL KL; intro w1 hb hnews; obtain ⟨hc, hfz⟩ := bcell hb; (try simp only [World.heap_drewN] at hc hfz); have hz := hb.size; (dsimp only [List.drop]))
          have hB1 := HB.out.trans (hb.mono hBs)
          have HB1 := Lib.hid hB1
          have hs1 := hB1.size
          have HR1 := Lib.hid (HR.out.below hb)
          have t1 := HNO.out.below hb
          have HT1 := Lib.hid t1
          clear hb hc hfz hB1 c0 c1 c2 pl
          have c0 := t1.c0
          have pl := t1.lt
          clear t1
          go_upto_region 8 with fail
          (apply region_looseK (k := 14); (kernel_rfl); (kernel_rfl); intro opsL KL hopsL hKL; (dsimp only [List.take]))
          iterate 14 (apply rel_val; (rfl); (intro wq hbq; have hcq := (bcell hbq).1; (go_simp; first | done | rfl | exact ⟨rfl, rfl⟩)); (try go_simp))
          (refine wpRel_nil ?_; refine hKL _ _ ?_; clear hKL hopsL opsL KL; intro w1 hb hnews; obtain ⟨hc, hfz⟩ := bcell hb; (try simp only [World.heap_drewN] at hc hfz); have hz := hb.size; (dsimp only [List.drop]))
          have hB2 := HB1.out.trans (hb.mono hs1)
          have HB2 := Lib.hid hB2
          have hs2 := hB2.size
          have HR2 := Lib.hid (HR1.out.below hb)
          have HT2 := Lib.hid (HT1.out.below hb)
          clear hb hc hfz hB2 c0 pl hw3 hw4 hw5
          have HV2 : ∀ u, u6.ownBlock = some u → u < w1.heap.size := fun u e => by
            obtain ⟨xs, h, -⟩ := HR2.out
            exact (h.lt _ e).2
          have HV2 := Lib.hid HV2
          clear ht1 ht2 hv1 hv2 hym2 ht3 hn1 hn2
          go_wp2
          generalize hbn : w1.heap.size = bn
          have HBN := Lib.hid hbn
          clear hbn
          go_loopw [6, 69] (fun ov cv wr => ∃ t : Nat, t ≤ 2 ∧ cv = .int .i64 t ∧ PRow wr wL.heap.size ov (pre X W D E i ++ six X W E i (t * 3)) ∧ ov.ownBlock ≠ some bn ∧ wr.rowIs bn 61 6 (fun j => .int .i64 ((i + ca W j : Nat) : Int)) ∧ Below wL.heap.size wL wr) (fun _ cv _ => 2 - (intOf cv).toNat)
          case atStart => exact ⟨0, by omega, rfl, by rw [six_zero, List.append_nil]; exact HR2.out.below (by (with_reducible repeat (first | exact Below.refl _ _ | apply below_alloc | apply below_dN | apply below_d | refine below_setCell ?_ (by dsimp only; omega) | refine below_call (by assumption) ?_))), fun e => by have := HV2.out _ e; have := HBN.out; omega, by
            obtain ⟨hi1, hiW, hi3⟩ := HI.out
            rw [← HBN.out]
            exact ⟨_, heap_alloc_new _ _, rfl, fun j hj => by
              match j, hj with
              | 0, _ => rfl
              | 1, _ => subst hi1; rfl
              | 2, _ => subst hi3 hiW; rfl
              | 3, _ => rfl
              | 4, _ => subst hi3 hiW; rfl
              | 5, _ => subst hiW; rfl⟩, HB2.out.alloc hs2 _⟩
          case round =>
            rename World => wC
            obtain ⟨t, ht, rfl, hR3, hvn, hrow, hB3⟩ := hrel
            have HROWC := Lib.hid hrow
            have HB3 := Lib.hid hB3
            have hs3 := hB3.size
            have HR3 := Lib.hid hR3
            have HVN := Lib.hid hvn
            clear hR3 hvn
            by_cases hlt2 : t < 2
            · have hlti : (t : Int) < 2 := by omega
              have ql := hrow.lt
              obtain ⟨a0, ha0⟩ : ∃ a0, i + ca W (t * 3) = a0 := ⟨_, rfl⟩
              obtain ⟨a1, ha1⟩ : ∃ a1, i + ca W (t * 3 + 1) = a1 := ⟨_, rfl⟩
              obtain ⟨a2, ha2⟩ : ∃ a2, i + ca W (t * 3 + 2) = a2 := ⟨_, rfl⟩
              have z0 := hrow.cell (i := t * 3) (by omega)
              have z1 := hrow.cell (i := t * 3 + 1) (by omega)
              have z2 := hrow.cell (i := t * 3 + 2) (by omega)
              rw [ha0] at z0
              rw [ha1] at z1
              rw [ha2] at z2
              have HA := Lib.hid (⟨ha0, ha1, ha2⟩ : i + ca W (t * 3) = a0 ∧ i + ca W (t * 3 + 1) = a1 ∧ i + ca W (t * 3 + 2) = a2)
              clear ha0 ha1 ha2 hrow hB3
              go_upto_region 12 with fail
              have HVC2 : ∀ u, u6.ownBlock = some u → u < wC.heap.size := fun u e => by
                obtain ⟨xs, h, -⟩ := HR3.out
                exact (h.lt _ e).2
              have HVC2 := Lib.hid HVC2
              go_wp2
              generalize hpn : wC.heap.size = pn
              have HPN := Lib.hid hpn
              clear hpn
              clear z0 z1 z2 ql
              go_loopw [6, 74] (fun ov kv wr => ∃ k : Nat, k ≤ 3 ∧ kv = .int .i64 k ∧ PRow wr wL.heap.size ov (pre X W D E i ++ six X W E i (t * 3 + k)) ∧ ov.ownBlock ≠ some bn ∧ ov.ownBlock ≠ some pn ∧ wr.rowIs bn 61 6 (fun j => .int .i64 ((i + ca W j : Nat) : Int)) ∧ wr.rowIs pn 61 3 (fun j => .int .i64 ((i + ca W (t * 3 + j) : Nat) : Int)) ∧ Below wL.heap.size wL wr) (fun _ kv _ => 3 - (intOf kv).toNat)
              case atStart => exact ⟨0, by omega, rfl, HR3.out.below (by (with_reducible repeat (first | exact Below.refl _ _ | apply below_alloc | apply below_dN | apply below_d | refine below_setCell ?_ (by dsimp only; omega) | refine below_call (by assumption) ?_))), HVN.out, fun e => by have := HVC2.out _ e; have := HPN.out; omega, HROWC.out.alloc _, by
                obtain ⟨ha0, ha1, ha2⟩ := HA.out
                rw [← HPN.out]
                exact ⟨_, heap_alloc_new _ _, rfl, fun j hj => by
                  match j, hj with
                  | 0, _ => subst ha0; rfl
                  | 1, _ => subst ha1; rfl
                  | 2, _ => subst ha2; rfl⟩, HB3.out.alloc hs3 _⟩
              case round =>
                rename World => wK
                obtain ⟨k, hk, rfl, hR5, hvn, hvp, hrow, hpow, hB5⟩ := hrel
                have HROWK := Lib.hid hrow
                have HPOWK := Lib.hid hpow
                have HB5 := Lib.hid hB5
                have hs5 := hB5.size
                have HR5 := Lib.hid hR5
                have HVN := Lib.hid hvn
                have HVP := Lib.hid hvp
                clear hR5 hvn hvp
                by_cases hlk : k < 3
                · have hlki : (k : Int) < 3 := by omega
                  have hk6 : t * 3 + k < 6 := by omega
                  have hnx : nx (t * 3 + k) = t * 3 + (k + 1) % 3 := by unfold nx; omega
                  have hca := ca_le W (t * 3 + k)
                  have hcb := ca_le W (nx (t * 3 + k))
                  obtain ⟨a, ha⟩ : ∃ a, i + ca W (t * 3 + k) = a := ⟨_, rfl⟩
                  obtain ⟨d, hd⟩ : ∃ d, i + ca W (nx (t * 3 + k)) = d := ⟨_, rfl⟩
                  have han : a < n := by omega
                  have hdn : d < n := by omega
                  obtain ⟨nk, hnk⟩ : ∃ nk, (k + 1) % 3 = nk := ⟨_, rfl⟩
                  have hnk3 : nk < 3 := by omega
                  have q0 : ∀ w : World, (Instr.index 61 (.agg #[.int .i64 (a0 : Int), .int .i64 (a1 : Int), .int .i64 (a2 : Int)]) (.int .i64 (k : Int))).run Try.prog w = .ok (.int .i64 (a : Int)) w := by
                    obtain ⟨ha0, ha1, ha2⟩ := HA.out
                    match k, hlk with
                    | 0, _ => rw [← ha, ← ha0]; exact fun w => by kernel_rfl
                    | 1, _ => rw [← ha, ← ha1]; exact fun w => by kernel_rfl
                    | 2, _ => rw [← ha, ← ha2]; exact fun w => by kernel_rfl
                  have q1 := hpow.cell (i := nk) hnk3
                  rw [show i + ca W (t * 3 + nk) = d by rw [← hd, hnx, hnk]] at q1
                  have ql := hrow.lt
                  have pl := hpow.lt
                  have hani : (a : Int) < (n : Int) := by omega
                  have hdni : (d : Int) < (n : Int) := by omega
                  have hnki : ((k : Int) + 1) % 3 = (nk : Int) := by omega
                  have hnk3i : (nk : Int) < 3 := by omega
                  have hpc : six X W E i (t * 3 + (k + 1)) = six X W E i (t * 3 + k) ++ (if crB X E a d = true then [(mtX X W E a d, mtY X W E a d)] else []) := by rw [← Nat.add_assoc, six_succ]; unfold piece; rw [ha, hd]
                  have HPC := Lib.hid hpc
                  have hBK := HBL.out.trans (hB5.mono hsL)
                  have hXK := HX.out.dn hbl hBK
                  obtain ⟨r0, x0, e0⟩ := hXK a han
                  obtain ⟨r1, x1, e1⟩ := hXK d hdn
                  have hN5 := HNL.out.below hB5
                  have n0 := hN5.c0
                  have n1 := hN5.c1
                  have n2 := hN5.c2
                  have nl := hN5.lt
                  have blK := Nat.lt_of_lt_of_le hbl hBK.size
                  clear hrow hpow hB5 hXK hpc ha hd hnk hca hcb hnx hBK hN5
                  go_upto_region 16 with fail
                  have hxE := HE.out
                  cases g1 : fge .f32 (X a) E <;> cases g2 : fge .f32 (X d) E
                  · have hcr : crB X E a d = false := by unfold crB; rw [g1, g2]; rfl
                    (apply region_looseK (k := 15); (kernel_rfl); (kernel_rfl); intro opsL KL hopsL hKL; (dsimp only [List.take]))
                    iterate 15 (apply rel_val; (rfl); (intro wq hbq; have hcq := (bcell hbq).1; (go_simp; first | done | rfl | exact ⟨rfl, rfl⟩)); (try go_simp))
                    (refine wpRel_nil ?_; refine hKL _ _ ?_; clear hKL hopsL opsL KL; intro w1 hb hnews; obtain ⟨hc, hfz⟩ := bcell hb; (try simp only [World.heap_drewN] at hc hfz); have hz := hb.size; (dsimp only [List.drop]))
                    have hB6 := HB5.out.trans (hb.mono hs5)
                    have HB6 := Lib.hid hB6
                    have HR6 := Lib.hid (HR5.out.below hb)
                    have HROW6 := Lib.hid (HROWK.out.of_block (hb.block bn ql))
                    have HPOW6 := Lib.hid (HPOWK.out.of_block (hb.block pn pl))
                    clear hb hc hfz hB6 x0 x1 e0 e1 n0 n1 n2 nl blK q0 q1 ql pl
                    go_wp2
                    go_roundw
                    case rel => exact ⟨k + 1, by omega, by go_num, by rw [HPC.out, hcr, if_neg (by decide), List.append_nil]; exact HR6.out, HVN.out, HVP.out, HROW6.out, HPOW6.out, HB6.out⟩
                    case measure => first | (simp [intOf]; done) | (simp [intOf]; omega)
                  · have hcr : crB X E a d = true := by unfold crB; rw [g1, g2]; rfl
                    (apply region_looseK (k := 15); (kernel_rfl); (kernel_rfl); intro opsL KL hopsL hKL; (dsimp only [List.take]))
                    iterate 15 (apply rel_val; (rfl); (intro wq hbq; have hcq := (bcell hbq).1; (go_simp; first | done | rfl | exact ⟨rfl, rfl⟩)); (try go_simp))
                    (refine wpRel_nil ?_; refine hKL _ _ ?_; clear hKL hopsL opsL KL; intro w1 hb hnews; obtain ⟨hc, hfz⟩ := bcell hb; (try simp only [World.heap_drewN] at hc hfz); have hz := hb.size; (dsimp only [List.drop]))
                    have hB6 := HB5.out.trans (hb.mono hs5)
                    have HB6 := Lib.hid hB6
                    have hs6 := hB6.size
                    obtain ⟨Q, hQ⟩ : ∃ Q, pre X W D E i ++ six X W E i (t * 3 + k) = Q := ⟨_, rfl⟩
                    have hR6 := HR5.out.below hb
                    rw [hQ] at hR6
                    obtain ⟨xs, hown, hxs⟩ := hR6
                    have HROW6 := Lib.hid (HROWK.out.of_block (hb.block bn ql))
                    have HPOW6 := Lib.hid (HPOWK.out.of_block (hb.block pn pl))
                    have hN6 := HNL.out.below hB6
                    have HXS := Lib.hid hxs
                    have HOWN := Lib.hid hown
                    have HMC := Lib.hid (HCR.out a d han hdn w1 (HBL.out.trans (hB6.mono hsL)))
                    have hl : xs.length = Q.length := by have := hown.1; omega
                    have hlen : Q.length ≤ 6 * 256 + 6 := by
                      have l1 := pre_len X W D E i
                      have l2 := six_len X W E i (t * 3 + k)
                      rw [← hQ, List.length_append]
                      omega
                    have HQ := Lib.hid hQ
                    clear hb hc hfz hB6 x0 x1 e0 e1 n0 n1 n2 nl blK q0 q1 ql pl hxs hown hQ
                    have n0 := hN6.c0
                    have n1 := hN6.c1
                    have n2 := hN6.c2
                    have nl := hN6.lt
                    clear hN6
                    go_wp2_with (first | (go_at_call 43; ((with_reducible refine (HMC.out).mono ?_); rintro e w2 ⟨⟨v, rfl, ax, ay, rfl, hax, hay, hox, hoy⟩, hb2⟩; have hown2 := own_below HOWN.out hb2; have hB7 := HB6.out.trans (hb2.mono hs6); have hs7 := hB7.size)) | (at_builtin; refine wpList_append_lies _ rfl (.tmp 98) (.tmp 104) 27 rfl wL.heap.size 63 i0 (.complex .f32 0 0) 1 8 Try.underlying27 hi0 hI0 hI1 hI2 rfl (by decide) _ _ _ rfl (hown2.alloc _) ⟨w2.heap.size, 0, none⟩ 1 1 [.complex .f32 ax ay] rfl rfl (cell_one_new _ _ _) (by intro u hu; simp at hu; subst hu; rfl) (by omega) (by unfold maxLen; omega) (by omega) (by simp; omega) _ rfl ?_; intro gN cap w5 hown5 hgrow5 hlies5 hlt5))
                    go_roundw
                    case rel =>
                      have hbnl := HROW6.out.lt
                      have hrow2 := HROW6.out.of_block (hb2.block bn hbnl)
                      have hbnl2 := hrow2.lt
                      have hpnl := HPOW6.out.lt
                      have hpow2 := HPOW6.out.of_block (hb2.block pn hpnl)
                      have hpnl2 := hpow2.lt
                      have hno : ∀ {z : Nat}, u6.ownBlock ≠ some z → z < w2.heap.size → (Value.slice (some ⟨gN, 0, none⟩) (Q.length + 1) cap).ownBlock ≠ some z := by
                        intro z h1 h2 e
                        have e' : gN = z := by simpa [Value.ownBlock] using e
                        rcases hlies5 with h | h
                        · exact h1 (h.trans (congrArg some e'))
                        · simp at h
                          omega
                      refine ⟨k + 1, by omega, by go_num, ?_, hno HVN.out hbnl2, hno HVP.out hpnl2, ?_, ?_, (hB7.alloc hs7 _).grown hgrow5 (by simp; omega) (fun j hj => (hown2.lt j hj).1)⟩
                      · rw [HPC.out, hcr, if_pos rfl, ← List.append_assoc, HQ.out]
                        exact PRow.snoc hown5 HXS.out hl hax hay
                      · exact (hrow2.alloc _).of_block (hgrow5.block bn (by simp; omega) (fun e => HVN.out e.symm))
                      · exact (hpow2.alloc _).of_block (hgrow5.block pn (by simp; omega) (fun e => HVP.out e.symm))
                    case measure => first | (simp [intOf]; done) | (simp [intOf]; omega)
                  · have hcr : crB X E a d = true := by unfold crB; rw [g1, g2]; rfl
                    (apply region_looseK (k := 15); (kernel_rfl); (kernel_rfl); intro opsL KL hopsL hKL; (dsimp only [List.take]))
                    iterate 15 (apply rel_val; (rfl); (intro wq hbq; have hcq := (bcell hbq).1; (go_simp; first | done | rfl | exact ⟨rfl, rfl⟩)); (try go_simp))
                    (refine wpRel_nil ?_; refine hKL _ _ ?_; clear hKL hopsL opsL KL; intro w1 hb hnews; obtain ⟨hc, hfz⟩ := bcell hb; (try simp only [World.heap_drewN] at hc hfz); have hz := hb.size; (dsimp only [List.drop]))
                    have hB6 := HB5.out.trans (hb.mono hs5)
                    have HB6 := Lib.hid hB6
                    have hs6 := hB6.size
                    obtain ⟨Q, hQ⟩ : ∃ Q, pre X W D E i ++ six X W E i (t * 3 + k) = Q := ⟨_, rfl⟩
                    have hR6 := HR5.out.below hb
                    rw [hQ] at hR6
                    obtain ⟨xs, hown, hxs⟩ := hR6
                    have HROW6 := Lib.hid (HROWK.out.of_block (hb.block bn ql))
                    have HPOW6 := Lib.hid (HPOWK.out.of_block (hb.block pn pl))
                    have hN6 := HNL.out.below hB6
                    have HXS := Lib.hid hxs
                    have HOWN := Lib.hid hown
                    have HMC := Lib.hid (HCR.out a d han hdn w1 (HBL.out.trans (hB6.mono hsL)))
                    have hl : xs.length = Q.length := by have := hown.1; omega
                    have hlen : Q.length ≤ 6 * 256 + 6 := by
                      have l1 := pre_len X W D E i
                      have l2 := six_len X W E i (t * 3 + k)
                      rw [← hQ, List.length_append]
                      omega
                    have HQ := Lib.hid hQ
                    clear hb hc hfz hB6 x0 x1 e0 e1 n0 n1 n2 nl blK q0 q1 ql pl hxs hown hQ
                    have n0 := hN6.c0
                    have n1 := hN6.c1
                    have n2 := hN6.c2
                    have nl := hN6.lt
                    clear hN6
                    go_wp2_with (first | (go_at_call 43; ((with_reducible refine (HMC.out).mono ?_); rintro e w2 ⟨⟨v, rfl, ax, ay, rfl, hax, hay, hox, hoy⟩, hb2⟩; have hown2 := own_below HOWN.out hb2; have hB7 := HB6.out.trans (hb2.mono hs6); have hs7 := hB7.size)) | (at_builtin; refine wpList_append_lies _ rfl (.tmp 98) (.tmp 104) 27 rfl wL.heap.size 63 i0 (.complex .f32 0 0) 1 8 Try.underlying27 hi0 hI0 hI1 hI2 rfl (by decide) _ _ _ rfl (hown2.alloc _) ⟨w2.heap.size, 0, none⟩ 1 1 [.complex .f32 ax ay] rfl rfl (cell_one_new _ _ _) (by intro u hu; simp at hu; subst hu; rfl) (by omega) (by unfold maxLen; omega) (by omega) (by simp; omega) _ rfl ?_; intro gN cap w5 hown5 hgrow5 hlies5 hlt5))
                    go_roundw
                    case rel =>
                      have hbnl := HROW6.out.lt
                      have hrow2 := HROW6.out.of_block (hb2.block bn hbnl)
                      have hbnl2 := hrow2.lt
                      have hpnl := HPOW6.out.lt
                      have hpow2 := HPOW6.out.of_block (hb2.block pn hpnl)
                      have hpnl2 := hpow2.lt
                      have hno : ∀ {z : Nat}, u6.ownBlock ≠ some z → z < w2.heap.size → (Value.slice (some ⟨gN, 0, none⟩) (Q.length + 1) cap).ownBlock ≠ some z := by
                        intro z h1 h2 e
                        have e' : gN = z := by simpa [Value.ownBlock] using e
                        rcases hlies5 with h | h
                        · exact h1 (h.trans (congrArg some e'))
                        · simp at h
                          omega
                      refine ⟨k + 1, by omega, by go_num, ?_, hno HVN.out hbnl2, hno HVP.out hpnl2, ?_, ?_, (hB7.alloc hs7 _).grown hgrow5 (by simp; omega) (fun j hj => (hown2.lt j hj).1)⟩
                      · rw [HPC.out, hcr, if_pos rfl, ← List.append_assoc, HQ.out]
                        exact PRow.snoc hown5 HXS.out hl hax hay
                      · exact (hrow2.alloc _).of_block (hgrow5.block bn (by simp; omega) (fun e => HVN.out e.symm))
                      · exact (hpow2.alloc _).of_block (hgrow5.block pn (by simp; omega) (fun e => HVP.out e.symm))
                    case measure => first | (simp [intOf]; done) | (simp [intOf]; omega)
                  · have hcr : crB X E a d = false := by unfold crB; rw [g1, g2]; rfl
                    (apply region_looseK (k := 15); (kernel_rfl); (kernel_rfl); intro opsL KL hopsL hKL; (dsimp only [List.take]))
                    iterate 15 (apply rel_val; (rfl); (intro wq hbq; have hcq := (bcell hbq).1; (go_simp; first | done | rfl | exact ⟨rfl, rfl⟩)); (try go_simp))
                    (refine wpRel_nil ?_; refine hKL _ _ ?_; clear hKL hopsL opsL KL; intro w1 hb hnews; obtain ⟨hc, hfz⟩ := bcell hb; (try simp only [World.heap_drewN] at hc hfz); have hz := hb.size; (dsimp only [List.drop]))
                    have hB6 := HB5.out.trans (hb.mono hs5)
                    have HB6 := Lib.hid hB6
                    have HR6 := Lib.hid (HR5.out.below hb)
                    have HROW6 := Lib.hid (HROWK.out.of_block (hb.block bn ql))
                    have HPOW6 := Lib.hid (HPOWK.out.of_block (hb.block pn pl))
                    clear hb hc hfz hB6 x0 x1 e0 e1 n0 n1 n2 nl blK q0 q1 ql pl
                    go_wp2
                    go_roundw
                    case rel => exact ⟨k + 1, by omega, by go_num, by rw [HPC.out, hcr, if_neg (by decide), List.append_nil]; exact HR6.out, HVN.out, HVP.out, HROW6.out, HPOW6.out, HB6.out⟩
                    case measure => first | (simp [intOf]; done) | (simp [intOf]; omega)
                · obtain rfl : k = 3 := by omega
                  have hR9 := HR5.out
                  rw [show t * 3 + 3 = (t + 1) * 3 by omega] at hR9
                  have HR9 := Lib.hid hR9
                  clear hR9 hrow hpow hB5
                  go_wp2
                  go_roundw
                  case rel => exact ⟨t + 1, by omega, by go_num, HR9.out, HVN.out, HROWK.out, HB5.out⟩
                  case measure => first | (simp [intOf]; done) | (simp [intOf]; omega)
            · obtain rfl : t = 2 := by omega
              have hR9 := HR3.out
              rw [show 2 * 3 = 6 by rfl, ← HPE.out] at hR9
              have HR9 := Lib.hid hR9
              clear hR9 hrow hB3
              go_wp2
              go_roundw
              case rel => exact ⟨i + 1, by omega, by go_num, HR9.out, HB3.out⟩
              case measure => first | (simp [intOf]; done) | (simp [intOf]; omega)
    · obtain rfl : i = n := by omega
      have hlt' : ¬ ((i : Int) < (i : Int)) := by omega
      have hR := HR.out
      rw [← HPP.out] at hR
      have hCA := hR.carr
      have HCA := Lib.hid hCA
      have HFP := Lib.hid (fun K hK => finitePoints_c _ _ _ _ _ wO HLP.out hCA K hK)
      have hBO := HBL.out.trans (HB.out.mono hsL)
      have HBO := Lib.hid hBO
      have hsO := hBO.size
      clear hR hCA c0 c1 c2 pl hBO
      have hFK := HFP.out (allC (cpX (W : Int) (D : Int) i X E) (cpY (W : Int) (D : Int) i X E) (cpP (W : Int) (D : Int) i X E).length) rfl
      have hKQ := HK.out
      have HFK := Lib.hid hFK
      have HKQ := Lib.hid hKQ
      clear HK HFP HR HPP HLP hFK hKQ
      generalize allC (cpX (W : Int) (D : Int) i X E) (cpY (W : Int) (D : Int) i X E) (cpP (W : Int) (D : Int) i X E).length = K at HFK HKQ
      cases K
      · go_wp2_with (go_at_call 44; ((with_reducible refine (HFK.out).mono ?_); rintro e w4 ⟨hh, hb4⟩; simp only [Bool.false_eq_true, if_false] at hh; subst hh))
        go_ret2
        exact CPR.no HKQ.out (CRes.nil (HBO.out.trans (hb4.mono hsO)))
      · go_wp2_with (go_at_call 44; ((with_reducible refine (HFK.out).mono ?_); rintro e w4 ⟨hh, hb4⟩; simp only [if_true] at hh; subst hh))
        go_ret2
        exact CPR.yes HKQ.out ⟨_, rfl, (HCA.out.below hb4).lo hsL, HBO.out.trans (hb4.mono hsO)⟩
set_option maxRecDepth 100000 in
set_option maxHeartbeats 4000000 in
theorem iContour_c (W H : Int) (b n c : Nat) (X : Nat → Nat) (x E : Nat) (w : World) (hn : n ≤ 1048576) (hbl : b < w.heap.size) (hX : FlCells w b n X) (hx : cn .f32 x = E) :
    Calls Try.prog 12 #[.agg #[.int .i64 W, .int .i64 H, .slice (some ⟨b, 0, none⟩) n c], .float .f32 x] w (CPR W H n X E w) := by
  have hb0 : Below w.heap.size w (w.alloc (.cells #[.int .i64 W, .int .i64 H, .slice (some ⟨b, 0, none⟩) n c] 30)) := by (with_reducible repeat (first | exact Below.refl _ _ | apply below_alloc | apply below_dN | apply below_d | refine below_setCell ?_ (by dsimp only; omega) | refine below_call (by assumption) ?_))
  have hs0 : (w.alloc (.cells #[.int .i64 W, .int .i64 H, .slice (some ⟨b, 0, none⟩) n c] 30)).heap.size = w.heap.size + 1 := by simp
  have hVG := iValidGrid_c b n c W H X (w.alloc (.cells #[.int .i64 W, .int .i64 H, .slice (some ⟨b, 0, none⟩) n c] 30)) hn (by omega) (hX.dn hbl hb0)
  have hFI := fun w => iFinite_c x E hx w
  cases hq : gridOk W H n X
  · refine Calls.mono ?_ (fun e w' h => CPR.no (by unfold cpQ; rw [hq]; rfl) h)
    rw [hq] at hVG
    have HVG := Lib.hid hVG
    clear hVG hX hq hFI
    go_enter Try.func12, Try.ntmps12
    go_wp2_with (go_at_call 40; ((with_reducible refine (HVG.out).mono ?_); rintro e wA ⟨⟨v, rfl, rfl⟩, hbA⟩))
    go_ret2
    exact CRes.nil (hb0.trans (hbA.mono (by omega)))
  · cases hf : fin .f32 E
    · refine Calls.mono ?_ (fun e w' h => CPR.no (by unfold cpQ; rw [hq, hf]; rfl) h)
      rw [hq] at hVG
      rw [hf] at hFI
      have HVG := Lib.hid hVG
      have HFI := Lib.hid hFI
      clear hVG hX hq hFI hf
      go_enter Try.func12, Try.ntmps12
      go_wp2_with (first | (go_at_call 40; ((with_reducible refine (HVG.out).mono ?_); rintro e wA ⟨⟨v, rfl, rfl⟩, hbA⟩)) | (go_at_call 41; ((with_reducible refine (HFI.out _).mono ?_); rintro e wB ⟨⟨v, rfl, rfl⟩, hbB⟩)))
      go_ret2
      have hB1 := hb0.trans (hbA.mono (by omega))
      exact CRes.nil (hB1.trans (hbB.mono hB1.size))
    · obtain ⟨a, d, e1, e2, h1, h2, h3, h4, hnn, -⟩ := gridOk_facts hq
      subst e1 e2
      exact iPieces_c a d b n c x E X w h1 h2 h3 h4 hnn hq hf hbl hX hx
theorem pre_len2 (X : Nat → Nat) (W D E : Nat) (hW : 0 < W) : ∀ i, (pre X W D E i).length + 6 * (i / W) ≤ 6 * i
  | 0 => by simp [pre]
  | i + 1 => by
    have h1 := pre_len2 X W D E hW i
    have h2 := six_len X W E i 6
    rw [pre_succ, List.length_append]
    unfold cellP
    by_cases hc : i % W + 1 = W
    · rw [if_pos (Or.inl hc)]
      have : (i + 1) / W = i / W + 1 := by
        have e := Nat.div_add_mod i W
        have : i + 1 = W * (i / W + 1) := by rw [Nat.mul_add, Nat.mul_one]; omega
        rw [this, Nat.mul_div_cancel_left _ hW]
      rw [this]
      simp only [List.length_nil]
      omega
    · have : (i + 1) / W = i / W := by
        have e := Nat.div_add_mod i W
        have hm := Nat.mod_lt i hW
        have e2 : i + 1 = W * (i / W) + (i % W + 1) := by omega
        have e3 : (W * (i / W) + (i % W + 1)) / W = i / W + (i % W + 1) / W := Nat.mul_add_div hW _ _
        rw [← e2, Nat.div_eq_of_lt (show i % W + 1 < W by omega)] at e3
        exact e3
      rw [this]
      split
      · simp only [List.length_nil]; omega
      · omega
theorem cpP_len {W H : Int} {n : Nat} {X : Nat → Nat} {E : Nat} (h : cpQ W H n X E = true) : (cpP W H n X E).length ≤ 1400 := by
  have hq : gridOk W H n X = true := by
    unfold cpQ at h
    simp only [Bool.and_eq_true] at h
    exact h.1.1
  obtain ⟨a, d, rfl, rfl, h1, h2, h3, h4, hnn, -⟩ := gridOk_facts hq
  unfold cpP
  simp only [Int.toNat_natCast]
  have e : n = (d - 1) * a + a := by
    rw [hnn, Nat.mul_comm]
    have : d * a = (d - 1 + 1) * a := by rw [show d - 1 + 1 = d by omega]
    rw [this, Nat.add_mul, Nat.one_mul]
  rw [e, pre_row (D := d) (by omega) a (Nat.le_refl _)]
  have hl := pre_len2 X a d E (by omega) ((d - 1) * a)
  rw [Nat.mul_div_cancel _ (by omega)] at hl
  have hm : (d - 1) * (a - 1) ≤ 15 * 15 := Nat.mul_le_mul (by omega) (by omega)
  have e2 : (d - 1) * a = (d - 1) * (a - 1) + (d - 1) := by
    have : (d - 1) * a = (d - 1) * (a - 1 + 1) := by rw [show a - 1 + 1 = a by omega]
    rw [this, Nat.mul_add, Nat.mul_one]
  omega
theorem CArr.keep1 {w w' : World} {lo n g : Nat} {v : Value} {X Y : Nat → Nat} (hI : CArr w lo v n X Y) (hk : Keep1 g w w') (hg : g < lo) : CArr w' lo v n X Y := by
  rcases hI with hI | ⟨q, cap, F, rfl, h1, h2, h3⟩
  · exact .inl hI
  · exact .inr ⟨q, cap, F, rfl, h1, h2.of_block (hk q h2.lt (by omega)), h3⟩
end Go.Proofs.Ytbnnpeecajjipaa
