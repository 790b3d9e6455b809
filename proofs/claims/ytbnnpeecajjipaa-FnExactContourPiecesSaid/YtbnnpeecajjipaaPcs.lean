/- Contract of spec.l06Pieces. No condition. -/
import Derived.Test.YtbnnpeecajjipaaPc
import Derived.Deep.AppendLies
namespace Go.Proofs.Ytbnnpeecajjipaa
open Go.RowKit
set_option linter.unusedSimpArgs false
theorem pre_cell {X : Nat → Nat} {W D E y x : Nat} (hx : x + 1 < W) (hy : y + 1 < D) : pre X W D E (y * W + x + 1) = pre X W D E (y * W + x) ++ six X W E (y * W + x) 6 := by
  rw [pre_succ]
  unfold cellP
  have e1 : (y * W + x) % W = x := by rw [Nat.mul_comm, Nat.mul_add_mod, Nat.mod_eq_of_lt (by omega)]
  have e2 : (y * W + x) / W = y := by rw [Nat.mul_comm, Nat.mul_add_div (by omega), Nat.div_eq_of_lt (by omega)]; rfl
  rw [e1, e2, if_neg (by omega)]
theorem pre_col {X : Nat → Nat} {W D E y x : Nat} (hx : x + 1 = W) : pre X W D E (y * W + x + 1) = pre X W D E (y * W + x) := by
  rw [pre_succ]
  unfold cellP
  have e1 : (y * W + x) % W = x := by rw [Nat.mul_comm, Nat.mul_add_mod, Nat.mod_eq_of_lt (by omega)]
  rw [e1, if_pos (Or.inl hx), List.append_nil]
theorem pre_row {X : Nat → Nat} {W D E y : Nat} (hy : y + 1 = D) : ∀ t, t ≤ W → pre X W D E (y * W + t) = pre X W D E (y * W)
  | 0, _ => rfl
  | t + 1, h => by
    have ih := pre_row (X := X) (W := W) (D := D) (E := E) (y := y) hy t (Nat.le_of_succ_le h)
    rw [← ih, ← Nat.add_assoc, pre_succ]
    unfold cellP
    have e2 : (y * W + t) / W = y := by rw [Nat.mul_comm, Nat.mul_add_div (show 0 < W by omega), Nat.div_eq_of_lt (show t < W by omega)]; rfl
    rw [e2, if_pos (Or.inr hy), List.append_nil]
set_option maxRecDepth 100000 in
set_option maxHeartbeats 8000000 in
theorem l06Pieces_c (p W D b n c x E : Nat) (X : Nat → Nat) (w : World) (h1 : 2 ≤ W) (h2 : W ≤ 16) (h3 : 2 ≤ D) (h4 : D ≤ 16) (hn : n = W * D) (c0 : w.cell? ⟨p, 0, none⟩ = some (.int .i64 W)) (c1 : w.cell? ⟨p, 1, none⟩ = some (.int .i64 D)) (c2 : w.cell? ⟨p, 2, none⟩ = some (.slice (some ⟨b, 0, none⟩) n c)) (hbl : b < w.heap.size) (hX : FlCells w b n X) (hx : cn .f32 x = E) :
    Calls Try.prog 37 #[.pointer (some ⟨p, 0, none⟩), .float .f32 x] w fun e w' => ∃ v, e = .returned v ∧ PRow w' w.heap.size v (pre X W D E n) ∧ Below w.heap.size w w' := by
  have hpl := block_lt_of_cell c0
  simp only at hpl
  obtain ⟨i0, hi0, hI0, hI1, hI2⟩ := info_parts info_c64
  have hnb : n ≤ 256 := by rw [hn]; exact Nat.mul_le_mul h2 h4
  have HM := Lib.hid (fun a d (ha : a < n) (hd : d < n) (w' : World) (hB : Below w.heap.size w w') => l06Meet_c p W b n c a d x E X w' h1 h2 hnb ((hB.cell (p := ⟨p, 0, none⟩) hpl).trans c0) ((hB.cell (p := ⟨p, 2, none⟩) hpl).trans c2) (Nat.lt_of_lt_of_le hbl hB.size) (hX.dn hbl hB) ha hd hx)
  have C0 := Lib.hid c0
  have C1 := Lib.hid c1
  have C2 := Lib.hid c2
  have HX := Lib.hid hX
  have HNE := Lib.hid hn
  have HE := Lib.hid hx
  clear c0 c1 c2 hX hn hx
  go_enter Try.func37, Try.ntmps37
  go_wp2
  go_loopw [5, 6] (fun ov yv wr => ∃ y : Nat, y + 1 ≤ D ∧ yv = .int .i64 y ∧ PRow wr w.heap.size ov (pre X W D E (y * W)) ∧ Below w.heap.size w wr) (fun _ yv _ => D - (intOf yv).toNat)
  case atStart => exact ⟨0, by omega, rfl, by
    rw [Nat.zero_mul]
    exact ⟨[], ⟨rfl, .inr ⟨w.heap.size, 0, #[], rfl, Nat.le_refl _, heap_alloc_new _ _, Nat.le_refl _, by simp [maxLen], rfl, rfl⟩⟩, fun j q h => by simp [pre] at h⟩, by (with_reducible repeat (first | exact Below.refl _ _ | apply below_alloc | apply below_dN | apply below_d | refine below_setCell ?_ (by dsimp only; omega) | refine below_call (by assumption) ?_))⟩
  case round =>
    rename World => wY
    obtain ⟨y, hy, rfl, hR, hB⟩ := hrel
    have c1 := (hB.cell (p := ⟨p, 1, none⟩) hpl).trans C1.out
    have plY := Nat.lt_of_lt_of_le hpl hB.size
    have HR := Lib.hid hR
    have HB := Lib.hid hB
    clear hR hB
    by_cases hlt : y + 1 < D
    · have hlti : (y : Int) + 1 < (D : Int) := by omega
      go_wp2
      clear c1 plY
      go_loopw [5, 7] (fun ov xv wr => ∃ x' : Nat, x' + 1 ≤ W ∧ xv = .int .i64 x' ∧ PRow wr w.heap.size ov (pre X W D E (y * W + x')) ∧ Below w.heap.size w wr) (fun _ xv _ => W - (intOf xv).toNat)
      case atStart => exact ⟨0, by omega, rfl, HR.out, HB.out⟩
      case round =>
        rename World => wX
        obtain ⟨x', hx', rfl, hR2, hB2⟩ := hrel
        have c0 := (hB2.cell (p := ⟨p, 0, none⟩) hpl).trans C0.out
        have plX := Nat.lt_of_lt_of_le hpl hB2.size
        have HR2 := Lib.hid hR2
        have HB2 := Lib.hid hB2
        have hs2 := hB2.size
        clear hR2 hB2
        by_cases hlx : x' + 1 < W
        · have hlxi : (x' : Int) + 1 < (W : Int) := by omega
          obtain ⟨m, hm⟩ : ∃ m, y * W = m := ⟨_, rfl⟩
          have hmb : m + W + W ≤ n := by
            rw [HNE.out, ← hm]
            have : (y + 2) * W ≤ D * W := Nat.mul_le_mul_right W (by omega)
            rw [Nat.mul_comm W D]
            have e : (y + 2) * W = y * W + W + W := by rw [Nat.add_mul]; omega
            omega
          have hw1 : IntKind.i64.wrap ((y : Int) * (W : Int)) = (m : Int) := by
            have e : (y : Int) * (W : Int) = (m : Int) := by rw [← hm, Int.natCast_mul]
            rw [e, IntKind.wrap_i64]; omega
          obtain ⟨i, hi⟩ : ∃ i, m + x' = i := ⟨_, rfl⟩
          obtain ⟨i1, hi1⟩ : ∃ i1, i + 1 = i1 := ⟨_, rfl⟩
          obtain ⟨iW, hiW⟩ : ∃ iW, i + W = iW := ⟨_, rfl⟩
          obtain ⟨i3, hi3⟩ : ∃ i3, iW + 1 = i3 := ⟨_, rfl⟩
          have hw2 : IntKind.i64.wrap ((m : Int) + (x' : Int)) = (i : Int) := by rw [IntKind.wrap_i64]; omega
          have hw3 : IntKind.i64.wrap ((i : Int) + 1) = (i1 : Int) := by rw [IntKind.wrap_i64]; omega
          have hw4 : IntKind.i64.wrap ((i : Int) + (W : Int)) = (iW : Int) := by rw [IntKind.wrap_i64]; omega
          have hw5 : IntKind.i64.wrap ((iW : Int) + 1) = (i3 : Int) := by rw [IntKind.wrap_i64]; omega
          have hin : i + W + 1 < n := by omega
          have HI := Lib.hid (⟨hm, hi, hi1, hiW, hi3⟩ : y * W = m ∧ m + x' = i ∧ i + 1 = i1 ∧ i + W = iW ∧ iW + 1 = i3)
          have HR3 := Lib.hid (show PRow wX w.heap.size _ (pre X W D E i) by rw [← hi, ← hm]; exact HR2.out)
          clear hm hi hi1 hiW hi3
          go_upto_region 9 with fail
          (apply region_looseK (k := 25); (kernel_rfl); (kernel_rfl); intro opsL KL hopsL hKL; (dsimp only [List.take]))
          iterate 24 (apply rel_val; (rfl); (intro wq hbq; have hcq := (bcell hbq).1; (go_simp; first | done | rfl | exact ⟨rfl, rfl⟩)); (try go_simp))
          (apply rel_new (RV undef) 7; (rfl); (intro wq hbq; have hcq := (bcell hbq).1; go_simp; (first | done | rfl | exact ⟨rfl, rfl⟩)))
          intro bn hbn
          dsimp only [nv]
          (try go_simp)
          (refine wpRel_nil ?_; refine hKL _ _ ?_; clear hKL hopsL opsL KL; intro w1 hb hnews; obtain ⟨hc, hfz⟩ := bcell hb; (try simp only [World.heap_drewN] at hc hfz); have hz := hb.size; (dsimp only [List.drop]))
          obtain ⟨⟨bn', e1, e2⟩, -⟩ := hnews
          obtain rfl : bn = bn' := by simpa [nv] using e1
          obtain ⟨hm, hi, hi1, hiW, hi3⟩ := HI.out
          have hrow : w1.rowIs bn 2 6 (fun j => .int .i64 ((i + ca W j : Nat) : Int)) := ⟨_, e2, rfl, fun j hj => by
            match j, hj with
            | 0, _ => rfl
            | 1, _ => subst hi1; rfl
            | 2, _ => subst hi3 hiW; rfl
            | 3, _ => rfl
            | 4, _ => subst hi3 hiW; rfl
            | 5, _ => subst hiW; rfl⟩
          have hBw := HB2.out.trans (hb.mono hs2)
          have hR4 := HR3.out.below hb
          have hbl1 := hrow.lt
          have HROW := Lib.hid hrow
          have HBW := Lib.hid hBw
          have HR4 := Lib.hid hR4
          have hin6 : i + W + 1 < n := hin
          have hvb : ∀ {P : List (Nat × Nat)} {v : Value}, PRow wX w.heap.size v P → v.ownBlock ≠ some bn := fun {P v} h e => by
            obtain ⟨xs, h, -⟩ := h
            have := (h.lt _ e).2
            omega
          have hv0 := hvb HR3.out
          have HV0 := Lib.hid hv0
          clear hb hc hfz e1 e2 hrow hBw hR4 hm hi hi1 hiW hi3 c0 plX hvb hv0 hbn
          go_wp2
          go_loopw [5, 10] (fun ov kv wr => ∃ k : Nat, k ≤ 6 ∧ kv = .int .i64 k ∧ PRow wr w.heap.size ov (pre X W D E i ++ six X W E i k) ∧ ov.ownBlock ≠ some bn ∧ wr.rowIs bn 2 6 (fun j => .int .i64 ((i + ca W j : Nat) : Int)) ∧ Below w.heap.size w wr) (fun _ kv _ => 6 - (intOf kv).toNat)
          case atStart => exact ⟨0, by omega, rfl, by rw [six_zero, List.append_nil]; exact HR4.out, HV0.out, HROW.out, HBW.out⟩
          case round =>
            rename World => wK
            obtain ⟨k, hk, rfl, hR5, hvn, hrow, hB5⟩ := hrel
            have HROWK := Lib.hid hrow
            have HB5 := Lib.hid hB5
            have hs5 := hB5.size
            have HR5 := Lib.hid hR5
            have HVN := Lib.hid hvn
            clear hR5 hvn
            by_cases hlk : k < 6
            · have hlki : (k : Int) < 6 := by omega
              have hnx := nx_lt hlk
              have hca := ca_le W k
              have hcb := ca_le W (nx k)
              obtain ⟨a, ha⟩ : ∃ a, i + ca W k = a := ⟨_, rfl⟩
              obtain ⟨d, hd⟩ : ∃ d, i + ca W (nx k) = d := ⟨_, rfl⟩
              have han : a < n := by omega
              have hdn : d < n := by omega
              have q0 := hrow.cell (i := k) (by omega)
              have q1 := hrow.cell (i := nx k) hnx
              rw [ha] at q0
              rw [hd] at q1
              have ql := hrow.lt
              have hani : (a : Int) < (n : Int) := by omega
              have hdni : (d : Int) < (n : Int) := by omega
              obtain ⟨nk, hnk⟩ : ∃ nk, nx k = nk := ⟨_, rfl⟩
              rw [hnk] at q1 hnx
              have hnki : (k : Int) / 3 * 3 + ((k : Int) + 1) % 3 = (nk : Int) := by unfold nx at hnk; omega
              have hnk6 : (nk : Int) < 6 := by omega
              have hpc : six X W E i (k + 1) = six X W E i k ++ (if crB X E a d = true then [(mtX X W E a d, mtY X W E a d)] else []) := by rw [six_succ]; unfold piece; rw [ha, hd]
              have HPC := Lib.hid hpc
              have hXK := HX.out.dn hbl hB5
              obtain ⟨r0, x0, e0⟩ := hXK a han
              obtain ⟨r1, x1, e1⟩ := hXK d hdn
              have z2 := (hB5.cell (p := ⟨p, 2, none⟩) hpl).trans C2.out
              have plK := Nat.lt_of_lt_of_le hpl hB5.size
              have blK := Nat.lt_of_lt_of_le hbl hB5.size
              clear hrow hB5 hXK hpc ha hd hnk hca hcb
              go_upto_region 16 with fail
              have hxE := HE.out
              cases g1 : fge .f32 (X a) E <;> cases g2 : fge .f32 (X d) E
              · have hcr : crB X E a d = false := by unfold crB; rw [g1, g2]; rfl
                (apply region_looseK (k := 19); (kernel_rfl); (kernel_rfl); intro opsL KL hopsL hKL; (dsimp only [List.take]))
                iterate 19 (apply rel_val; (rfl); (intro wq hbq; have hcq := (bcell hbq).1; (go_simp; first | done | rfl | exact ⟨rfl, rfl⟩)); (try go_simp))
                (refine wpRel_nil ?_; refine hKL _ _ ?_; clear hKL hopsL opsL KL; intro w1 hb hnews; obtain ⟨hc, hfz⟩ := bcell hb; (try simp only [World.heap_drewN] at hc hfz); have hz := hb.size; (dsimp only [List.drop]))
                have hB6 := HB5.out.trans (hb.mono hs5)
                have HB6 := Lib.hid hB6
                have HR6 := Lib.hid (HR5.out.below hb)
                have HROW6 := Lib.hid (HROWK.out.of_block (hb.block bn ql))
                clear hb hc hfz hB6 x0 x1 e0 e1 z2 plK blK q0 q1 ql hw1 hw2 hw3 hw4 hw5
                go_wp2
                go_roundw
                case rel => exact ⟨k + 1, by omega, by go_num, by rw [HPC.out, hcr, if_neg (by decide), List.append_nil]; exact HR6.out, HVN.out, HROW6.out, HB6.out⟩
                case measure => first | (simp [intOf]; done) | (simp [intOf]; omega)
              · have hcr : crB X E a d = true := by unfold crB; rw [g1, g2]; rfl
                (apply region_looseK (k := 19); (kernel_rfl); (kernel_rfl); intro opsL KL hopsL hKL; (dsimp only [List.take]))
                iterate 19 (apply rel_val; (rfl); (intro wq hbq; have hcq := (bcell hbq).1; (go_simp; first | done | rfl | exact ⟨rfl, rfl⟩)); (try go_simp))
                (refine wpRel_nil ?_; refine hKL _ _ ?_; clear hKL hopsL opsL KL; intro w1 hb hnews; obtain ⟨hc, hfz⟩ := bcell hb; (try simp only [World.heap_drewN] at hc hfz); have hz := hb.size; (dsimp only [List.drop]))
                have hB6 := HB5.out.trans (hb.mono hs5)
                have HB6 := Lib.hid hB6
                have hs6 := hB6.size
                obtain ⟨Q, hQ⟩ : ∃ Q, pre X W D E i ++ six X W E i k = Q := ⟨_, rfl⟩
                have hR6 := HR5.out.below hb
                rw [hQ] at hR6
                obtain ⟨xs, hown, hxs⟩ := hR6
                have HROW6 := Lib.hid (HROWK.out.of_block (hb.block bn ql))
                have HXS := Lib.hid hxs
                have HOWN := Lib.hid hown
                have HMC := Lib.hid (HM.out a d han hdn w1 hB6)
                have hl : xs.length = Q.length := by have := hown.1; omega
                have hlen : Q.length ≤ 6 * 256 + 6 := by
                  have l1 := pre_len X W D E i
                  have l2 := six_len X W E i k
                  rw [← hQ, List.length_append]
                  omega
                have HQ := Lib.hid hQ
                clear hb hc hfz hB6 x0 x1 e0 e1 z2 plK blK q0 q1 ql hw1 hw2 hw3 hw4 hw5 hxs hown hQ
                go_wp2_with (first | (go_at_call 61; ((with_reducible refine (HMC.out).mono ?_); rintro e w2 ⟨⟨v, rfl, ax, ay, rfl, hax, hay, hox, hoy⟩, hb2⟩; have hown2 := own_below HOWN.out hb2; have hB7 := HB6.out.trans (hb2.mono hs6); have hs7 := hB7.size)) | (at_builtin; refine wpList_append_lies _ rfl (.tmp 104) (.tmp 110) 27 rfl w.heap.size 63 i0 (.complex .f32 0 0) 1 8 Try.underlying27 hi0 hI0 hI1 hI2 rfl (by decide) _ _ _ rfl (hown2.alloc _) ⟨w2.heap.size, 0, none⟩ 1 1 [.complex .f32 ax ay] rfl rfl (cell_one_new _ _ _) (by intro u hu; simp at hu; subst hu; rfl) (by omega) (by unfold maxLen; omega) (by omega) (by simp; omega) _ rfl ?_; intro gN cap w5 hown5 hgrow5 hlies5 hlt5))
                go_roundw
                case rel =>
                  have hbnl := HROW6.out.lt
                  have hrow2 := HROW6.out.of_block (hb2.block bn hbnl)
                  have hbnl2 := hrow2.lt
                  refine ⟨k + 1, by omega, by go_num, ?_, ?_, ?_, (hB7.alloc hs7 _).grown hgrow5 (by simp; omega) (fun j hj => (hown2.lt j hj).1)⟩
                  · rw [HPC.out, hcr, if_pos rfl, ← List.append_assoc, HQ.out]
                    exact PRow.snoc hown5 HXS.out hl hax hay
                  · intro e
                    have e' : gN = bn := by simpa [Value.ownBlock] using e
                    rcases hlies5 with h | h
                    · exact HVN.out (h.trans (congrArg some e'))
                    · simp at h
                      omega
                  · exact (hrow2.alloc _).of_block (hgrow5.block bn (by simp; omega) (fun e => HVN.out e.symm))
                case measure => first | (simp [intOf]; done) | (simp [intOf]; omega)
              · have hcr : crB X E a d = true := by unfold crB; rw [g1, g2]; rfl
                (apply region_looseK (k := 19); (kernel_rfl); (kernel_rfl); intro opsL KL hopsL hKL; (dsimp only [List.take]))
                iterate 19 (apply rel_val; (rfl); (intro wq hbq; have hcq := (bcell hbq).1; (go_simp; first | done | rfl | exact ⟨rfl, rfl⟩)); (try go_simp))
                (refine wpRel_nil ?_; refine hKL _ _ ?_; clear hKL hopsL opsL KL; intro w1 hb hnews; obtain ⟨hc, hfz⟩ := bcell hb; (try simp only [World.heap_drewN] at hc hfz); have hz := hb.size; (dsimp only [List.drop]))
                have hB6 := HB5.out.trans (hb.mono hs5)
                have HB6 := Lib.hid hB6
                have hs6 := hB6.size
                obtain ⟨Q, hQ⟩ : ∃ Q, pre X W D E i ++ six X W E i k = Q := ⟨_, rfl⟩
                have hR6 := HR5.out.below hb
                rw [hQ] at hR6
                obtain ⟨xs, hown, hxs⟩ := hR6
                have HROW6 := Lib.hid (HROWK.out.of_block (hb.block bn ql))
                have HXS := Lib.hid hxs
                have HOWN := Lib.hid hown
                have HMC := Lib.hid (HM.out a d han hdn w1 hB6)
                have hl : xs.length = Q.length := by have := hown.1; omega
                have hlen : Q.length ≤ 6 * 256 + 6 := by
                  have l1 := pre_len X W D E i
                  have l2 := six_len X W E i k
                  rw [← hQ, List.length_append]
                  omega
                have HQ := Lib.hid hQ
                clear hb hc hfz hB6 x0 x1 e0 e1 z2 plK blK q0 q1 ql hw1 hw2 hw3 hw4 hw5 hxs hown hQ
                go_wp2_with (first | (go_at_call 61; ((with_reducible refine (HMC.out).mono ?_); rintro e w2 ⟨⟨v, rfl, ax, ay, rfl, hax, hay, hox, hoy⟩, hb2⟩; have hown2 := own_below HOWN.out hb2; have hB7 := HB6.out.trans (hb2.mono hs6); have hs7 := hB7.size)) | (at_builtin; refine wpList_append_lies _ rfl (.tmp 104) (.tmp 110) 27 rfl w.heap.size 63 i0 (.complex .f32 0 0) 1 8 Try.underlying27 hi0 hI0 hI1 hI2 rfl (by decide) _ _ _ rfl (hown2.alloc _) ⟨w2.heap.size, 0, none⟩ 1 1 [.complex .f32 ax ay] rfl rfl (cell_one_new _ _ _) (by intro u hu; simp at hu; subst hu; rfl) (by omega) (by unfold maxLen; omega) (by omega) (by simp; omega) _ rfl ?_; intro gN cap w5 hown5 hgrow5 hlies5 hlt5))
                go_roundw
                case rel =>
                  have hbnl := HROW6.out.lt
                  have hrow2 := HROW6.out.of_block (hb2.block bn hbnl)
                  have hbnl2 := hrow2.lt
                  refine ⟨k + 1, by omega, by go_num, ?_, ?_, ?_, (hB7.alloc hs7 _).grown hgrow5 (by simp; omega) (fun j hj => (hown2.lt j hj).1)⟩
                  · rw [HPC.out, hcr, if_pos rfl, ← List.append_assoc, HQ.out]
                    exact PRow.snoc hown5 HXS.out hl hax hay
                  · intro e
                    have e' : gN = bn := by simpa [Value.ownBlock] using e
                    rcases hlies5 with h | h
                    · exact HVN.out (h.trans (congrArg some e'))
                    · simp at h
                      omega
                  · exact (hrow2.alloc _).of_block (hgrow5.block bn (by simp; omega) (fun e => HVN.out e.symm))
                case measure => first | (simp [intOf]; done) | (simp [intOf]; omega)
              · have hcr : crB X E a d = false := by unfold crB; rw [g1, g2]; rfl
                (apply region_looseK (k := 19); (kernel_rfl); (kernel_rfl); intro opsL KL hopsL hKL; (dsimp only [List.take]))
                iterate 19 (apply rel_val; (rfl); (intro wq hbq; have hcq := (bcell hbq).1; (go_simp; first | done | rfl | exact ⟨rfl, rfl⟩)); (try go_simp))
                (refine wpRel_nil ?_; refine hKL _ _ ?_; clear hKL hopsL opsL KL; intro w1 hb hnews; obtain ⟨hc, hfz⟩ := bcell hb; (try simp only [World.heap_drewN] at hc hfz); have hz := hb.size; (dsimp only [List.drop]))
                have hB6 := HB5.out.trans (hb.mono hs5)
                have HB6 := Lib.hid hB6
                have HR6 := Lib.hid (HR5.out.below hb)
                have HROW6 := Lib.hid (HROWK.out.of_block (hb.block bn ql))
                clear hb hc hfz hB6 x0 x1 e0 e1 z2 plK blK q0 q1 ql hw1 hw2 hw3 hw4 hw5
                go_wp2
                go_roundw
                case rel => exact ⟨k + 1, by omega, by go_num, by rw [HPC.out, hcr, if_neg (by decide), List.append_nil]; exact HR6.out, HVN.out, HROW6.out, HB6.out⟩
                case measure => first | (simp [intOf]; done) | (simp [intOf]; omega)
            · obtain rfl : k = 6 := by omega
              obtain ⟨hm, hi, hi1, hiW, hi3⟩ := HI.out
              have hpe : pre X W D E i ++ six X W E i 6 = pre X W D E (y * W + (x' + 1)) := by rw [← Nat.add_assoc, pre_cell hlx hlt, hm, hi]
              have hfin := HR5.out
              rw [hpe] at hfin
              clear hpe
              have HFIN := Lib.hid hfin
              clear hm hi hi1 hiW hi3 hrow hB5 hfin hw1 hw2 hw3 hw4 hw5
              go_wp2
              go_roundw
              case rel => exact ⟨x' + 1, by omega, by go_num, HFIN.out, HB5.out⟩
              case measure => first | (simp [intOf]; done) | (simp [intOf]; omega)
        · have hlxi : ¬ ((x' : Int) + 1 < (W : Int)) := by omega
          have hpe : pre X W D E (y * W + x') = pre X W D E ((y + 1) * W) := by
            have e : y * W + W = y * W + x' + 1 := by omega
            rw [Nat.add_mul, Nat.one_mul, e, pre_col (by omega)]
          have hfin := HR2.out
          rw [hpe] at hfin
          clear hpe
          have HFIN := Lib.hid hfin
          clear hfin
          go_wp2
          go_roundw
          case rel => exact ⟨y + 1, by omega, by go_num, HFIN.out, HB2.out⟩
          case measure => first | (simp [intOf]; done) | (simp [intOf]; omega)
    · have hlti : ¬ ((y : Int) + 1 < (D : Int)) := by omega
      have hpn : pre X W D E (y * W) = pre X W D E n := by
        have e : n = y * W + W := by
          rw [HNE.out, show D = y + 1 by omega, Nat.mul_comm, Nat.add_mul, Nat.one_mul]
        rw [e, pre_row (D := D) (by omega) W (Nat.le_refl _)]
      have hfin := HR.out
      rw [hpn] at hfin
      clear hpn
      have HFIN := Lib.hid hfin
      clear hfin
      go_wp2
      go_ret
      exact ⟨_, rfl, HFIN.out, HB.out⟩
end Go.Proofs.Ytbnnpeecajjipaa
