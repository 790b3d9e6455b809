/- The neighbours of a grid's place, in both spellings. No condition. -/
import Derived.Test.YtpajakindpbepaaCpx
namespace Go.Proofs.Ytpajakindpbepaa
open Go.RowKit
set_option linter.unusedSimpArgs false
def nU (X t : Nat) : Int := (X : Int) + ((t % 3 : Nat) : Int) - 1
def nV (Y t : Nat) : Int := (Y : Int) + ((t / 3 : Nat) : Int) - 1
def nbOk (W H X Y i t : Nat) : Bool := (decide (0 ≤ nU X t) && decide (nU X t ≤ (W : Int) - 1)) && ((decide (0 ≤ nV Y t) && decide (nV Y t ≤ (H : Int) - 1)) && decide (nV Y t * (W : Int) + nU X t ≠ (i : Int)))
def nbV (W X Y t : Nat) : Nat := (nV Y t * (W : Int) + nU X t).toNat
/-- The neighbours among the first offsets. -/
def nbL (W H X Y i : Nat) : Nat → List Nat
  | 0 => []
  | t + 1 => if nbOk W H X Y i t then nbL W H X Y i t ++ [nbV W X Y t] else nbL W H X Y i t
section
variable {W H X Y i t : Nat}
theorem nbL_t (h : nbOk W H X Y i t = true) : nbL W H X Y i (t + 1) = nbL W H X Y i t ++ [nbV W X Y t] := by show (if _ then _ else _) = _; rw [h]; rfl
theorem nbL_f (h : nbOk W H X Y i t = false) : nbL W H X Y i (t + 1) = nbL W H X Y i t := by show (if _ then _ else _) = _; rw [h]; rfl
theorem nbL_len (W H X Y i : Nat) : ∀ t, (nbL W H X Y i t).length ≤ t
  | 0 => Nat.le_refl _
  | t + 1 => by
    have := nbL_len W H X Y i t
    unfold nbL
    split
    · simp; omega
    · omega
theorem nbOk_u (h : nU X t < 0 ∨ (W : Int) - 1 < nU X t) : nbOk W H X Y i t = false := by
  unfold nbOk
  rcases h with h | h
  · rw [decide_eq_false (show ¬ 0 ≤ nU X t by omega)]; rfl
  · rw [decide_eq_false (show ¬ nU X t ≤ (W : Int) - 1 by omega), Bool.and_false]; rfl
theorem nbOk_v (h : nV Y t < 0 ∨ (H : Int) - 1 < nV Y t) : nbOk W H X Y i t = false := by
  unfold nbOk
  rcases h with h | h
  · rw [decide_eq_false (show ¬ 0 ≤ nV Y t by omega)]; simp
  · rw [decide_eq_false (show ¬ nV Y t ≤ (H : Int) - 1 by omega)]; simp
theorem nbOk_of (h1 : 0 ≤ nU X t) (h2 : nU X t ≤ (W : Int) - 1) (h3 : 0 ≤ nV Y t) (h4 : nV Y t ≤ (H : Int) - 1) : nbOk W H X Y i t = decide (nV Y t * (W : Int) + nU X t ≠ (i : Int)) := by
  unfold nbOk
  rw [decide_eq_true h1, decide_eq_true h2, decide_eq_true h3, decide_eq_true h4]
  rfl
theorem nU_at {du dv : Nat} (h : du < 3) : nU X (3 * dv + du) = (X : Int) + (du : Int) - 1 := by
  unfold nU
  rw [show (3 * dv + du) % 3 = du by omega]
theorem nV_at {du dv : Nat} (h : du < 3) : nV Y (3 * dv + du) = (Y : Int) + (dv : Int) - 1 := by
  unfold nV
  rw [show (3 * dv + du) / 3 = dv by omega]
end
theorem mul_bnd {v : Int} {W : Nat} (hW : W ≤ 16) (h1 : -1 ≤ v) (h2 : v ≤ 17) : -16 ≤ v * (W : Int) ∧ v * (W : Int) ≤ 272 := by
  have a : v * (W : Int) ≤ 17 * (W : Int) := Int.mul_le_mul_of_nonneg_right h2 (by omega)
  have b : -1 * (W : Int) ≤ v * (W : Int) := Int.mul_le_mul_of_nonneg_right h1 (by omega)
  omega
/-- Column and row of an index. -/
def IxOk (W H X Y i : Nat) : Prop := i % W = X ∧ i / W = Y ∧ X < W ∧ Y < H ∧ 2 ≤ W ∧ W ≤ 16 ∧ 2 ≤ H ∧ H ≤ 16 ∧ i < 256
theorem IxOk.mk' {W H i : Nat} (h1 : 2 ≤ W) (h2 : W ≤ 16) (h3 : 2 ≤ H) (h4 : H ≤ 16) (hi : i < W * H) : IxOk W H (i % W) (i / W) i := by
  refine ⟨rfl, rfl, Nat.mod_lt _ (by omega), (Nat.div_lt_iff_lt_mul (by omega)).2 (by rw [Nat.mul_comm]; exact hi), h1, h2, h3, h4, ?_⟩
  have : W * H ≤ 16 * 16 := Nat.mul_le_mul h2 h4
  omega
theorem IxOk.div {W H X Y i : Nat} (h : IxOk W H X Y i) : wrap64 ((i : Int) / (W : Int)) = (Y : Int) := by
  rw [div_bnd (by have := h.2.2.2.2.2.2.2.2; omega), ← h.2.1]
  simp
theorem IxOk.rem {W H X Y i : Nat} (h : IxOk W H X Y i) : (i : Int) % (W : Int) = (X : Int) := by
  rw [← h.1]
  simp
set_option maxRecDepth 100000 in
set_option maxHeartbeats 4000000 in
theorem around_c (p W H X Y i : Nat) (w : World) (hx : IxOk W H X Y i) (c0 : w.cell? ⟨p, 0, none⟩ = some (.int .i64 W)) (c1 : w.cell? ⟨p, 1, none⟩ = some (.int .i64 H)) :
    Calls Try.prog 99 #[.pointer (some ⟨p, 0, none⟩), .int .i64 i] w fun e w' => ∃ v, e = .returned v ∧ IArr w' w.heap.size v (nbL W H X Y i 9).length (nthI (nbL W H X Y i 9)) ∧ Below w.heap.size w w' := by
  have HDIV := Lib.hid hx.div
  have HREM := Lib.hid hx.rem
  have hdb1 : 0 ≤ wrap64 ((i : Int) / (W : Int)) := by rw [HDIV.out]; omega
  have hdb2 : wrap64 ((i : Int) / (W : Int)) ≤ 16 := by rw [HDIV.out]; have := hx.2.2.2; omega
  have hrb1 : 0 ≤ (i : Int) % (W : Int) := by rw [HREM.out]; omega
  have hrb2 : (i : Int) % (W : Int) ≤ 16 := by rw [HREM.out]; have := hx.2.2; omega
  obtain ⟨-, -, hXW, hYH, hW2, hW16, hH2, hH16, hi⟩ := hx
  have hW0 : ¬ ((W : Int) = 0) := by omega
  have hWn : (0 : Int) ≤ W := by omega
  have hin : (0 : Int) ≤ i := by omega
  have hpl := block_lt_of_cell c0
  simp only at hpl
  obtain ⟨i0, hi0, hI0, hI1, hI2⟩ := info_parts info_i64
  have C0 := Lib.hid c0
  have C1 := Lib.hid c1
  go_enter Try.func99, Try.ntmps99
  go_wp2
  clear c0 c1
  go_loopw [5, 6] (fun ov yv wr => ∃ dv : Nat, dv ≤ 3 ∧ yv = .int .i64 ((Y : Int) + (dv : Int) - 1) ∧ wr.ownsRow w.heap.size 2 1 ov (nbL W H X Y i (3 * dv)).length (ivs (nbL W H X Y i (3 * dv))) ∧ Below w.heap.size w wr) (fun _ yv _ => ((Y : Int) + 2 - intOf yv).toNat)
  case atStart => exact ⟨0, by omega, by rw [HDIV.out]; simp, ⟨rfl, .inr ⟨w.heap.size, 0, #[], rfl, Nat.le_refl _, heap_alloc_new _ _, Nat.le_refl _, by simp [maxLen], rfl, rfl⟩⟩, by (with_reducible repeat (first | exact Below.refl _ _ | apply below_alloc | apply below_dN | apply below_d | refine below_setCell ?_ (by dsimp only; omega) | refine below_call (by assumption) ?_))⟩
  case round =>
    obtain ⟨dv, hdv, rfl, hown, hB⟩ := hrel
    have c0 : wr.cell? ⟨p, 0, none⟩ = some (.int .i64 W) := (hB.cell (p := ⟨p, 0, none⟩) hpl).trans C0.out
    have hpl2 := Nat.lt_of_lt_of_le hpl hB.size
    obtain ⟨vv, hvv⟩ : ∃ v, (Y : Int) + (dv : Int) - 1 = v := ⟨_, rfl⟩
    rw [hvv]
    by_cases hlt : dv < 3
    · have hle : vv ≤ wrap64 ((i : Int) / (W : Int)) + 1 := by rw [HDIV.out]; omega
      have HB := Lib.hid hB
      have HOWN := Lib.hid hown
      clear hB hown
      go_wp2
      clear c0
      go_loopw [5, 7] (fun ov xv wx => ∃ du : Nat, du ≤ 3 ∧ xv = .int .i64 ((X : Int) + (du : Int) - 1) ∧ wx.ownsRow w.heap.size 2 1 ov (nbL W H X Y i (3 * dv + du)).length (ivs (nbL W H X Y i (3 * dv + du))) ∧ Below w.heap.size w wx) (fun _ xv _ => ((X : Int) + 2 - intOf xv).toNat)
      case atStart => exact ⟨0, by omega, by rw [HREM.out]; simp, HOWN.out, HB.out⟩
      case round =>
        obtain ⟨du, hdu, rfl, hown, hB⟩ := hrel
        have c0 : wr.cell? ⟨p, 0, none⟩ = some (.int .i64 W) := (hB.cell (p := ⟨p, 0, none⟩) hpl).trans C0.out
        have c1 : wr.cell? ⟨p, 1, none⟩ = some (.int .i64 H) := (hB.cell (p := ⟨p, 1, none⟩) hpl).trans C1.out
        have hpl3 := Nat.lt_of_lt_of_le hpl hB.size
        have hBs := hB.size
        obtain ⟨uu, huu⟩ : ∃ u, (X : Int) + (du : Int) - 1 = u := ⟨_, rfl⟩
        rw [huu]
        by_cases hlt2 : du < 3
        · have hle2 : uu ≤ (i : Int) % (W : Int) + 1 := by rw [HREM.out]; omega
          have eU := nU_at (X := X) (dv := dv) hlt2
          have eV := nV_at (Y := Y) (dv := dv) hlt2
          rw [huu] at eU
          rw [hvv] at eV
          have hln := nbL_len W H X Y i (3 * dv + du)
          have hI1' := l00In_c uu 0 ((W : Int) - 1)
          have hI2' := l00In_c vv 0 ((H : Int) - 1)
          have HB := Lib.hid hB
          clear hB
          by_cases a1 : 0 ≤ uu ∧ uu ≤ (W : Int) - 1
          · rw [decide_eq_true a1.1, decide_eq_true a1.2] at hI1'
            have HI1 := Lib.hid hI1'
            by_cases a2 : 0 ≤ vv ∧ vv ≤ (H : Int) - 1
            · rw [decide_eq_true a2.1, decide_eq_true a2.2] at hI2'
              have HI2 := Lib.hid hI2'
              obtain ⟨M, hM⟩ : ∃ M, vv * (W : Int) = M := ⟨_, rfl⟩
              have hMb := mul_bnd (v := vv) hW16 (by omega) (by omega)
              rw [hM] at hMb
              have hwm : IntKind.i64.wrap (vv * (W : Int)) = M := by rw [hM, IntKind.wrap_i64]; omega
              have hok := nbOk_of (W := W) (H := H) (X := X) (Y := Y) (i := i) (t := 3 * dv + du) (by omega) (by omega) (by omega) (by omega)
              rw [eU, eV, hM] at hok
              have hval : nbV W X Y (3 * dv + du) = (M + uu).toNat := by unfold nbV; rw [eU, eV, hM]
              have hM0 : 0 ≤ M := by rw [← hM]; exact Int.mul_nonneg a2.1 hWn
              obtain ⟨z, hz⟩ : ∃ z : Nat, M + uu = z := ⟨(M + uu).toNat, by omega⟩
              have hzt : (M + uu).toNat = z := by omega
              have hzb : (z : Int) ≤ 300 := by omega
              have hzb0 : (0 : Int) ≤ z := by omega
              rw [hzt] at hval
              clear hI1' hI2' hMb hM
              by_cases a3 : M + uu = (i : Int)
              · rw [decide_eq_false (by simpa using a3)] at hok
                have hl := nbL_f hok
                have a3' : (z : Int) = (i : Int) := by omega
                clear hok
                go_wp2_with (first | (go_at_call 106; ((with_reducible refine (HI1.out _).mono ?_); rintro e w' ⟨rfl, rfl⟩)) | (go_at_call 106; ((with_reducible refine (HI2.out _).mono ?_); rintro e w' ⟨rfl, rfl⟩)))
                go_roundw
                case rel => exact ⟨du + 1, by omega, by go_num, by rw [show 3 * dv + (du + 1) = 3 * dv + du + 1 by omega, hl]; exact hown, HB.out⟩
                case measure => simp [intOf]; omega
              · rw [decide_eq_true a3] at hok
                have hl := nbL_t hok
                rw [hval] at hl
                have hll : (nbL W H X Y i (3 * dv + du + 1)).length = (nbL W H X Y i (3 * dv + du)).length + 1 := by rw [hl]; simp
                have a3' : ((z : Int) != (i : Int)) = true := bne_iff_ne.2 (by omega)
                have a3'' : ¬ ((z : Int) = (i : Int)) := by omega
                clear hok
                go_wp2_with (first | (go_at_call 106; ((with_reducible refine (HI1.out _).mono ?_); rintro e w' ⟨rfl, rfl⟩)) | (go_at_call 106; ((with_reducible refine (HI2.out _).mono ?_); rintro e w' ⟨rfl, rfl⟩)) | (at_builtin; refine wpList_append_own _ rfl (.tmp 73) (.tmp 82) 37 rfl w.heap.size 2 i0 (.int .i64 0) 1 8 Try.underlying37 hi0 hI0 hI1 hI2 rfl (by decide) _ _ _ rfl (hown.alloc _) ⟨wr.heap.size, 0, none⟩ 1 1 [.int .i64 (z : Int)] rfl rfl (cell_one_new _ _ _) (by intro u hu; simp at hu; subst hu; rfl) (by unfold maxLen; omega) (by omega) (by simp; omega) ?_; intro v1 w5 hown5 hgrow5 hnil5))
                go_roundw
                case rel => exact ⟨du + 1, by omega, by go_num, by rw [show 3 * dv + (du + 1) = 3 * dv + du + 1 by omega, hll, hl, ivs_snoc]; exact hown5, (HB.out.alloc hBs _).grown hgrow5 (by simp; omega) (fun j hj => (hown.lt j hj).1)⟩
                case measure => simp [intOf]; omega
            · have hok := nbOk_v (W := W) (H := H) (X := X) (Y := Y) (i := i) (t := 3 * dv + du) (by omega)
              have hl := nbL_f hok
              have hI2f : (decide (0 ≤ vv) && decide (vv ≤ (H : Int) - 1)) = false := by
                rw [Bool.and_eq_false_iff, decide_eq_false_iff_not, decide_eq_false_iff_not]; omega
              rw [hI2f] at hI2'
              have HI2 := Lib.hid hI2'
              clear hI1' hI2' hok hI2f
              go_wp2_with (first | (go_at_call 106; ((with_reducible refine (HI1.out _).mono ?_); rintro e w' ⟨rfl, rfl⟩)) | (go_at_call 106; ((with_reducible refine (HI2.out _).mono ?_); rintro e w' ⟨rfl, rfl⟩)))
              go_roundw
              case rel => exact ⟨du + 1, by omega, by go_num, by rw [show 3 * dv + (du + 1) = 3 * dv + du + 1 by omega, hl]; exact hown, HB.out⟩
              case measure => simp [intOf]; omega
          · have hok := nbOk_u (W := W) (H := H) (X := X) (Y := Y) (i := i) (t := 3 * dv + du) (by omega)
            have hl := nbL_f hok
            have hI1f : (decide (0 ≤ uu) && decide (uu ≤ (W : Int) - 1)) = false := by
              rw [Bool.and_eq_false_iff, decide_eq_false_iff_not, decide_eq_false_iff_not]; omega
            rw [hI1f] at hI1'
            have HI1 := Lib.hid hI1'
            clear hI1' hI2' hok hI1f
            go_wp2_with (first | (go_at_call 106; ((with_reducible refine (HI1.out _).mono ?_); rintro e w' ⟨rfl, rfl⟩)))
            go_roundw
            case rel => exact ⟨du + 1, by omega, by go_num, by rw [show 3 * dv + (du + 1) = 3 * dv + du + 1 by omega, hl]; exact hown, HB.out⟩
            case measure => simp [intOf]; omega
        · obtain rfl : du = 3 := by omega
          have hle2 : ¬ (uu ≤ (i : Int) % (W : Int) + 1) := by rw [HREM.out]; omega
          have HB := Lib.hid hB
          clear hB
          go_wp2
          go_roundw
          case rel => exact ⟨dv + 1, by omega, by go_num, hown, HB.out⟩
          case measure => simp [intOf]; omega
    · obtain rfl : dv = 3 := by omega
      have hle : ¬ (vv ≤ wrap64 ((i : Int) / (W : Int)) + 1) := by rw [HDIV.out]; omega
      have HB := Lib.hid hB
      have HI := Lib.hid (own_pk hown)
      clear hB hown
      go_wp2
      go_ret
      exact ⟨_, rfl, HI.out, HB.out⟩
end Go.Proofs.Ytpajakindpbepaa
