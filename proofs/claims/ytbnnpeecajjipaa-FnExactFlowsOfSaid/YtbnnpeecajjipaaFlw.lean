/- Contracts of FlowsOf in both spellings. No condition. -/
import Derived.Test.YtbnnpeecajjipaaSnk
namespace Go.Proofs.Ytbnnpeecajjipaa
open Go.RowKit
set_option linter.unusedSimpArgs false
def bump (c : Nat → Nat) (a : Nat) : Nat → Nat := fun j => if j = a then c a + 1 else c j
/-- What one place's water adds on its way. -/
def flO (D : Nat → Int) : Nat → (Nat → Nat) → Int → (Nat → Nat)
  | 0, c, _ => c
  | f + 1, c, a => if a < 0 then c else flO D f (bump c a.toNat) (D a.toNat)
theorem flO_neg {D : Nat → Int} {c : Nat → Nat} {a : Int} (h : a < 0) : ∀ f, flO D f c a = c
  | 0 => rfl
  | f + 1 => by simp only [flO, if_pos h]
theorem flO_nat {D : Nat → Int} {c : Nat → Nat} {k f : Nat} : flO D (f + 1) c (k : Int) = flO D f (bump c k) (D k) := by
  conv => lhs; unfold flO
  rw [if_neg (by omega), Int.toNat_natCast]
theorem flO_stable {D : Nat → Int} {R : Nat → Nat} {n : Nat} (h : Desc D R n) : ∀ (f : Nat) (c : Nat → Nat) (k : Nat), k < n → R k < f → flO D f c (k : Int) = flO D (f + 1) c (k : Int)
  | 0, _, _, _, hr => by omega
  | f + 1, c, k, hk, hr => by
    rw [flO_nat, flO_nat]
    rcases h.2 k hk with ⟨e, -⟩ | ⟨k', e, hk', hlt⟩
    · rw [flO_neg e, flO_neg e]
    · rw [e]
      exact flO_stable h f _ k' hk' (by omega)
def flw (D : Nat → Int) (n : Nat) (c : Nat → Nat) (a : Int) : Nat → Nat := flO D n c a
def flN (D : Nat → Int) (n : Nat) : Nat → Nat → Nat
  | 0 => fun _ => 0
  | i + 1 => flw D n (flN D n i) (i : Int)
def flI (D : Nat → Int) (n j : Nat) : Int := (flN D n n j : Int)
theorem flw_end {D : Nat → Int} {n : Nat} {c : Nat → Nat} {a : Int} (h : a < 0) : flw D n c a = c := flO_neg h n
theorem flw_step {D : Nat → Int} {R : Nat → Nat} {n k : Nat} {c : Nat → Nat} (h : Desc D R n) (hk : k < n) : flw D n c (k : Int) = flw D n (bump c k) (D k) := by
  unfold flw
  rw [flO_stable h n c k hk (h.1 k hk), flO_nat]
def mF (R : Nat → Nat) (a : Int) : Nat := if a < 0 then 0 else R a.toNat + 1
theorem mF_nat (R : Nat → Nat) (k : Nat) : mF R (k : Int) = R k + 1 := by unfold mF; rw [if_neg (by omega), Int.toNat_natCast]
theorem mF_neg (R : Nat → Nat) : mF R (-1) = 0 := rfl
def FLR (W H : Int) (n : Nat) (X : Nat → Nat) : World → Ending → World → Prop := IRes (drK W H n X) (if drK W H n X then n else 0) (flI (drB X W.toNat H.toNat) n)
def cvs (c : Nat → Nat) (j : Nat) : Value := .int .i64 (c j : Int)
theorem cvs_bump (c : Nat → Nat) (k j : Nat) : cvs (bump c k) j = if j = k then .int .i64 ((c k : Int) + 1) else cvs c j := by
  unfold cvs bump
  split <;> simp
set_option maxRecDepth 100000 in
set_option maxHeartbeats 4000000 in
theorem sFlows_c (W H : Int) (b n c : Nat) (X : Nat → Nat) (w : World) (hn : n ≤ 1048576) (hb : b < w.heap.size) (hX : FlCells w b n X) :
    Calls Try.prog 23 #[.agg #[.int .i64 W, .int .i64 H, .slice (some ⟨b, 0, none⟩) n c]] w (FLR W H n X w) := by
  have hN := gtc.newAt (w := w) (p := w.heap.size) (u := .int .i64 W) (v := .int .i64 H) (z := .slice (some ⟨b, 0, none⟩) n c) rfl
  have hb0 : Below w.heap.size w (w.alloc (.cells #[.int .i64 W, .int .i64 H, .slice (some ⟨b, 0, none⟩) n c] 30)) := by (with_reducible repeat (first | exact Below.refl _ _ | apply below_alloc | apply below_dN | apply below_d | refine below_setCell ?_ (by dsimp only; omega) | refine below_call (by assumption) ?_))
  have hs0 : (w.alloc (.cells #[.int .i64 W, .int .i64 H, .slice (some ⟨b, 0, none⟩) n c] 30)).heap.size = w.heap.size + 1 := by simp
  have hD := sDrains_c W H b n c X (w.alloc (.cells #[.int .i64 W, .int .i64 H, .slice (some ⟨b, 0, none⟩) n c] 30)) hn (by omega) (hX.dn hb hb0)
  have hmk := make_rows (P := Try.prog) 37 2 (.int .i64 0) 1 8 (by kernel_rfl) (by kernel_rfl) n (by omega) (by omega)
  have hcz : (Value.int .i64 0).cells = #[.int .i64 0] := rfl
  rw [hcz, Nat.mul_one] at hmk
  clear hcz
  unfold DRR at hD
  unfold FLR
  cases hq : drK W H n X
  · rw [hq] at hD
    have HD := Lib.hid hD
    clear hD hX hq
    go_enter Try.func23, Try.ntmps23
    go_wp2_with (go_at_call 18; ((with_reducible refine (HD.out).mono ?_); rintro e w1 ⟨v, rfl, hA, hb1⟩))
    go_ret2
    exact IRes.nil (hb0.trans (hb1.mono (by omega)))
  · obtain ⟨wa, ha, R, eW, eH, h4, h256, hnm, hDs⟩ := drK_facts hq
    rw [hq] at hD
    generalize drB X W.toNat H.toNat = D at hD hDs ⊢
    have HD := Lib.hid hD
    have HDs := Lib.hid hDs
    have HNM := Lib.hid hnm
    subst eW eH
    have hwm : IntKind.i64.wrap ((wa : Int) * (ha : Int)) = (n : Int) := by
      have e : (wa : Int) * (ha : Int) = (n : Int) := by rw [hnm, Int.natCast_mul]
      rw [e, IntKind.wrap_i64]
      omega
    clear hD hX hq hDs hnm
    go_enter Try.func23, Try.ntmps23
    go_upto_region 4 with (go_at_call 18; ((with_reducible refine (HD.out).mono ?_); rintro e w1 ⟨v, rfl, hA, hb1⟩))
    obtain ⟨g, cap, rfl, hg, hDr⟩ := hA.blk (show 0 < n by omega)
    have hN1 := hN.below hb1
    have hB1 := hb0.trans (hb1.mono (by omega))
    have hs1 := hB1.size
    have HN1 := Lib.hid hN1
    have HB1 := Lib.hid hB1
    have HDr := Lib.hid hDr
    have hgl := hDr.lt
    have hs1' := hb1.size
    have c0 := hN1.c0
    have c1 := hN1.c1
    have pl := hN1.lt
    clear hA hb1 hb0 hN hN1 hB1 hDr
    go_wp2
    clear c0 c1 pl
    go_loopw [7] (fun iv wr => ∃ i : Nat, i ≤ n ∧ iv = .int .i64 i ∧ (∀ j, flN D n i j ≤ 256 * i) ∧ wr.rowIs w1.heap.size 2 n (cvs (flN D n i)) ∧ Below w1.heap.size w1 wr) (fun iv _ => n - (intOf iv).toNat)
    case atStart => exact ⟨0, by omega, rfl, fun j => Nat.zero_le _, made1w w1 n _ _, by (with_reducible repeat (first | exact Below.refl _ _ | apply below_alloc | apply below_dN | apply below_d | refine below_setCell ?_ (by dsimp only; omega) | refine below_call (by assumption) ?_))⟩
    case round =>
      rename World => wO
      obtain ⟨i, hi, rfl, hbnd, hrow, hB⟩ := hrel
      clear hmk
      have hNO := HN1.out.below hB
      have c0 := hNO.c0
      have c1 := hNO.c1
      have pl := hNO.lt
      have HBND := Lib.hid hbnd
      have HROW := Lib.hid hrow
      have HB := Lib.hid hB
      have hBs := hB.size
      clear hbnd hrow hB hNO
      by_cases hlt : i < n
      · have hlt' : (i : Int) < (n : Int) := by omega
        have HRI := Lib.hid (HDs.out.1 i hlt)
        go_wp2
        clear c0 c1 pl
        go_loopw [8] (fun av wx => ∃ (a : Int) (c : Nat → Nat) (t : Nat), av = .int .i64 a ∧ ((a = -1 ∧ t ≤ n) ∨ ∃ k : Nat, a = (k : Int) ∧ k < n ∧ R k + t < n) ∧ flw D n c a = flN D n (i + 1) ∧ (∀ j, c j ≤ 256 * i + t) ∧ wx.rowIs w1.heap.size 2 n (cvs c) ∧ Below w1.heap.size w1 wx) (fun av _ => mF R (intOf av))
        case atStart => exact ⟨(i : Int), flN D n i, 0, rfl, .inr ⟨i, rfl, hlt, HRI.out⟩, rfl, HBND.out, HROW.out, HB.out⟩
        case round =>
          rename World => wM
          obtain ⟨a, c, t, rfl, hcase, hfl, hcb, hrow, hBx⟩ := hrel
          have HFL := Lib.hid hfl
          have HCB := Lib.hid hcb
          have HRO := Lib.hid hrow
          have HBx := Lib.hid hBx
          have hBxs := hBx.size
          rcases hcase with ⟨rfl, ht⟩ | ⟨k, rfl, hk, hkt⟩
          · have hend : c = flN D n (i + 1) := by rw [← HFL.out, flw_end (by decide)]
            have HE := Lib.hid hend
            clear hfl hcb hrow hBx hend
            go_wp2
            go_roundw
            case rel => exact ⟨i + 1, by omega, by go_num, fun j => by have := HCB.out j; rw [← HE.out]; omega, by rw [← HE.out]; exact HRO.out, HBx.out⟩
            case measure => first | (simp [intOf]; done) | (simp [intOf]; omega)
          · have hck := hcb k
            have hck' : c k ≤ 100000 := by omega
            have hrc := hrow.cell (i := k) hk
            simp only [cvs] at hrc
            have hrf := hrow.frozen k
            have hrl := hrow.lt
            have hrow2 := (hrow.set k (.int .i64 ((c k : Int) + 1))).congr (fun j _ => (cvs_bump c k j).symm)
            have HR2 := Lib.hid hrow2
            have HB2 := Lib.hid (hBx.setCell (p := ⟨w1.heap.size, k, none⟩) (Nat.le_refl _) (.int .i64 ((c k : Int) + 1)))
            have hki : (k : Int) < (n : Int) := by omega
            have HST := Lib.hid ((flw_step (c := c) HDs.out hk).symm.trans hfl)
            have HCB2 := Lib.hid (show ∀ j, bump c k j ≤ 256 * i + (t + 1) from fun j => by
              unfold bump
              have := hcb j
              split <;> omega)
            have hDM := HDr.out.below HB2.out
            have q0 := hDM.cell hk
            have ql := hDM.lt
            have hsz : (wM.setCell ⟨w1.heap.size, k, none⟩ (.int .i64 ((c k : Int) + 1))).heap.size = wM.heap.size := by simp [World.setCell]
            have hgM : g < wM.heap.size := by omega
            clear hfl hcb hrow hBx hrow2 hDM
            rcases HDs.out.2 k hk with ⟨ed, em⟩ | ⟨k', ek, hk', hlr⟩
            · have HEM := Lib.hid em
              rw [em] at q0
              clear em ed hck
              go_wp2
              go_roundw
              case rel => exact ⟨-1, bump c k, t + 1, by go_num, .inl ⟨rfl, by omega⟩, by rw [← HEM.out]; exact HST.out, HCB2.out, HR2.out, HB2.out⟩
              case measure => simp [intOf, mF_nat, mF_neg]
            · rw [ek] at q0
              have HEK := Lib.hid ek
              have HLR := Lib.hid hlr
              clear ek hlr hck
              go_wp2
              go_roundw
              case rel => exact ⟨(k' : Int), bump c k, t + 1, by go_num, .inr ⟨k', rfl, hk', by have := HLR.out; omega⟩, by rw [← HEK.out]; exact HST.out, HCB2.out, HR2.out, HB2.out⟩
              case measure => have := HLR.out; simp [intOf, mF_nat]; omega
      · obtain rfl : i = n := by omega
        have hlt' : ¬ ((i : Int) < (i : Int)) := by omega
        go_wp2
        go_ret2
        exact ⟨_, rfl, IArr.lo (IArr.some (Nat.le_refl w1.heap.size) ⟨_, HROW.out, Nat.le_refl _, fun j _ => rfl⟩) HB1.out.size, HB1.out.trans (HB.out.mono HB1.out.size)⟩
set_option maxRecDepth 100000 in
set_option maxHeartbeats 4000000 in
theorem iFlows_c (W H : Int) (b n c : Nat) (X : Nat → Nat) (w : World) (hn : n ≤ 1048576) (hb : b < w.heap.size) (hX : FlCells w b n X) :
    Calls Try.prog 24 #[.agg #[.int .i64 W, .int .i64 H, .slice (some ⟨b, 0, none⟩) n c]] w (FLR W H n X w) := by
  have hN := gtc.newAt (w := w) (p := w.heap.size) (u := .int .i64 W) (v := .int .i64 H) (z := .slice (some ⟨b, 0, none⟩) n c) rfl
  have hb0 : Below w.heap.size w (w.alloc (.cells #[.int .i64 W, .int .i64 H, .slice (some ⟨b, 0, none⟩) n c] 30)) := by (with_reducible repeat (first | exact Below.refl _ _ | apply below_alloc | apply below_dN | apply below_d | refine below_setCell ?_ (by dsimp only; omega) | refine below_call (by assumption) ?_))
  have hs0 : (w.alloc (.cells #[.int .i64 W, .int .i64 H, .slice (some ⟨b, 0, none⟩) n c] 30)).heap.size = w.heap.size + 1 := by simp
  have hD := iDrains_c W H b n c X (w.alloc (.cells #[.int .i64 W, .int .i64 H, .slice (some ⟨b, 0, none⟩) n c] 30)) hn (by omega) (hX.dn hb hb0)
  have hmk := make_rows (P := Try.prog) 37 2 (.int .i64 0) 1 8 (by kernel_rfl) (by kernel_rfl) n (by omega) (by omega)
  have hcz : (Value.int .i64 0).cells = #[.int .i64 0] := rfl
  rw [hcz, Nat.mul_one] at hmk
  clear hcz
  unfold DRR at hD
  unfold FLR
  cases hq : drK W H n X
  · rw [hq] at hD
    have HD := Lib.hid hD
    clear hD hX hq
    go_enter Try.func24, Try.ntmps24
    go_wp2_with (go_at_call 19; ((with_reducible refine (HD.out).mono ?_); rintro e w1 ⟨v, rfl, hA, hb1⟩))
    go_ret2
    exact IRes.nil (hb0.trans (hb1.mono (by omega)))
  · obtain ⟨wa, ha, R, eW, eH, h4, h256, hnm, hDs⟩ := drK_facts hq
    rw [hq] at hD
    generalize drB X W.toNat H.toNat = D at hD hDs ⊢
    have HD := Lib.hid hD
    have HDs := Lib.hid hDs
    have HNM := Lib.hid hnm
    subst eW eH
    have hwm : IntKind.i64.wrap ((wa : Int) * (ha : Int)) = (n : Int) := by
      have e : (wa : Int) * (ha : Int) = (n : Int) := by rw [hnm, Int.natCast_mul]
      rw [e, IntKind.wrap_i64]
      omega
    clear hD hX hq hDs hnm
    go_enter Try.func24, Try.ntmps24
    go_upto_region 4 with (go_at_call 19; ((with_reducible refine (HD.out).mono ?_); rintro e w1 ⟨v, rfl, hA, hb1⟩))
    obtain ⟨g, cap, rfl, hg, hDr⟩ := hA.blk (show 0 < n by omega)
    have hN1 := hN.below hb1
    have hB1 := hb0.trans (hb1.mono (by omega))
    have hs1 := hB1.size
    have HN1 := Lib.hid hN1
    have HB1 := Lib.hid hB1
    have HDr := Lib.hid hDr
    have hgl := hDr.lt
    have hs1' := hb1.size
    have c0 := hN1.c0
    have c1 := hN1.c1
    have pl := hN1.lt
    clear hA hb1 hb0 hN hN1 hB1 hDr
    go_wp2
    clear c0 c1 pl
    go_loopw [21] (fun iv wr => ∃ i : Nat, i ≤ n ∧ iv = .int .i64 i ∧ (∀ j, flN D n i j ≤ 256 * i) ∧ wr.rowIs w1.heap.size 2 n (cvs (flN D n i)) ∧ Below w1.heap.size w1 wr) (fun iv _ => n - (intOf iv).toNat)
    case atStart => exact ⟨0, by omega, rfl, fun j => Nat.zero_le _, made1w w1 n _ _, by (with_reducible repeat (first | exact Below.refl _ _ | apply below_alloc | apply below_dN | apply below_d | refine below_setCell ?_ (by dsimp only; omega) | refine below_call (by assumption) ?_))⟩
    case round =>
      rename World => wO
      obtain ⟨i, hi, rfl, hbnd, hrow, hB⟩ := hrel
      clear hmk
      have hNO := HN1.out.below hB
      have c0 := hNO.c0
      have c1 := hNO.c1
      have pl := hNO.lt
      have HBND := Lib.hid hbnd
      have HROW := Lib.hid hrow
      have HB := Lib.hid hB
      have hBs := hB.size
      clear hbnd hrow hB hNO
      by_cases hlt : i < n
      · have hlt' : (i : Int) < (n : Int) := by omega
        have HRI := Lib.hid (HDs.out.1 i hlt)
        go_wp2
        clear c0 c1 pl
        go_loopw [8] (fun av wx => ∃ (a : Int) (c : Nat → Nat) (t : Nat), av = .int .i64 a ∧ ((a = -1 ∧ t ≤ n) ∨ ∃ k : Nat, a = (k : Int) ∧ k < n ∧ R k + t < n) ∧ flw D n c a = flN D n (i + 1) ∧ (∀ j, c j ≤ 256 * i + t) ∧ wx.rowIs w1.heap.size 2 n (cvs c) ∧ Below w1.heap.size w1 wx) (fun av _ => mF R (intOf av))
        case atStart => exact ⟨(i : Int), flN D n i, 0, rfl, .inr ⟨i, rfl, hlt, HRI.out⟩, rfl, HBND.out, HROW.out, HB.out⟩
        case round =>
          rename World => wM
          obtain ⟨a, c, t, rfl, hcase, hfl, hcb, hrow, hBx⟩ := hrel
          have HFL := Lib.hid hfl
          have HCB := Lib.hid hcb
          have HRO := Lib.hid hrow
          have HBx := Lib.hid hBx
          have hBxs := hBx.size
          rcases hcase with ⟨rfl, ht⟩ | ⟨k, rfl, hk, hkt⟩
          · have hend : c = flN D n (i + 1) := by rw [← HFL.out, flw_end (by decide)]
            have HE := Lib.hid hend
            clear hfl hcb hrow hBx hend
            go_wp2
            go_roundw
            case rel => exact ⟨i + 1, by omega, by go_num, fun j => by have := HCB.out j; rw [← HE.out]; omega, by rw [← HE.out]; exact HRO.out, HBx.out⟩
            case measure => first | (simp [intOf]; done) | (simp [intOf]; omega)
          · have hck := hcb k
            have hck' : c k ≤ 100000 := by omega
            have hrc := hrow.cell (i := k) hk
            simp only [cvs] at hrc
            have hrf := hrow.frozen k
            have hrl := hrow.lt
            have hrow2 := (hrow.set k (.int .i64 ((c k : Int) + 1))).congr (fun j _ => (cvs_bump c k j).symm)
            have HR2 := Lib.hid hrow2
            have HB2 := Lib.hid (hBx.setCell (p := ⟨w1.heap.size, k, none⟩) (Nat.le_refl _) (.int .i64 ((c k : Int) + 1)))
            have hki : (k : Int) < (n : Int) := by omega
            have HST := Lib.hid ((flw_step (c := c) HDs.out hk).symm.trans hfl)
            have HCB2 := Lib.hid (show ∀ j, bump c k j ≤ 256 * i + (t + 1) from fun j => by
              unfold bump
              have := hcb j
              split <;> omega)
            have hDM := HDr.out.below HB2.out
            have q0 := hDM.cell hk
            have ql := hDM.lt
            have hsz : (wM.setCell ⟨w1.heap.size, k, none⟩ (.int .i64 ((c k : Int) + 1))).heap.size = wM.heap.size := by simp [World.setCell]
            have hgM : g < wM.heap.size := by omega
            clear hfl hcb hrow hBx hrow2 hDM
            rcases HDs.out.2 k hk with ⟨ed, em⟩ | ⟨k', ek, hk', hlr⟩
            · have HEM := Lib.hid em
              rw [em] at q0
              clear em ed hck
              go_wp2
              go_roundw
              case rel => exact ⟨-1, bump c k, t + 1, by go_num, .inl ⟨rfl, by omega⟩, by rw [← HEM.out]; exact HST.out, HCB2.out, HR2.out, HB2.out⟩
              case measure => simp [intOf, mF_nat, mF_neg]
            · rw [ek] at q0
              have HEK := Lib.hid ek
              have HLR := Lib.hid hlr
              clear ek hlr hck
              go_wp2
              go_roundw
              case rel => exact ⟨(k' : Int), bump c k, t + 1, by go_num, .inr ⟨k', rfl, hk', by have := HLR.out; omega⟩, by rw [← HEK.out]; exact HST.out, HCB2.out, HR2.out, HB2.out⟩
              case measure => have := HLR.out; simp [intOf, mF_nat]; omega
      · obtain rfl : i = n := by omega
        have hlt' : ¬ ((i : Int) < (i : Int)) := by omega
        go_wp2
        go_ret2
        exact ⟨_, rfl, IArr.lo (IArr.some (Nat.le_refl w1.heap.size) ⟨_, HROW.out, Nat.le_refl _, fun j _ => rfl⟩) HB1.out.size, HB1.out.trans (HB.out.mono HB1.out.size)⟩
end Go.Proofs.Ytbnnpeecajjipaa
