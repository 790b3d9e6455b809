/- The law of NewDesk. No condition. -/
import Derived.Test.YtpajakindpbepaaNDk
namespace Go.Proofs.Ytpajakindpbepaa
open Go.RowKit Go.IntWalk
set_option linter.unusedSimpArgs false
def pX (j : Nat) : Nat := if j = 2 then 1048576000 else 0
def pY (j : Nat) : Nat := if j = 1 then 1048576000 else 0
def lX (j : Nat) : Nat := if j = 0 then 0 else if j = 1 then 1065353216 else 1073741824
def lY (j : Nat) : Nat := if j = 1 then 1040187392 else 0
theorem dP_cells {w : World} {p : Nat} (h : w.rowIs p 65 6 dP) : PlCells w p 3 pX pY := fun j hj => by
  match j, hj with
  | 0, _ => exact ⟨0, 0, h.cell (i := 0) (by omega), h.cell (i := 1) (by omega), by decide +kernel, by decide +kernel⟩
  | 1, _ => exact ⟨0, 1048576000, h.cell (i := 2) (by omega), h.cell (i := 3) (by omega), by decide +kernel, by decide +kernel⟩
  | 2, _ => exact ⟨1048576000, 0, h.cell (i := 4) (by omega), h.cell (i := 5) (by omega), by decide +kernel, by decide +kernel⟩
theorem dL_arg {w : World} {l : Nat} (h : w.rowIs l 59 3 dL) : CxArg w (some ⟨l, 0, none⟩) 3 lX lY := fun j hj => by
  match j, hj with
  | 0, _ => exact ⟨l, rfl, h.lt, 0, 0, h.cell (i := 0) (by omega), by decide +kernel, by decide +kernel⟩
  | 1, _ => exact ⟨l, rfl, h.lt, 1065353216, 1040187392, h.cell (i := 1) (by omega), by decide +kernel, by decide +kernel⟩
  | 2, _ => exact ⟨l, rfl, h.lt, 1073741824, 0, h.cell (i := 2) (by omega), by decide +kernel, by decide +kernel⟩
theorem dL_all : AllC 3 dL := fun j hj => by
  match j, hj with
  | 0, _ => exact ⟨_, _, rfl⟩
  | 1, _ => exact ⟨_, _, rfl⟩
  | 2, _ => exact ⟨_, _, rfl⟩
set_option maxRecDepth 100000 in
set_option maxHeartbeats 4000000 in
theorem eqDesk_c (lo lo' p l b cb p' l' b' cb' : Nat) (w : World) (h : DB lo w p l b cb) (h' : DB lo' w p' l' b' cb') :
    Calls Try.prog 45 #[.agg #[.float .f32 0, .float .f32 0, .slice (some ⟨p, 0, none⟩) 3 3, .slice (some ⟨l, 0, none⟩) 3 3, .int .i64 3, .int .i64 3, .slice (some ⟨b, 0, none⟩) 9 cb], .agg #[.float .f32 0, .float .f32 0, .slice (some ⟨p', 0, none⟩) 3 3, .slice (some ⟨l', 0, none⟩) 3 3, .int .i64 3, .int .i64 3, .slice (some ⟨b', 0, none⟩) 9 cb']] w (Ret (RV (.bool true)) w) := by
  have z : cn .f32 0 = 0 := by decide +kernel
  have HE0 := Lib.hid (fun w' => eqPlace_c 0 0 0 0 0 0 z z z z w')
  have HE1 := Lib.hid (fun w' (hB : Below w.heap.size w w') => eqPlaceS_c p p' 3 3 3 pX pY w' (by omega) (h.below hB).2.2.1.lt (h'.below hB).2.2.1.lt (dP_cells (h.below hB).2.2.1) (dP_cells (h'.below hB).2.2.1))
  have HE2 := Lib.hid (fun w' (hB : Below w.heap.size w w') => eqC64_c (some ⟨l, 0, none⟩) (some ⟨l', 0, none⟩) 3 3 3 lX lY w' (by omega) (dL_arg (h.below hB).2.2.2.1) (dL_arg (h'.below hB).2.2.2.1))
  have HE3 := Lib.hid (fun w' (hB : Below w.heap.size w w') => eqGrid_c 3 3 b b' 9 cb cb' dX w' (by omega) (h.below hB).2.2.2.2.lt (h'.below hB).2.2.2.2.lt (h.below hB).2.2.2.2.1 (h'.below hB).2.2.2.2.1)
  clear h h' z
  go_enter Try.func45, Try.ntmps45
  go_upto_region 1 with fail
  refine absw (fun V hV => ?_)
  have tA : dk7 V w.heap.size (.int .i64 3) (.slice (some ⟨p, 0, none⟩) 3 3) (.slice (some ⟨l, 0, none⟩) 3 3) (.slice (some ⟨b, 0, none⟩) 9 cb) := by rw [hV]; exact (dk7.newAt rfl).alloc _
  have tB : dk7 V (w.heap.size + 1) (.int .i64 3) (.slice (some ⟨p', 0, none⟩) 3 3) (.slice (some ⟨l', 0, none⟩) 3 3) (.slice (some ⟨b', 0, none⟩) 9 cb') := by rw [hV]; exact dk7.newAt (by simp)
  have hB : Below w.heap.size w V := by rw [hV]; (with_reducible repeat (first | exact Below.refl _ _ | apply below_alloc | apply below_dN | apply below_d | refine below_setCell ?_ (by dsimp only; omega) | refine below_call (by assumption) ?_))
  clear hV
  have a0 := tA.c0
  have a1 := tA.c1
  have al := tA.lt
  have b0 := tB.c0
  have b1 := tB.c1
  have bl := tB.lt
  have HTA := Lib.hid tA
  have HTB := Lib.hid tB
  have HB := Lib.hid hB
  clear tA tB hB
  go_upto_region 3 with (go_at_call 86; (with_reducible refine (HE0.out _).mono ?_); rintro e w1 ⟨⟨v, rfl, rfl⟩, hb1⟩)
  clear a0 a1 al b0 b1 bl
  have tA := HTA.out.below hb1
  have tB := HTB.out.below hb1
  have hB := HB.out.trans (hb1.mono HB.out.size)
  have a2 := tA.c2
  have al := tA.lt
  have b2 := tB.c2
  have bl := tB.lt
  have HTA := Lib.hid tA
  have HTB := Lib.hid tB
  have HB := Lib.hid hB
  clear tA tB hB hb1
  go_upto_region 5 with (go_at_call 87; (with_reducible refine (HE1.out _ HB.out).mono ?_); rintro e w2 ⟨⟨v, rfl, rfl⟩, hb2⟩)
  clear a2 al b2 bl
  have tA := HTA.out.below hb2
  have tB := HTB.out.below hb2
  have hB := HB.out.trans (hb2.mono HB.out.size)
  have a3 := tA.c3
  have al := tA.lt
  have b3 := tB.c3
  have bl := tB.lt
  have HTA := Lib.hid tA
  have HTB := Lib.hid tB
  have HB := Lib.hid hB
  clear tA tB hB hb2
  go_upto_region 7 with (go_at_call 15; (with_reducible refine (HE2.out _ HB.out).mono ?_); rintro e w3 ⟨⟨v, rfl, rfl⟩, hb3⟩)
  clear a3 al b3 bl
  have tA := HTA.out.below hb3
  have tB := HTB.out.below hb3
  have hB := HB.out.trans (hb3.mono HB.out.size)
  have a4 := tA.c4
  have a5 := tA.c5
  have a6 := tA.c6
  have al := tA.lt
  have b4 := tB.c4
  have b5 := tB.c5
  have b6 := tB.c6
  have bl := tB.lt
  have HB := Lib.hid hB
  clear tA tB hB hb3
  go_wp2_with (go_at_call 16; (with_reducible refine (HE3.out _ HB.out).mono ?_); rintro e w4 ⟨⟨v, rfl, rfl⟩, hb4⟩)
  go_ret
  exact ⟨⟨_, rfl, rfl⟩, HB.out.trans (hb4.mono HB.out.size)⟩
/-- The blocks of a marked desk. -/
def DM (w : World) (p l b cb : Nat) : Prop := w.rowIs p 65 6 (mkp 1 3 dP) ∧ (∃ G, w.rowIs l 59 3 G ∧ MkC 7 3 G) ∧ 9 ≤ cb ∧ ∃ G, w.rowIs b 25 cb G ∧ MkF 10 9 G
theorem DM.below {w w' : World} {p l b cb : Nat} (h : DM w p l b cb) (hb : Below w.heap.size w w') : DM w' p l b cb := by
  obtain ⟨h1, ⟨G, h2, h3⟩, h4, G', h5, h6⟩ := h
  exact ⟨h1.of_block (hb.block p h1.lt), ⟨G, h2.of_block (hb.block l h2.lt), h3⟩, h4, G', h5.of_block (hb.block b h5.lt), h6⟩
set_option maxRecDepth 100000 in
set_option maxHeartbeats 2000000 in
theorem markG3_c (lo g cap : Nat) (F : Nat → Value) (w : World) (hls : lo ≤ w.heap.size) (hg : lo ≤ g) (hN : 9 ≤ cap) (hrow : w.rowIs g 25 cap F) :
    Calls Try.prog 17 #[.agg #[.int .i64 3, .int .i64 3, .slice (some ⟨g, 0, none⟩) 9 cap], .int .i64 10] w fun e w' => e = .returned (.int .i64 19) ∧ (∃ G, w'.rowIs g 25 cap G ∧ MkF 10 9 G) ∧ Keep1 g w w' ∧ Below lo w w' := by
  have hgl := hrow.lt
  have hr2 := hrow.alloc (.cells #[.int .i64 3, .int .i64 3, .slice (some ⟨g, 0, none⟩) 9 cap] 30)
  have HM := Lib.hid (show Calls Try.prog 61 #[.slice (some ⟨g, 0, none⟩) 9 cap, .int .i64 10] (w.alloc (.cells #[.int .i64 3, .int .i64 3, .slice (some ⟨g, 0, none⟩) 9 cap] 30)) _ from markF3_c lo g 9 cap cap 10 F _ hg (by omega) (by omega) hN hr2)
  have hB0 : Below lo w (w.alloc (.cells #[.int .i64 3, .int .i64 3, .slice (some ⟨g, 0, none⟩) 9 cap] 30)) := (Below.refl _ _).alloc hls _
  have HB0 := Lib.hid hB0
  clear hrow hr2 hB0
  go_enter Try.func17, Try.ntmps17
  go_wp2_with (go_at_call 61; (with_reducible refine (HM.out).mono ?_); rintro e w1 ⟨rfl, hG, hk, hb⟩)
  go_ret
  exact ⟨rfl, hG, fun q hq hne => (hk q (by simp; omega) hne).trans (((Below.refl w.heap.size w).alloc (Nat.le_refl _) _).block q hq), HB0.out.trans hb⟩
set_option maxRecDepth 100000 in
set_option maxHeartbeats 4000000 in
theorem markDesk_c (lo p l b cb : Nat) (w : World) (hls : lo ≤ w.heap.size) (h : DB lo w p l b cb) :
    Calls Try.prog 46 #[.agg #[.float .f32 0, .float .f32 0, .slice (some ⟨p, 0, none⟩) 3 3, .slice (some ⟨l, 0, none⟩) 3 3, .int .i64 3, .int .i64 3, .slice (some ⟨b, 0, none⟩) 9 cb], .int .i64 1] w fun e w' => e = .returned (.int .i64 19) ∧ DM w' p l b cb ∧ (∀ q, q < w.heap.size → q ≠ p → q ≠ l → q ≠ b → w'.heap[q]? = w.heap[q]?) ∧ Below lo w w' := by
  obtain ⟨⟨hp, hl, hb⟩, ⟨n1, n2, n3⟩, hP, hL, hF⟩ := h
  obtain ⟨F, hF1, hcb⟩ := hF.2
  have hpl := hP.lt
  have hll := hL.lt
  have hbl := hF1.lt
  go_enter Try.func46, Try.ntmps46
  go_upto_region 1 with fail
  refine absw (fun V hV => ?_)
  have tA : dk7 V w.heap.size (.int .i64 3) (.slice (some ⟨p, 0, none⟩) 3 3) (.slice (some ⟨l, 0, none⟩) 3 3) (.slice (some ⟨b, 0, none⟩) 9 cb) := by rw [hV]; exact dk7.newAt rfl
  have hB : Below lo w V := by rw [hV]; exact (Below.refl _ _).alloc hls _
  have hVb : Below w.heap.size w V := by rw [hV]; (with_reducible repeat (first | exact Below.refl _ _ | apply below_alloc | apply below_dN | apply below_d | refine below_setCell ?_ (by dsimp only; omega) | refine below_call (by assumption) ?_))
  have HVb := Lib.hid hVb
  have hVs := hVb.size
  have hP0 : V.rowIs p 65 6 dP := by rw [hV]; exact hP.alloc _
  have hL0 : V.rowIs l 59 3 dL := by rw [hV]; exact hL.alloc _
  have hF0 : V.rowIs b 25 cb F := by rw [hV]; exact hF1.alloc _
  have HM1 := Lib.hid (show Calls Try.prog 88 #[.slice (some ⟨p, 0, none⟩) 3 3, .int .i64 1] V _ from markPl3_c lo p 3 6 3 1 dP V hp (by omega) (by omega) (by omega) hP0)
  have HTA := Lib.hid tA
  have HB := Lib.hid hB
  have HL := Lib.hid hL0
  have HF := Lib.hid hF0
  have a2 := tA.c2
  have al := tA.lt
  clear hV tA hB hP hL hF hF1 hP0 hL0 hF0 hVb
  go_upto_region 2 with (go_at_call 88; (with_reducible refine (HM1.out).mono ?_); rintro e w1 ⟨rfl, hr1, hk1, hb1⟩)
  clear a2
  have tA := HTA.out.blk (hk1 _ al (by omega))
  have hL1 := HL.out.of_block (hk1 l (by omega) (by omega))
  have hF1 := HF.out.of_block (hk1 b (by omega) (by omega))
  have HM2 := Lib.hid (show Calls Try.prog 18 #[.slice (some ⟨l, 0, none⟩) 3 3, .int .i64 7] w1 _ from markC3_c lo l 3 3 7 3 dL w1 hl (by omega) (by omega) hL1 dL_all)
  have HTA := Lib.hid tA
  have HB1 := Lib.hid (HB.out.trans hb1)
  have HF := Lib.hid hF1
  have HP := Lib.hid hr1
  have hs1 := hb1.size
  have a3 := tA.c3
  clear al
  have al := tA.lt
  have HK1 := Lib.hid hk1
  clear tA hL1 hF1 hr1 hk1 hb1
  go_upto_region 3 with (go_at_call 18; (with_reducible refine (HM2.out).mono ?_); rintro e w2 ⟨rfl, hr2, hk2, hb2⟩)
  clear a3
  have hs2 := hb2.size
  have tA := HTA.out.blk (hk2 _ al (by omega))
  have hP2 := HP.out.of_block (hk2 p (by omega) (by omega))
  have hF2 := HF.out.of_block (hk2 b (by omega) (by omega))
  have hlo2 : lo ≤ w2.heap.size := by have := HB1.out.size; omega
  have HM3 := Lib.hid (show Calls Try.prog 17 #[.agg #[.int .i64 3, .int .i64 3, .slice (some ⟨b, 0, none⟩) 9 cb], .int .i64 10] w2 _ from markG3_c lo b cb F w2 hlo2 hb hcb hF2)
  have HP := Lib.hid hP2
  have HL := Lib.hid hr2
  have HB2 := Lib.hid (HB1.out.trans hb2)
  have a4 := tA.c4
  have a5 := tA.c5
  have a6 := tA.c6
  clear al
  have al := tA.lt
  have HK2 := Lib.hid hk2
  clear tA hP2 hF2 hr2 hk2 hb2
  go_wp2_with (go_at_call 17; (with_reducible refine (HM3.out).mono ?_); rintro e w3 ⟨rfl, hr3, hk3, hb3⟩)
  go_ret
  obtain ⟨G, hG1, hG2⟩ := HL.out
  exact ⟨rfl, ⟨HP.out.of_block (hk3 p HP.out.lt (by omega)), ⟨G, hG1.of_block (hk3 l hG1.lt (by omega)), hG2⟩, hcb, hr3⟩, fun q hq x1 x2 x3 => (hk3 q (by omega) x3).trans ((HK2.out q (by omega) x2).trans ((HK1.out q (by omega) x1).trans (HVb.out.block q hq))), HB2.out.trans hb3⟩
set_option maxRecDepth 100000 in
set_option maxHeartbeats 2000000 in
theorem heldG3_c (g cap : Nat) (G : Nat → Value) (w : World) (hN : 9 ≤ cap) (hrow : w.rowIs g 25 cap G) (hG : MkF 10 9 G) :
    Calls Try.prog 90 #[.agg #[.int .i64 3, .int .i64 3, .slice (some ⟨g, 0, none⟩) 9 cap], .int .i64 10] w (Ret (RV (.int .i64 19)) w) := by
  have hr2 := hrow.alloc (.cells #[.int .i64 3, .int .i64 3, .slice (some ⟨g, 0, none⟩) 9 cap] 30)
  have HM := Lib.hid (show Calls Try.prog 112 #[.slice (some ⟨g, 0, none⟩) 9 cap, .int .i64 10] (w.alloc (.cells #[.int .i64 3, .int .i64 3, .slice (some ⟨g, 0, none⟩) 9 cap] 30)) (Ret (RV (.int .i64 19)) _) from heldF3_c g 9 cap cap 10 G _ (by omega) (by omega) hN hr2 hG)
  clear hrow hr2
  go_enter Try.func90, Try.ntmps90
  go_wp2_with (go_at_call 112; (with_reducible refine (HM.out).mono ?_); rintro e w1 ⟨⟨v, rfl, rfl⟩, hb⟩)
  go_ret
  exact ⟨⟨_, rfl, rfl⟩, by (with_reducible repeat (first | exact Below.refl _ _ | apply below_alloc | apply below_dN | apply below_d | refine below_setCell ?_ (by dsimp only; omega) | refine below_call (by assumption) ?_))⟩
set_option maxRecDepth 100000 in
set_option maxHeartbeats 4000000 in
theorem heldDesk_c (p l b cb : Nat) (w : World) (h : DM w p l b cb) :
    Calls Try.prog 47 #[.agg #[.float .f32 0, .float .f32 0, .slice (some ⟨p, 0, none⟩) 3 3, .slice (some ⟨l, 0, none⟩) 3 3, .int .i64 3, .int .i64 3, .slice (some ⟨b, 0, none⟩) 9 cb], .int .i64 1] w (Ret (RV (.int .i64 19)) w) := by
  have HH1 := Lib.hid (fun w' (hB : Below w.heap.size w w') => (show Calls Try.prog 89 #[.slice (some ⟨p, 0, none⟩) 3 3, .int .i64 1] w' (Ret (RV (.int .i64 7)) w') from heldPl3_c p 3 6 3 1 dP dP w' (by omega) (by omega) (by omega) (h.below hB).1))
  have HH2 := Lib.hid (fun w' (hB : Below w.heap.size w w') => (show Calls Try.prog 19 #[.slice (some ⟨l, 0, none⟩) 3 3, .int .i64 7] w' (Ret (RV (.int .i64 10)) w') from (h.below hB).2.1.elim fun G hG => heldC3_c l 3 3 7 3 G w' (by omega) (by omega) hG.1 hG.2))
  have HH3 := Lib.hid (fun w' (hB : Below w.heap.size w w') => (show Calls Try.prog 90 #[.agg #[.int .i64 3, .int .i64 3, .slice (some ⟨b, 0, none⟩) 9 cb], .int .i64 10] w' (Ret (RV (.int .i64 19)) w') from (h.below hB).2.2.2.elim fun G hG => heldG3_c b cb G w' h.2.2.1 hG.1 hG.2))
  clear h
  go_enter Try.func47, Try.ntmps47
  go_upto_region 1 with fail
  refine absw (fun V hV => ?_)
  have tA : dk7 V w.heap.size (.int .i64 3) (.slice (some ⟨p, 0, none⟩) 3 3) (.slice (some ⟨l, 0, none⟩) 3 3) (.slice (some ⟨b, 0, none⟩) 9 cb) := by rw [hV]; exact dk7.newAt rfl
  have hB : Below w.heap.size w V := by rw [hV]; (with_reducible repeat (first | exact Below.refl _ _ | apply below_alloc | apply below_dN | apply below_d | refine below_setCell ?_ (by dsimp only; omega) | refine below_call (by assumption) ?_))
  have HTA := Lib.hid tA
  have HB := Lib.hid hB
  have a2 := tA.c2
  have al := tA.lt
  clear hV tA hB
  go_upto_region 4 with (go_at_call 89; (with_reducible refine (HH1.out _ HB.out).mono ?_); rintro e w1 ⟨⟨v, rfl, rfl⟩, hb1⟩)
  clear a2 al
  have tA := HTA.out.below hb1
  have HB := Lib.hid (HB.out.trans (hb1.mono HB.out.size))
  have HTA := Lib.hid tA
  have a3 := tA.c3
  have al := tA.lt
  clear tA hb1
  go_upto_region 7 with (go_at_call 19; (with_reducible refine (HH2.out _ HB.out).mono ?_); rintro e w2 ⟨⟨v, rfl, rfl⟩, hb2⟩)
  clear a3 al
  have tA := HTA.out.below hb2
  have HB := Lib.hid (HB.out.trans (hb2.mono HB.out.size))
  have a4 := tA.c4
  have a5 := tA.c5
  have a6 := tA.c6
  have al := tA.lt
  clear tA hb2
  go_wp2_with (go_at_call 90; (with_reducible refine (HH3.out _ HB.out).mono ?_); rintro e w3 ⟨⟨v, rfl, rfl⟩, hb3⟩)
  go_ret
  exact ⟨⟨_, rfl, rfl⟩, HB.out.trans (hb3.mono HB.out.size)⟩
set_option maxRecDepth 100000 in
set_option maxHeartbeats 8000000 in
theorem lawNewDesk (w : World) : Calls Try.prog 10 #[] w fun e w' => e = .returned (.bool true) ∧ Below w.heap.size w w' := by
  have HS := Lib.hid sNewDesk_c
  have HI := Lib.hid iNewDesk_c
  go_enter Try.func10, Try.ntmps10
  go_upto_region 2 with (go_at_call 43; (with_reducible refine (HS.out w).mono ?_); rintro e w1 ⟨p0, l0, b0, k0, rfl, hD0, hb1⟩)
  refine absw (fun V hV => ?_)
  have hbV : Below w1.heap.size w1 V := by rw [hV]; (with_reducible repeat (first | exact Below.refl _ _ | apply below_alloc | apply below_dN | apply below_d | refine below_setCell ?_ (by dsimp only; omega) | refine below_call (by assumption) ?_))
  have hVs : V.heap.size = w1.heap.size + 1 := by rw [hV]; simp
  have tA : dk7 V w1.heap.size (.int .i64 3) (.slice (some ⟨p0, 0, none⟩) 3 3) (.slice (some ⟨l0, 0, none⟩) 3 3) (.slice (some ⟨b0, 0, none⟩) 9 k0) := by rw [hV]; exact dk7.newAt rfl
  have HD0 := Lib.hid (hD0.below hbV)
  have HB := Lib.hid (hb1.trans (hbV.mono hb1.size))
  have HTA := Lib.hid tA
  have hws := HB.out.size
  clear hV hbV tA hD0 hb1
  go_upto_region 3 with (go_at_call 44; (with_reducible refine (HI.out V).mono ?_); rintro e w2 ⟨p, l, b, k, rfl, hD, hb2⟩)
  refine absw (fun U hU => ?_)
  have hbU : Below w2.heap.size w2 U := by rw [hU]; (with_reducible repeat (first | exact Below.refl _ _ | apply below_alloc | apply below_dN | apply below_d | refine below_setCell ?_ (by dsimp only; omega) | refine below_call (by assumption) ?_))
  have hUs : U.heap.size = w2.heap.size + 1 := by rw [hU]; simp
  have tG : dk7 U w2.heap.size (.int .i64 3) (.slice (some ⟨p, 0, none⟩) 3 3) (.slice (some ⟨l, 0, none⟩) 3 3) (.slice (some ⟨b, 0, none⟩) 9 k) := by rw [hU]; exact dk7.newAt rfl
  have hpl := hD.2.2.1.lt
  have hll := hD.2.2.2.1.lt
  have hbl := hD.2.2.2.2.lt
  have hs2 := hb2.size
  have hVU := hb2.trans (hbU.mono hs2)
  have tA := HTA.out.below hVU
  have HVU := Lib.hid hVU
  have HD := Lib.hid (hD.below hbU)
  have HTG := Lib.hid tG
  have HTA' := Lib.hid tA
  have HE := Lib.hid (eqDesk_c _ _ p l b k p0 l0 b0 k0 U (hD.below hbU) (HD0.out.below hVU))
  have a0 := tA.c0
  have a1 := tA.c1
  have a2 := tA.c2
  have a3 := tA.c3
  have a4 := tA.c4
  have a5 := tA.c5
  have a6 := tA.c6
  have al := tA.lt
  have g0 := tG.c0
  have g1 := tG.c1
  have g2 := tG.c2
  have g3 := tG.c3
  have g4 := tG.c4
  have g5 := tG.c5
  have g6 := tG.c6
  have gl := tG.lt
  clear hU hbU tG tA hD hb2 hVU
  go_upto_region 5 with (go_at_call 45; (with_reducible refine (HE.out).mono ?_); rintro e w3 ⟨⟨v, rfl, rfl⟩, hb3⟩)
  clear a0 a1 a2 a3 a4 a5 a6 al g0 g1 g2 g3 g4 g5 g6 gl
  have hs3 := hb3.size
  have tG := HTG.out.below hb3
  have HM := Lib.hid (markDesk_c V.heap.size p l b k w3 (by omega) (HD.out.below hb3))
  have HTG := Lib.hid tG
  have HB3 := Lib.hid hb3
  have g0 := tG.c0
  have g1 := tG.c1
  have g2 := tG.c2
  have g3 := tG.c3
  have g4 := tG.c4
  have g5 := tG.c5
  have g6 := tG.c6
  have gl := tG.lt
  clear tG hb3
  go_upto_region 8 with (go_at_call 46; (with_reducible refine (HM.out).mono ?_); rintro e w4 ⟨rfl, hM, hk4, hb4⟩)
  clear g0 g1 g2 g3 g4 g5 g6
  have hs4 := hb4.size
  have tG := HTG.out.blk (hk4 _ gl (by omega) (by omega) (by omega))
  have hV4 := (HVU.out.trans (HB3.out.mono (by omega))).trans hb4
  have HV4 := Lib.hid hV4
  have HTG := Lib.hid tG
  have HDM := Lib.hid hM
  have HH := Lib.hid (heldDesk_c p l b k w4 hM)
  have g0 := tG.c0
  have g1 := tG.c1
  have g2 := tG.c2
  have g3 := tG.c3
  have g4 := tG.c4
  have g5 := tG.c5
  have g6 := tG.c6
  clear gl
  have gl := tG.lt
  clear tG hM hk4 hb4 hV4
  go_upto_region 13 with (go_at_call 47; (with_reducible refine (HH.out).mono ?_); rintro e w5 ⟨⟨v, rfl, rfl⟩, hb5⟩)
  clear g0 g1 g2 g3 g4 g5 g6 gl
  have hs5 := hb5.size
  have HTG := Lib.hid (HTG.out.below hb5)
  have HDM := Lib.hid (HDM.out.below hb5)
  have HV5 := Lib.hid (HV4.out.trans (hb5.mono (by omega)))
  clear hb5
  go_upto_region 14 with (go_at_call 44; (with_reducible refine (HI.out w5).mono ?_); rintro e w6 ⟨p2, l2, b2, k2, rfl, hD2, hb6⟩)
  refine absw (fun U6 hU6 => ?_)
  have hbU : Below w6.heap.size w6 U6 := by rw [hU6]; (with_reducible repeat (first | exact Below.refl _ _ | apply below_alloc | apply below_dN | apply below_d | refine below_setCell ?_ (by dsimp only; omega) | refine below_call (by assumption) ?_))
  have hUs6 : U6.heap.size = w6.heap.size + 1 := by rw [hU6]; simp
  have tN : dk7 U6 w6.heap.size (.int .i64 3) (.slice (some ⟨p2, 0, none⟩) 3 3) (.slice (some ⟨l2, 0, none⟩) 3 3) (.slice (some ⟨b2, 0, none⟩) 9 k2) := by rw [hU6]; exact dk7.newAt rfl
  have hs6 := hb6.size
  have hb56 := hb6.trans (hbU.mono hs6)
  have HTG := Lib.hid (HTG.out.below hb56)
  have HDM := Lib.hid (HDM.out.below hb56)
  have hV6 := HV5.out.trans (hb56.mono (by omega))
  have HV6 := Lib.hid hV6
  have tA := HTA.out.below hV6
  have HE := Lib.hid (eqDesk_c _ _ p2 l2 b2 k2 p0 l0 b0 k0 U6 (hD2.below hbU) (HD0.out.below hV6))
  have a0 := tA.c0
  have a1 := tA.c1
  have a2 := tA.c2
  have a3 := tA.c3
  have a4 := tA.c4
  have a5 := tA.c5
  have a6 := tA.c6
  have al := tA.lt
  have g0 := tN.c0
  have g1 := tN.c1
  have g2 := tN.c2
  have g3 := tN.c3
  have g4 := tN.c4
  have g5 := tN.c5
  have g6 := tN.c6
  have gl := tN.lt
  clear hU6 hbU tN tA hD2 hb6 hb56 hV6
  go_upto_region 17 with (go_at_call 45; (with_reducible refine (HE.out).mono ?_); rintro e w7 ⟨⟨v, rfl, rfl⟩, hb7⟩)
  clear a0 a1 a2 a3 a4 a5 a6 al g0 g1 g2 g3 g4 g5 g6 gl
  have tG := HTG.out.below hb7
  have HH := Lib.hid (heldDesk_c p l b k w7 (HDM.out.below hb7))
  have hs7 := hb7.size
  have HV7 := Lib.hid (HV6.out.trans (hb7.mono (by omega)))
  have g0 := tG.c0
  have g1 := tG.c1
  have g2 := tG.c2
  have g3 := tG.c3
  have g4 := tG.c4
  have g5 := tG.c5
  have g6 := tG.c6
  have gl := tG.lt
  clear tG hb7
  go_wp2_with (go_at_call 47; (with_reducible refine (HH.out).mono ?_); rintro e w8 ⟨⟨v, rfl, rfl⟩, hb8⟩)
  go_ret
  exact ⟨rfl, HB.out.trans ((HV7.out.trans (hb8.mono (by omega))).mono (by omega))⟩
end Go.Proofs.Ytpajakindpbepaa
