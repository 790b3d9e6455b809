/- New desks, in both spellings. No condition. -/
import Derived.Test.YtpajakindpbepaaCns
import Derived.Test.YtpajakindpbepaaDkM
import Derived.Test.YtpajakindpbepaaDkP
namespace Go.Proofs.Ytpajakindpbepaa
open Go.RowKit Go.IntWalk
set_option linter.unusedSimpArgs false
/-- What a new desk's places, line and heights are. -/
def dP (i : Nat) : Value := .float .f32 (if i = 3 ∨ i = 4 then 1048576000 else 0)
def dL (i : Nat) : Value := if i = 0 then .complex .f32 0 0 else if i = 1 then .complex .f32 1065353216 1040187392 else .complex .f32 1073741824 0
def dX (j : Nat) : Nat := coneM 1065353216 1065353216 (j % 3) (j / 3)
theorem dk_ok : ∀ j : Fin 9, coneOkB 1065353216 1065353216 (j.val % 3) (j.val / 3) = true := by decide +kernel
/-- The blocks of a new desk. -/
def DB (lo : Nat) (w : World) (p l b cb : Nat) : Prop := (lo ≤ p ∧ lo ≤ l ∧ lo ≤ b) ∧ (p ≠ l ∧ p ≠ b ∧ l ≠ b) ∧ w.rowIs p 65 6 dP ∧ w.rowIs l 59 3 dL ∧ FlW w b 9 cb dX
theorem FlW.lt {w : World} {b n cap : Nat} {X : Nat → Nat} (h : FlW w b n cap X) : b < w.heap.size := h.2.elim fun _ h => h.1.lt
theorem DB.below {lo : Nat} {w w' : World} {p l b cb : Nat} (h : DB lo w p l b cb) (hb : Below w.heap.size w w') : DB lo w' p l b cb := ⟨h.1, h.2.1, h.2.2.1.of_block (hb.block p h.2.2.1.lt), h.2.2.2.1.of_block (hb.block l h.2.2.2.1.lt), h.2.2.2.2.dn h.2.2.2.2.lt hb⟩
/-- What a new desk is returned as. -/
def DK (w : World) (e : Ending) (w' : World) : Prop := ∃ p l b cb, e = .returned (.agg #[.float .f32 0, .float .f32 0, .slice (some ⟨p, 0, none⟩) 3 3, .slice (some ⟨l, 0, none⟩) 3 3, .int .i64 3, .int .i64 3, .slice (some ⟨b, 0, none⟩) 9 cb]) ∧ DB w.heap.size w' p l b cb ∧ Below w.heap.size w w'
/-- A cell that holds a desk. -/
def dk7 (w : World) (q : Nat) (x P L H : Value) : Prop := w.rowIs q 68 7 (fun i => if i = 0 ∨ i = 1 then .float .f32 0 else if i = 2 then P else if i = 3 then L else if i = 6 then H else x)
namespace dk7
variable {w : World} {q : Nat} {x P L H : Value}
theorem c0 (h : dk7 w q x P L H) : w.cell? ⟨q, 0, none⟩ = some (.float .f32 0) := World.rowIs.cell h (i := 0) (by omega)
theorem c1 (h : dk7 w q x P L H) : w.cell? ⟨q, 1, none⟩ = some (.float .f32 0) := World.rowIs.cell h (i := 1) (by omega)
theorem c2 (h : dk7 w q x P L H) : w.cell? ⟨q, 2, none⟩ = some P := World.rowIs.cell h (i := 2) (by omega)
theorem c3 (h : dk7 w q x P L H) : w.cell? ⟨q, 3, none⟩ = some L := World.rowIs.cell h (i := 3) (by omega)
theorem c4 (h : dk7 w q x P L H) : w.cell? ⟨q, 4, none⟩ = some x := World.rowIs.cell h (i := 4) (by omega)
theorem c5 (h : dk7 w q x P L H) : w.cell? ⟨q, 5, none⟩ = some x := World.rowIs.cell h (i := 5) (by omega)
theorem c6 (h : dk7 w q x P L H) : w.cell? ⟨q, 6, none⟩ = some H := World.rowIs.cell h (i := 6) (by omega)
theorem fr (h : dk7 w q x P L H) (i : Nat) : w.frozen? ⟨q, i, none⟩ = false := World.rowIs.frozen h i
theorem lt (h : dk7 w q x P L H) : q < w.heap.size := World.rowIs.lt h
theorem below {w' : World} (h : dk7 w q x P L H) (hb : Below w.heap.size w w') : dk7 w' q x P L H := World.rowIs.of_block h (hb.block q h.lt)
theorem blk {w' : World} (h : dk7 w q x P L H) (hb : w'.heap[q]? = w.heap[q]?) : dk7 w' q x P L H := World.rowIs.of_block h hb
theorem alloc (h : dk7 w q x P L H) (o : Obj) : dk7 (w.alloc o) q x P L H := World.rowIs.alloc h o
theorem newAt (hq : q = w.heap.size) : dk7 (w.alloc (.cells #[.float .f32 0, .float .f32 0, P, L, x, x, H] 68)) q x P L H := by
  subst hq
  exact World.rowIs_alloc w _ _ _ (fun i hi => by
    match i, hi with
    | 0, _ => rfl
    | 1, _ => rfl
    | 2, _ => rfl
    | 3, _ => rfl
    | 4, _ => rfl
    | 5, _ => rfl
    | 6, _ => rfl)
theorem setL (h : dk7 w q x P L H) (y : Value) : dk7 (w.setCell ⟨q, 3, none⟩ y) q x P y H := (World.rowIs.set h 3 _).congr (fun i hi => by
  by_cases e : i = 3
  · simp [e]
  · simp only [if_neg e])
end dk7
theorem dk7.other {w : World} {q : Nat} {x P L H : Value} (h : dk7 w q x P L H) {c i : Nat} (hne : q ≠ c) (y : Value) : dk7 (w.setCell ⟨c, i, none⟩ y) q x P L H := World.rowIs.setOther h (a := ⟨c, i, none⟩) hne y
theorem dP_new (w : World) (q : Nat) (hq : q = w.heap.size) : (w.alloc (.cells #[.float .f32 0, .float .f32 0, .float .f32 0, .float .f32 1048576000, .float .f32 1048576000, .float .f32 0] 65)).rowIs q 65 6 dP := by
  subst hq
  exact World.rowIs_alloc w _ _ _ (fun i hi => by
    match i, hi with
    | 0, _ => rfl
    | 1, _ => rfl
    | 2, _ => rfl
    | 3, _ => rfl
    | 4, _ => rfl
    | 5, _ => rfl)
theorem dL_new (w : World) (q : Nat) (hq : q = w.heap.size) : (w.alloc (.cells #[.complex .f32 0 0, .complex .f32 1065353216 1040187392, .complex .f32 1073741824 0] 59)).rowIs q 59 3 dL := by
  subst hq
  exact World.rowIs_alloc w _ _ _ (fun i hi => by
    match i, hi with
    | 0, _ => rfl
    | 1, _ => rfl
    | 2, _ => rfl)
/-- The last three cells of a desk, laid anew. -/
theorem dk7.setG {w : World} {q : Nat} {x P L H : Value} (h : dk7 w q x P L H) (y z : Value) : dk7 (((w.setCell ⟨q, 4, none⟩ y).setCell ⟨q, 5, none⟩ y).setCell ⟨q, 6, none⟩ z) q y P L z := (World.rowIs.set (World.rowIs.set (World.rowIs.set h 4 _) 5 _) 6 _).congr (fun i hi => by
  match i, hi with
  | 0, _ => rfl
  | 1, _ => rfl
  | 2, _ => rfl
  | 3, _ => rfl
  | 4, _ => rfl
  | 5, _ => rfl
  | 6, _ => rfl)
/-- The result's cell, filled, leaves the desk's blocks alone. -/
theorem DK.end {w V : World} {p l b cb : Nat} {v0 v1 v2 v3 v4 v5 v6 : Value} (hP : V.rowIs p 65 6 dP) (hL : V.rowIs l 59 3 dL) (hF : FlW V b 9 cb dX) (hB : Below w.heap.size w V) (h1 : w.heap.size < p) (h2 : w.heap.size < l) (h3 : w.heap.size < b) (n1 : p ≠ l) (n2 : p ≠ b) (n3 : l ≠ b) :
    DK w (.returned (.agg #[.float .f32 0, .float .f32 0, .slice (some ⟨p, 0, none⟩) 3 3, .slice (some ⟨l, 0, none⟩) 3 3, .int .i64 3, .int .i64 3, .slice (some ⟨b, 0, none⟩) 9 cb])) (((((((V.setCell ⟨w.heap.size, 0, none⟩ v0).setCell ⟨w.heap.size, 1, none⟩ v1).setCell ⟨w.heap.size, 2, none⟩ v2).setCell ⟨w.heap.size, 3, none⟩ v3).setCell ⟨w.heap.size, 4, none⟩ v4).setCell ⟨w.heap.size, 5, none⟩ v5).setCell ⟨w.heap.size, 6, none⟩ v6) := by
  have k : Keep1 w.heap.size V (((((((V.setCell ⟨w.heap.size, 0, none⟩ v0).setCell ⟨w.heap.size, 1, none⟩ v1).setCell ⟨w.heap.size, 2, none⟩ v2).setCell ⟨w.heap.size, 3, none⟩ v3).setCell ⟨w.heap.size, 4, none⟩ v4).setCell ⟨w.heap.size, 5, none⟩ v5).setCell ⟨w.heap.size, 6, none⟩ v6) := Keep1.set (Keep1.set (Keep1.set (Keep1.set (Keep1.set (Keep1.set (Keep1.set (Keep1.refl _ _) _) _) _) _) _) _) _
  refine ⟨p, l, b, cb, rfl, ⟨⟨by omega, by omega, by omega⟩, ⟨n1, n2, n3⟩, hP.of_block (k _ hP.lt (by omega)), hL.of_block (k _ hL.lt (by omega)), hF.keep1 hF.lt k (by omega)⟩, ?_⟩
  have st : ∀ {w' : World} (i : Nat) (v : Value), Below w.heap.size w w' → Below w.heap.size w (w'.setCell ⟨w.heap.size, i, none⟩ v) := fun i v h => h.setCell (p := ⟨w.heap.size, i, none⟩) (Nat.le_refl _) _
  exact st 6 _ (st 5 _ (st 4 _ (st 3 _ (st 2 _ (st 1 _ (st 0 _ hB))))))
set_option maxRecDepth 100000 in
set_option maxHeartbeats 4000000 in
theorem sNewDesk_c (w : World) : Calls Try.prog 43 #[] w (DK w) := by
  have HC := Lib.hid (fun w' => show Calls Try.prog 85 #[.int .i64 3, .int .i64 3, .complex .f32 1065353216 1065353216, .float .f32 1082130432, .float .f32 1065353216] w' (CSp 3 3 9 dX w') from l06Cone_c 3 3 9 1065353216 1065353216 w' (by omega) (by omega) (by omega) (by omega) rfl (by decide +kernel) (by decide +kernel) (fun j hj => dk_ok ⟨j, hj⟩))
  go_enter Try.func43, Try.ntmps43
  go_upto_region 2 with fail
  refine absw (fun V hV => ?_)
  have hs1 : V.heap.size = w.heap.size + 1 + 1 + 1 := by rw [hV]; simp
  have tR : dk7 V w.heap.size (.int .i64 0) (.slice none 0 0) (.slice none 0 0) (.slice none 0 0) := by rw [hV]; exact ((dk7.newAt rfl).alloc _).alloc _
  have tD : dk7 V (w.heap.size + 1 + 1) (.int .i64 0) (.slice (some ⟨w.heap.size + 1, 0, none⟩) 3 3) (.slice none 0 0) (.slice none 0 0) := by rw [hV]; exact dk7.newAt (by simp)
  have hP : V.rowIs (w.heap.size + 1) 65 6 dP := by rw [hV]; exact (dP_new _ _ (by simp)).alloc _
  have hB1 : Below w.heap.size w V := by rw [hV]; (with_reducible repeat (first | exact Below.refl _ _ | apply below_alloc | apply below_dN | apply below_d | refine below_setCell ?_ (by dsimp only; omega) | refine below_call (by assumption) ?_))
  have hlR := tR.lt
  have hlD := tD.lt
  have d3 := tD.c3
  have df := tD.fr 3
  have HTR := Lib.hid tR
  have HTD := Lib.hid tD
  have HP := Lib.hid hP
  have HB1 := Lib.hid hB1
  clear hV tR tD hP hB1
  go_upto_region 3 with fail
  refine absw (fun V2 hV2 => ?_)
  have hs2 : V2.heap.size = w.heap.size + 1 + 1 + 1 + 1 := by rw [hV2]; simp [World.setCell, hs1]
  have tR : dk7 V2 w.heap.size (.int .i64 0) (.slice none 0 0) (.slice none 0 0) (.slice none 0 0) := by rw [hV2]; exact (HTR.out.other (by omega) _).alloc _
  have tD : dk7 V2 (w.heap.size + 1 + 1) (.int .i64 0) (.slice (some ⟨w.heap.size + 1, 0, none⟩) 3 3) (.slice (some ⟨w.heap.size + 1 + 1 + 1, 0, none⟩) 3 3) (.slice none 0 0) := by rw [hV2]; exact (HTD.out.setL _).alloc _
  have hP : V2.rowIs (w.heap.size + 1) 65 6 dP := by rw [hV2]; exact (HP.out.setOther (a := ⟨w.heap.size + 1 + 1, 3, none⟩) (by simp) _).alloc _
  have hL : V2.rowIs (w.heap.size + 1 + 1 + 1) 59 3 dL := by rw [hV2]; exact dL_new _ _ (by simp [World.setCell, hs1])
  have hB2 : Below w.heap.size w V2 := by rw [hV2]; exact (HB1.out.setCell (p := ⟨w.heap.size + 1 + 1, 3, none⟩) (by simp only; omega) _).alloc (by simp [World.setCell]; omega) _
  have HTR := Lib.hid tR
  have HTD := Lib.hid tD
  have HP := Lib.hid hP
  have HL := Lib.hid hL
  have HB2 := Lib.hid hB2
  clear hV2 tR tD hP hL hB2 d3 df hlR hlD
  go_upto_region 4 with (go_at_call 85; ((with_reducible refine (HC.out _).mono ?_); rintro e w2 ⟨b, cap, rfl, hb, hF, hB⟩); have tD := HTD.out.below hB; have hlD := tD.lt; have df4 := tD.fr 4; have df5 := tD.fr 5; have df6 := tD.fr 6; have dc4 := tD.c4; have dc5 := tD.c5; have dc6 := tD.c6)
  refine absw (fun V3 hV3 => ?_)
  have kq : Keep1 (w.heap.size + 1 + 1) w2 V3 := by rw [hV3]; exact Keep1.set (Keep1.set (Keep1.set (Keep1.refl _ _) _) _) _
  have hs3 : V3.heap.size = w2.heap.size := by rw [hV3]; simp [World.setCell]
  have tD3 : dk7 V3 (w.heap.size + 1 + 1) (.int .i64 3) (.slice (some ⟨w.heap.size + 1, 0, none⟩) 3 3) (.slice (some ⟨w.heap.size + 1 + 1 + 1, 0, none⟩) 3 3) (.slice (some ⟨b, 0, none⟩) 9 cap) := by rw [hV3]; exact tD.setG _ _
  have hB3 : Below w.heap.size w V3 := by rw [hV3]; exact (((HB2.out.trans (hB.mono (by omega))).setCell (p := ⟨w.heap.size + 1 + 1, 4, none⟩) (by simp only; omega) _).setCell (p := ⟨w.heap.size + 1 + 1, 5, none⟩) (by simp only; omega) _).setCell (p := ⟨w.heap.size + 1 + 1, 6, none⟩) (by simp only; omega) _
  have tR3 := (HTR.out.below hB).blk (kq _ (HTR.out.below hB).lt (by omega))
  have hP3 := (HP.out.of_block (hB.block _ HP.out.lt)).of_block (kq _ (Nat.lt_of_lt_of_le HP.out.lt hB.size) (by omega))
  have hL3 := (HL.out.of_block (hB.block _ HL.out.lt)).of_block (kq _ (Nat.lt_of_lt_of_le HL.out.lt hB.size) (by omega))
  have hF3 := hF.keep1 hb.2 kq (by omega)
  have HP := Lib.hid hP3
  have HL := Lib.hid hL3
  have HF := Lib.hid hF3
  have HB := Lib.hid hB3
  clear hV3 hP3 hL3 hF3 hB3 tD hF hB kq hlD df4 df5 df6 dc4 dc5 dc6
  have d0 := tD3.c0
  have d1 := tD3.c1
  have d2 := tD3.c2
  have d3 := tD3.c3
  have d4 := tD3.c4
  have d5 := tD3.c5
  have d6 := tD3.c6
  have dl := tD3.lt
  have q0 := tR3.c0
  have q1 := tR3.c1
  have q2 := tR3.c2
  have q3 := tR3.c3
  have q4 := tR3.c4
  have q5 := tR3.c5
  have q6 := tR3.c6
  have ql := tR3.lt
  have qf0 := tR3.fr 0
  have qf1 := tR3.fr 1
  have qf2 := tR3.fr 2
  have qf3 := tR3.fr 3
  have qf4 := tR3.fr 4
  have qf5 := tR3.fr 5
  have qf6 := tR3.fr 6
  clear tD3 tR3
  go_wp2
  refine bodyPost_ret (v := .agg #[.float .f32 0, .float .f32 0, .slice (some ⟨w.heap.size + 1, 0, none⟩) 3 3, .slice (some ⟨w.heap.size + 1 + 1 + 1, 0, none⟩) 3 3, .int .i64 3, .int .i64 3, .slice (some ⟨b, 0, none⟩) 9 cap]) (by simp [results, Try.results43, go_sem, *] <;> (first | rfl | exact ⟨rfl, rfl⟩ | exact ⟨rfl, rfl, rfl⟩ | exact ⟨rfl, rfl, rfl, rfl⟩)) rfl ?_
  exact DK.end HP.out HL.out HF.out HB.out (by omega) (by omega) (by omega) (by omega) (by omega) (by omega)
set_option maxRecDepth 100000 in
set_option maxHeartbeats 4000000 in
theorem iNewDesk_c (w : World) : Calls Try.prog 44 #[] w (DK w) := by
  have HC := Lib.hid (fun w' => show Calls Try.prog 40 #[.int .i64 3, .int .i64 3, .complex .f32 1065353216 1065353216, .float .f32 1082130432, .float .f32 1065353216] w' (MGw 3 3 9 dX w') from coneGridW_c 3 3 9 1065353216 1065353216 w' (by omega) (by omega) (by omega) (by omega) rfl (by decide +kernel) (by decide +kernel) (by decide +kernel) (by decide +kernel) (fun j hj => dk_ok ⟨j, hj⟩))
  go_enter Try.func44, Try.ntmps44
  go_upto_region 1 with fail
  have tR0 : dk7 (w.alloc (.cells #[.float .f32 0, .float .f32 0, .slice none 0 0, .slice none 0 0, .int .i64 0, .int .i64 0, .slice none 0 0] 68)) w.heap.size (.int .i64 0) (.slice none 0 0) (.slice none 0 0) (.slice none 0 0) := dk7.newAt rfl
  have hB0 : Below w.heap.size w (w.alloc (.cells #[.float .f32 0, .float .f32 0, .slice none 0 0, .slice none 0 0, .int .i64 0, .int .i64 0, .slice none 0 0] 68)) := by (with_reducible repeat (first | exact Below.refl _ _ | apply below_alloc | apply below_dN | apply below_d | refine below_setCell ?_ (by dsimp only; omega) | refine below_call (by assumption) ?_))
  have hs0 : (w.alloc (.cells #[.float .f32 0, .float .f32 0, .slice none 0 0, .slice none 0 0, .int .i64 0, .int .i64 0, .slice none 0 0] 68)).heap.size = w.heap.size + 1 := by simp
  have HTR := Lib.hid tR0
  have HB0 := Lib.hid hB0
  clear tR0 hB0
  go_upto_region 2 with (go_at_call 40; ((with_reducible refine (HC.out _).mono ?_); rintro e w2 ⟨b, cap, rfl, hb, hF, hB⟩))
  refine absw (fun V hV => ?_)
  have hsB := hB.size
  have hs1 : V.heap.size = w2.heap.size + 1 := by rw [hV]; simp
  have tC : gtc V w2.heap.size (.int .i64 3) (.int .i64 3) (.slice (some ⟨b, 0, none⟩) 9 cap) := by rw [hV]; exact gtc.newAt rfl
  have tR := (HTR.out.below hB).alloc (.cells #[.int .i64 3, .int .i64 3, .slice (some ⟨b, 0, none⟩) 9 cap] 30)
  rw [← hV] at tR
  have hF2 : FlW V b 9 cap dX := hF.dn hb.2 (by rw [hV]; (with_reducible repeat (first | exact Below.refl _ _ | apply below_alloc | apply below_dN | apply below_d | refine below_setCell ?_ (by dsimp only; omega) | refine below_call (by assumption) ?_)))
  have hB2 : Below w.heap.size w V := by rw [hV]; exact (HB0.out.trans (hB.mono (by omega))).alloc (by omega) _
  have HF := Lib.hid hF2
  have HB := Lib.hid hB2
  have c0 := tC.c0
  have c1 := tC.c1
  have c2 := tC.c2
  have cl := tC.lt
  have q0 := tR.c0
  have q1 := tR.c1
  have q2 := tR.c2
  have q3 := tR.c3
  have q4 := tR.c4
  have q5 := tR.c5
  have q6 := tR.c6
  have ql := tR.lt
  have qf0 := tR.fr 0
  have qf1 := tR.fr 1
  have qf2 := tR.fr 2
  have qf3 := tR.fr 3
  have qf4 := tR.fr 4
  have qf5 := tR.fr 5
  have qf6 := tR.fr 6
  clear hV hF hB hF2 hB2 tC tR HTR HB0
  have A1 : ∀ (o o' : Obj) (i : Nat), ((V.alloc o).alloc o').cell? ⟨w.heap.size, i, none⟩ = V.cell? ⟨w.heap.size, i, none⟩ := fun o o' i => (((Below.refl V.heap.size V).alloc (Nat.le_refl _) o).alloc (by simp) o').cell (p := ⟨w.heap.size, i, none⟩) ql
  have A2 : ∀ (o o' : Obj) (i : Nat), ((V.alloc o).alloc o').cell? ⟨w2.heap.size, i, none⟩ = V.cell? ⟨w2.heap.size, i, none⟩ := fun o o' i => (((Below.refl V.heap.size V).alloc (Nat.le_refl _) o).alloc (by simp) o').cell (p := ⟨w2.heap.size, i, none⟩) cl
  have A3 : ∀ (o o' : Obj) (i : Nat), ((V.alloc o).alloc o').frozen? ⟨w.heap.size, i, none⟩ = V.frozen? ⟨w.heap.size, i, none⟩ := fun o o' i => (((Below.refl V.heap.size V).alloc (Nat.le_refl _) o).alloc (by simp) o').frozen (p := ⟨w.heap.size, i, none⟩) ql
  go_wp2
  refine bodyPost_ret (v := .agg #[.float .f32 0, .float .f32 0, .slice (some ⟨V.heap.size, 0, none⟩) 3 3, .slice (some ⟨V.heap.size + 1, 0, none⟩) 3 3, .int .i64 3, .int .i64 3, .slice (some ⟨b, 0, none⟩) 9 cap]) (by simp [results, Try.results44, go_sem, *] <;> (first | rfl | exact ⟨rfl, rfl⟩ | exact ⟨rfl, rfl, rfl⟩ | exact ⟨rfl, rfl, rfl, rfl⟩)) rfl ?_
  have hbw : b < V.heap.size := HF.out.lt
  have hP := (dP_new V V.heap.size rfl).alloc (.cells #[.complex .f32 0 0, .complex .f32 1065353216 1040187392, .complex .f32 1073741824 0] 59)
  have hL := dL_new (V.alloc (.cells #[.float .f32 0, .float .f32 0, .float .f32 0, .float .f32 1048576000, .float .f32 1048576000, .float .f32 0] 65)) (V.heap.size + 1) (by simp)
  have hbb : Below V.heap.size V ((V.alloc (.cells #[.float .f32 0, .float .f32 0, .float .f32 0, .float .f32 1048576000, .float .f32 1048576000, .float .f32 0] 65)).alloc (.cells #[.complex .f32 0 0, .complex .f32 1065353216 1040187392, .complex .f32 1073741824 0] 59)) := by (with_reducible repeat (first | exact Below.refl _ _ | apply below_alloc | apply below_dN | apply below_d | refine below_setCell ?_ (by dsimp only; omega) | refine below_call (by assumption) ?_))
  exact DK.end hP hL (HF.out.dn hbw hbb) (HB.out.trans (hbb.mono (by omega))) (by omega) (by omega) (by have := hb.1; omega) (by omega) (by omega) (by omega)
end Go.Proofs.Ytpajakindpbepaa
