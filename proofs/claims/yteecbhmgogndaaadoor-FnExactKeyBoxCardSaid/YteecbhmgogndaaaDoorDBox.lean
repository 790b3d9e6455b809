/- Contracts of KeyBox in both spellings, and its law. No condition. -/
import Derived.Test.YteecbhmgogndaaaDoorDLaws
import Derived.Test.YteecbhmgogndaaaDoorDPos
namespace Go.Proofs.YteecbhmgogndaaaDoor
open Go.RowKit
set_option linter.unusedSimpArgs false

def bxQ (a b c d : Nat) (ok : Bool) (v : Value) : Prop := ∃ r1 r2 r3 r4, v = .tuple #[.agg #[.float .f32 r1, .float .f32 r2], .agg #[.float .f32 r3, .float .f32 r4], .bool ok] ∧ cn .f32 r1 = a ∧ cn .f32 r2 = b ∧ cn .f32 r3 = c ∧ cn .f32 r4 = d
/-- The steps of a key's corners. -/
def kW (s : ByteArray) : Nat := 2 ^ (24 - s.size)
def cA (s : ByteArray) : Int := ((ky s s.size * kW s : Nat) : Int)
def cB (s : ByteArray) : Int := ((kx s s.size * kW s : Nat) : Int)
theorem kW_facts (s : ByteArray) (hs : s.size ≤ 20) (hb : keyB s = true) : 16 ≤ kW s ∧ kW s ≤ 16777216 ∧ ky s s.size * kW s + kW s ≤ 16777216 ∧ kx s s.size * kW s + kW s ≤ 16777216 := by
  have hx := kx_lt s s.size
  have hy := ky_lt s hb s.size
  have hm : 2 ^ s.size * kW s = 16777216 := by unfold kW; rw [← Nat.pow_add, show s.size + (24 - s.size) = 24 by omega]
  have h1 : 2 ^ 4 ≤ 2 ^ (24 - s.size) := Nat.pow_le_pow_right (by decide) (by omega)
  have h2 : 2 ^ (24 - s.size) ≤ 2 ^ 24 := Nat.pow_le_pow_right (by decide) (by omega)
  refine ⟨h1, h2, ?_, ?_⟩
  · rw [← Nat.succ_mul, ← hm]; exact Nat.mul_le_mul_right _ hy
  · rw [← Nat.succ_mul, ← hm]; exact Nat.mul_le_mul_right _ hx
theorem pos_in {n e : Int} (h1 : -4194304 ≤ n) (h2 : n ≤ 4194304) (h3 : -8388608 ≤ e) (h4 : e ≤ 8388607) : stepsIn n e = true := by
  simp only [stepsIn, Bool.and_eq_true, decide_eq_true_eq]
  omega
set_option maxRecDepth 100000 in
set_option maxHeartbeats 4000000 in
theorem sKeyBox_c (s : ByteArray) (hs : s.size ≤ 1048576) (hk : keyOk s = true) (w : World) : Calls Tryd.prog 17 #[.string s] w (Ret (bxQ (psF (cA s / 2 - 4194304)) (psF (cB s - 8388608)) (psF ((cA s + kW s - 1) / 2 - 4194304)) (psF (cB s + kW s - 1 - 8388608)) true) w) := by
  have HS := Lib.hid (l07Is_c s hs)
  rw [hk] at HS
  (have hk2 := hk; (simp only [keyOk, Bool.and_eq_true, decide_eq_true_eq] at hk2); obtain ⟨hkb, hz⟩ := hk2; obtain ⟨w1', w2', w3', w4'⟩ := kW_facts s hz hkb; obtain ⟨W, hW⟩ : ∃ W, kW s = W := ⟨_, rfl⟩; have hsh : IntKind.i64.wrap ((2 : Int) ^ (24 - s.size)) = (W : Int) := (by have e : ((2 : Int) ^ (24 - s.size)) = ((2 ^ (24 - s.size) : Nat) : Int) := (by simp); (rw [e, show 2 ^ (24 - s.size) = W from hW, IntKind.wrap_i64]; rw [hW] at w2'; omega)); rw [hW] at w1' w2' w3' w4'; obtain ⟨A, hA⟩ : ∃ A, ky s s.size * W = A := ⟨_, rfl⟩; obtain ⟨B, hB⟩ : ∃ B, kx s s.size * W = B := ⟨_, rfl⟩; rw [hA] at w3'; rw [hB] at w4')
  unfold cA cB
  rw [hW, hA, hB]
  have hP1 := fun w => sPos_c' ((A : Int) / 2 - 4194304) ((B : Int) - 8388608) w
  have hP2 := fun w => sPos_c' (((A : Int) + W - 1) / 2 - 4194304) ((B : Int) + W - 1 - 8388608) w
  unfold posR at hP1 hP2
  rw [pos_in (by omega) (by omega) (by omega) (by omega)] at hP1 hP2
  generalize psF ((A : Int) / 2 - 4194304) = a1 at hP1 ⊢
  generalize psF ((B : Int) - 8388608) = a2 at hP1 ⊢
  generalize psF (((A : Int) + W - 1) / 2 - 4194304) = a3 at hP2 ⊢
  generalize psF ((B : Int) + W - 1 - 8388608) = a4 at hP2 ⊢
  have HP1 := Lib.hid hP1
  have HP2 := Lib.hid hP2
  have hR := l07Read_c s hz hkb
  unfold readV at hR
  have RS := Lib.hid hR
  clear hP1 hP2 hR hk hkb hW
  generalize ky s s.size = q at RS hA
  generalize kx s s.size = p at RS hB
  have hqW : (q : Int) * (W : Int) = (A : Int) := by rw [← hA]; push_cast; rfl
  have hpW : (p : Int) * (W : Int) = (B : Int) := by rw [← hB]; push_cast; rfl
  clear hA hB
  go_enter Tryd.func17, Tryd.ntmps17
  go_upto_region 5 with (first | (go_at_call 27; (with_reducible refine (HS.out _).mono ?_); rintro e wa ⟨⟨v, rfl, rfl⟩, hb_wa⟩; have hs_wa := hb_wa.size; (try simp at hs_wa)) | (go_at_call 29; (with_reducible refine (RS.out _).mono ?_); rintro e wb ⟨⟨v, rfl, rfl⟩, hb_wb⟩; have hs_wb := hb_wb.size; (try simp at hs_wb)))
  have tA : two wb w.heap.size 0 0 := (((two.new w 0 0).alloc _).below hb_wa).below hb_wb
  have tB : two wb (w.heap.size + 1) 0 0 := ((two.newAt (w := w.alloc (.cells #[.float .f32 0, .float .f32 0] 31)) (by simp)).below hb_wa).below hb_wb
  have hBb : Below w.heap.size w wb := by (with_reducible repeat (first | exact Below.refl _ _ | apply below_alloc | apply below_dN | apply below_d | refine below_setCell ?_ (by dsimp only; omega) | refine below_call (by assumption) ?_))
  have hsB := hBb.size
  have tAl := tA.lt
  have tBl := tB.lt
  go_upto_region 6 with (first | (go_at_call 35; (with_reducible refine (HP1.out _).mono ?_); rintro e wc ⟨⟨v, rfl, p, q, rfl, ⟨r1, r2, rfl, ⟨hu_wc, hv_wc⟩, wu_wc, wv_wc⟩, rfl⟩, hb_wc⟩; have hs_wc := hb_wc.size; (try simp at hs_wc)))
  have tC : two (wc.alloc (.cells #[.float .f32 r1, .float .f32 r2] 31)) wc.heap.size r1 r2 := two.new _ _ _
  have tA2 := (tA.below hb_wc).alloc (.cells #[.float .f32 r1, .float .f32 r2] 31)
  have tB2 := (tB.below hb_wc).alloc (.cells #[.float .f32 r1, .float .f32 r2] 31)
  go_wp2_with (first | (go_at_call 35; (with_reducible refine (HP2.out _).mono ?_); rintro e wd ⟨⟨v, rfl, p, q, rfl, ⟨r3, r4, rfl, ⟨hu_wd, hv_wd⟩, wu_wd, wv_wd⟩, rfl⟩, hb_wd⟩; have hs_wd := hb_wd.size; (try simp at hs_wd)))
  have tC2 := (tC.below hb_wd).alloc (.cells #[.float .f32 r3, .float .f32 r4] 31)
  have tA3 := (tA2.below hb_wd).alloc (.cells #[.float .f32 r3, .float .f32 r4] 31)
  have tB3 := (tB2.below hb_wd).alloc (.cells #[.float .f32 r3, .float .f32 r4] 31)
  have tD : two (wd.alloc (.cells #[.float .f32 r3, .float .f32 r4] 31)) wd.heap.size r3 r4 := two.new _ _ _
  have z0 := tA3.fr 0
  have z1 := tA3.fr 1
  have z2 := tB3.fr 0
  have z3 := tB3.fr 1
  have hle : Below w.heap.size w (wd.alloc (.cells #[.float .f32 r3, .float .f32 r4] 31)) := by (with_reducible repeat (first | exact Below.refl _ _ | apply below_alloc | apply below_dN | apply below_d | refine below_setCell ?_ (by dsimp only; omega) | refine below_call (by assumption) ?_))
  have c2 := tC2.lt
  have d2 := tD.lt
  have a2' := tA3.lt
  have b2' := tB3.lt
  have hcd : wc.heap.size < wd.heap.size := by have := tC.lt; omega
  have hac : w.heap.size + 1 < wc.heap.size := by omega
  have x0 := tA3.c0
  have x1 := tA3.c1
  have x2 := tB3.c0
  have x3 := tB3.c1
  have q1 : w.heap.size < wd.heap.size + 1 := by omega
  have q2 : w.heap.size + 1 < wd.heap.size + 1 := by omega
  have q3 : wc.heap.size < wd.heap.size + 1 := by omega
  have q4 : wd.heap.size < wd.heap.size + 1 := by omega
  go_region_held3 (fun w' => w'.cell? ⟨wc.heap.size, 0, none⟩ = some (.float .f32 r1) ∧ w'.cell? ⟨wc.heap.size, 1, none⟩ = some (.float .f32 r2) ∧ w'.cell? ⟨wd.heap.size, 0, none⟩ = some (.float .f32 r3) ∧ w'.cell? ⟨wd.heap.size, 1, none⟩ = some (.float .f32 r4)) (refine two.cells ?_ ?_ <;> (with_reducible repeat (first | assumption | apply two.drew | (refine two.newAt ?_; simp; done) | apply two.alloc | apply two.setA | apply two.setB | refine two.other ?_ (by omega) _))) (fail)
  go_wp2
  refine bodyPost_ret (v := .tuple #[.agg #[.float .f32 r1, .float .f32 r2], .agg #[.float .f32 r3, .float .f32 r4], .bool true]) (by simp [results, Tryd.results17, go_sem, *] <;> (first | rfl | exact ⟨rfl, rfl⟩ | exact ⟨rfl, rfl, rfl⟩ | exact ⟨rfl, rfl, rfl, rfl⟩)) rfl ?_
  exact ⟨⟨_, rfl, r1, r2, r3, r4, rfl, hu_wc, hv_wc, hu_wd, hv_wd⟩, by (with_reducible repeat (first | exact Below.refl _ _ | apply below_alloc | apply below_dN | apply below_d | refine below_setCell ?_ (by dsimp only; omega) | refine below_call (by assumption) ?_))⟩
set_option maxRecDepth 100000 in
set_option maxHeartbeats 2000000 in
theorem corner_c (u v : Int) (hu0 : 0 ≤ u) (hu1 : u ≤ 16777215) (hv0 : 0 ≤ v) (hv1 : v ≤ 16777215) (w : World) :
    Calls Tryd.prog 36 #[.int .i64 u, .int .i64 v] w (Ret (RP (RPc (psF (v / 2 - 4194304)) (psF (u - 8388608))) (RV (.bool true))) w) := by
  have hP1 := fun w => iPos_c' (v / 2 - 4194304) (u - 8388608) w
  unfold posR at hP1
  rw [pos_in (by omega) (by omega) (by omega) (by omega)] at hP1
  generalize psF (v / 2 - 4194304) = a1 at hP1 ⊢
  generalize psF (u - 8388608) = a2 at hP1 ⊢
  have HP1 := Lib.hid hP1
  clear hP1
  have tA := two.new w 0 0
  have hz1 := tA.lt
  go_enter Tryd.func36, Tryd.ntmps36
  go_upto_region 1 with fail
  have z0 := tA.fr 0
  have z1 := tA.fr 1
  go_wp2_with (first | ((go_at_call 37; (with_reducible refine (HP1.out _).mono ?_); rintro e wc ⟨⟨v, rfl, p, q, rfl, ⟨r1, r2, rfl, ⟨hu_wc, hv_wc⟩, wu_wc, wv_wc⟩, rfl⟩, hb_wc⟩; have hs_wc := hb_wc.size; (try simp at hs_wc)); have tC := tA.below hb_wc; have x0 := tC.c0; have x1 := tC.c1; have z0 := tC.fr 0; have z1 := tC.fr 1; have hz1 := tC.lt))
  refine bodyPost_ret (v := .tuple #[.agg #[.float .f32 r1, .float .f32 r2], .bool true]) (by simp [results, Tryd.results36, go_sem, *] <;> (first | rfl | exact ⟨rfl, rfl⟩ | exact ⟨rfl, rfl, rfl⟩ | exact ⟨rfl, rfl, rfl, rfl⟩)) rfl ?_
  exact ⟨⟨_, rfl, _, _, rfl, ⟨r1, r2, rfl, ⟨hu_wc, hv_wc⟩, wu_wc, wv_wc⟩, rfl⟩, by (with_reducible repeat (first | exact Below.refl _ _ | apply below_alloc | apply below_dN | apply below_d | refine below_setCell ?_ (by dsimp only; omega) | refine below_call (by assumption) ?_))⟩
set_option maxRecDepth 100000 in
set_option maxHeartbeats 4000000 in
theorem iKeyBox_c (s : ByteArray) (hs : s.size ≤ 1048576) (hk : keyOk s = true) (w : World) : Calls Tryd.prog 18 #[.string s] w (Ret (bxQ (psF (cA s / 2 - 4194304)) (psF (cB s - 8388608)) (psF ((cA s + kW s - 1) / 2 - 4194304)) (psF (cB s + kW s - 1 - 8388608)) true) w) := by
  have HS := Lib.hid (iIsKey_c s hs)
  rw [hk] at HS
  (have hk2 := hk; (simp only [keyOk, Bool.and_eq_true, decide_eq_true_eq] at hk2); obtain ⟨hkb, hz⟩ := hk2; obtain ⟨w1', w2', w3', w4'⟩ := kW_facts s hz hkb; obtain ⟨W, hW⟩ : ∃ W, kW s = W := ⟨_, rfl⟩; have hsh : IntKind.i64.wrap ((2 : Int) ^ (24 - s.size)) = (W : Int) := (by have e : ((2 : Int) ^ (24 - s.size)) = ((2 ^ (24 - s.size) : Nat) : Int) := (by simp); (rw [e, show 2 ^ (24 - s.size) = W from hW, IntKind.wrap_i64]; rw [hW] at w2'; omega)); rw [hW] at w1' w2' w3' w4'; obtain ⟨A, hA⟩ : ∃ A, ky s s.size * W = A := ⟨_, rfl⟩; obtain ⟨B, hB⟩ : ∃ B, kx s s.size * W = B := ⟨_, rfl⟩; rw [hA] at w3'; rw [hB] at w4')
  unfold cA cB
  rw [hW, hA, hB]
  have hP1 := fun w => corner_c (B : Int) (A : Int) (by omega) (by omega) (by omega) (by omega) w
  have hP2 := fun w => corner_c ((B : Int) + W - 1) ((A : Int) + W - 1) (by omega) (by omega) (by omega) (by omega) w
  generalize psF ((A : Int) / 2 - 4194304) = a1 at hP1 ⊢
  generalize psF ((B : Int) - 8388608) = a2 at hP1 ⊢
  generalize psF (((A : Int) + W - 1) / 2 - 4194304) = a3 at hP2 ⊢
  generalize psF ((B : Int) + W - 1 - 8388608) = a4 at hP2 ⊢
  have HP1 := Lib.hid hP1
  have HP2 := Lib.hid hP2
  have hR := keyTile_c s hz hkb
  unfold readV at hR
  have RS := Lib.hid hR
  clear hP1 hP2 hR hk hkb hW
  generalize ky s s.size = q at RS hA
  generalize kx s s.size = p at RS hB
  have hqW : (q : Int) * (W : Int) = (A : Int) := by rw [← hA]; push_cast; rfl
  have hpW : (p : Int) * (W : Int) = (B : Int) := by rw [← hB]; push_cast; rfl
  clear hA hB
  go_enter Tryd.func18, Tryd.ntmps18
  go_upto_region 7 with (first | (go_at_call 10; (with_reducible refine (HS.out _).mono ?_); rintro e wa ⟨⟨v, rfl, rfl⟩, hb_wa⟩; have hs_wa := hb_wa.size; (try simp at hs_wa)) | (go_at_call 30; (with_reducible refine (RS.out _).mono ?_); rintro e wb ⟨⟨v, rfl, rfl⟩, hb_wb⟩; have hs_wb := hb_wb.size; (try simp at hs_wb)))
  have tA : two wb w.heap.size 0 0 := (((two.new w 0 0).alloc _).below hb_wa).below hb_wb
  have tB : two wb (w.heap.size + 1) 0 0 := ((two.newAt (w := w.alloc (.cells #[.float .f32 0, .float .f32 0] 31)) (by simp)).below hb_wa).below hb_wb
  have hBb : Below w.heap.size w wb := by (with_reducible repeat (first | exact Below.refl _ _ | apply below_alloc | apply below_dN | apply below_d | refine below_setCell ?_ (by dsimp only; omega) | refine below_call (by assumption) ?_))
  have hsB := hBb.size
  have tAl := tA.lt
  have tBl := tB.lt
  go_upto_region 8 with (first | (go_at_call 36; (with_reducible refine (HP1.out _).mono ?_); rintro e wc ⟨⟨v, rfl, p, q, rfl, ⟨r1, r2, rfl, ⟨hu_wc, hv_wc⟩, wu_wc, wv_wc⟩, rfl⟩, hb_wc⟩; have hs_wc := hb_wc.size; (try simp at hs_wc)))
  have tC : two (wc.alloc (.cells #[.float .f32 r1, .float .f32 r2] 31)) wc.heap.size r1 r2 := two.new _ _ _
  have tA2 := (tA.below hb_wc).alloc (.cells #[.float .f32 r1, .float .f32 r2] 31)
  have tB2 := (tB.below hb_wc).alloc (.cells #[.float .f32 r1, .float .f32 r2] 31)
  go_wp2_with (first | (go_at_call 36; (with_reducible refine (HP2.out _).mono ?_); rintro e wd ⟨⟨v, rfl, p, q, rfl, ⟨r3, r4, rfl, ⟨hu_wd, hv_wd⟩, wu_wd, wv_wd⟩, rfl⟩, hb_wd⟩; have hs_wd := hb_wd.size; (try simp at hs_wd)))
  have tC2 := (tC.below hb_wd).alloc (.cells #[.float .f32 r3, .float .f32 r4] 31)
  have tA3 := (tA2.below hb_wd).alloc (.cells #[.float .f32 r3, .float .f32 r4] 31)
  have tB3 := (tB2.below hb_wd).alloc (.cells #[.float .f32 r3, .float .f32 r4] 31)
  have tD : two (wd.alloc (.cells #[.float .f32 r3, .float .f32 r4] 31)) wd.heap.size r3 r4 := two.new _ _ _
  have z0 := tA3.fr 0
  have z1 := tA3.fr 1
  have z2 := tB3.fr 0
  have z3 := tB3.fr 1
  have hle : Below w.heap.size w (wd.alloc (.cells #[.float .f32 r3, .float .f32 r4] 31)) := by (with_reducible repeat (first | exact Below.refl _ _ | apply below_alloc | apply below_dN | apply below_d | refine below_setCell ?_ (by dsimp only; omega) | refine below_call (by assumption) ?_))
  have c2 := tC2.lt
  have d2 := tD.lt
  have a2' := tA3.lt
  have b2' := tB3.lt
  have hcd : wc.heap.size < wd.heap.size := by have := tC.lt; omega
  have hac : w.heap.size + 1 < wc.heap.size := by omega
  have x0 := tA3.c0
  have x1 := tA3.c1
  have x2 := tB3.c0
  have x3 := tB3.c1
  have q1 : w.heap.size < wd.heap.size + 1 := by omega
  have q2 : w.heap.size + 1 < wd.heap.size + 1 := by omega
  have q3 : wc.heap.size < wd.heap.size + 1 := by omega
  have q4 : wd.heap.size < wd.heap.size + 1 := by omega
  go_region_held3 (fun w' => w'.cell? ⟨wc.heap.size, 0, none⟩ = some (.float .f32 r1) ∧ w'.cell? ⟨wc.heap.size, 1, none⟩ = some (.float .f32 r2) ∧ w'.cell? ⟨wd.heap.size, 0, none⟩ = some (.float .f32 r3) ∧ w'.cell? ⟨wd.heap.size, 1, none⟩ = some (.float .f32 r4)) (refine two.cells ?_ ?_ <;> (with_reducible repeat (first | assumption | apply two.drew | (refine two.newAt ?_; simp; done) | apply two.alloc | apply two.setA | apply two.setB | refine two.other ?_ (by omega) _))) (fail)
  go_wp2
  refine bodyPost_ret (v := .tuple #[.agg #[.float .f32 r1, .float .f32 r2], .agg #[.float .f32 r3, .float .f32 r4], .bool true]) (by simp [results, Tryd.results18, go_sem, *] <;> (first | rfl | exact ⟨rfl, rfl⟩ | exact ⟨rfl, rfl, rfl⟩ | exact ⟨rfl, rfl, rfl, rfl⟩)) rfl ?_
  exact ⟨⟨_, rfl, r1, r2, r3, r4, rfl, hu_wc, hv_wc, hu_wd, hv_wd⟩, by (with_reducible repeat (first | exact Below.refl _ _ | apply below_alloc | apply below_dN | apply below_d | refine below_setCell ?_ (by dsimp only; omega) | refine below_call (by assumption) ?_))⟩
theorem keyBox_both (s : ByteArray) (hs : s.size ≤ 1048576) (hk : keyOk s = true) : ∃ a b c d,
    (∀ w, Calls Tryd.prog 17 #[.string s] w (Ret (bxQ a b c d true) w)) ∧ (∀ w, Calls Tryd.prog 18 #[.string s] w (Ret (bxQ a b c d true) w)) :=
  ⟨_, _, _, _, sKeyBox_c s hs hk, iKeyBox_c s hs hk⟩
end Go.Proofs.YteecbhmgogndaaaDoor
