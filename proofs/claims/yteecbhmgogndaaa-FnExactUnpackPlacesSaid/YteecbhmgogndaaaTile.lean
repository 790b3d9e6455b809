/- Contracts of the tile of a place, and of KeyOf, in both spellings; its law. No condition. -/
import Derived.Test.YteecbhmgogndaaaTileKey
import Derived.Test.YteecbhmgogndaaaSteps
namespace Go.Proofs.Yteecbhmgogndaaa
open Go.RowKit
set_option linter.unusedSimpArgs false

theorem step_bnd {x : Nat} {A B : Int} (h : inn .f32 x (-1/2) (1/2)) (h1 : (A : Rat) ≤ fv .f32 x * 16777216) (h2 : fv .f32 x * 16777216 ≤ (B : Rat)) (jA : isf .f64 A) (jB : isf .f64 B) (iA : isf .f64 ((A : Rat) + 1/2)) (iB : isf .f64 ((B : Rat) + 1/2)) : A ≤ StepI x ∧ StepI x ≤ B := by
  obtain ⟨w1, w2⟩ := wide_num h.1
  have a := h.2.1
  have b := h.2.2
  have m := (mul_rd w1 num64_s).inn jA jB (by rw [v64_s, w2]; exact h1) (by rw [v64_s, w2]; exact h2)
  have m' := (mul_rd w1 num64_s).inn isf64_ns isf64_s (by rw [v64_s, w2]; grind) (by rw [v64_s, w2]; grind)
  have m1 := m.2.1
  have m2 := m.2.2
  have m3 := m'.2.1
  have m4 := m'.2.2
  have t := (add_rd m.1 num64_h).inn iA iB (by rw [v64_h]; grind) (by rw [v64_h]; grind)
  have t' := (add_rd m.1 num64_h).inn isf64_nt isf64_t (by rw [v64_h]; grind) (by rw [v64_h]; grind)
  have t1 := t.2.1
  have t2 := t.2.2
  have t3 := t'.2.1
  have t4 := t'.2.2
  obtain ⟨f1, n, f2, f3, f4⟩ := floor_val t.1 (by grind) (by grind)
  obtain ⟨s, M, hM, -, -, e1, e, e2, e3⟩ := trunc_val f1 (by rw [f2]; grind) (by rw [f2]; grind)
  have hS : StepI x = if s then -(M : Int) else M := by unfold StepI StepT; rw [e]; rfl
  rw [f2] at e2 e3
  have hn : StepI x = n := by
    rw [hS]
    cases s
    · simp only [Bool.false_eq_true, if_false] at e2 e3 ⊢
      have g1 : ((-1 : Int) : Rat) < ((n - (M : Int) : Int) : Rat) := by rw [Rat.intCast_sub, Rat.intCast_natCast]; exact e2
      have g2 : ((n - (M : Int) : Int) : Rat) < 1 := by rw [Rat.intCast_sub, Rat.intCast_natCast]; exact e3
      have g3 : -1 < n - (M : Int) := by exact_mod_cast g1
      have g4 : n - (M : Int) < 1 := by exact_mod_cast g2
      omega
    · simp only [if_true] at e2 e3 ⊢
      have g1 : ((-1 : Int) : Rat) < ((n + (M : Int) : Int) : Rat) := by rw [Rat.intCast_add, Rat.intCast_natCast]; show (-1 : Rat) < _; grind
      have g2 : ((n + (M : Int) : Int) : Rat) < 1 := by rw [Rat.intCast_add, Rat.intCast_natCast]; grind
      have g3 : -1 < n + (M : Int) := by exact_mod_cast g1
      have g4 : n + (M : Int) < 1 := by exact_mod_cast g2
      omega
  rw [hn]
  constructor
  · have h5 : (A : Rat) < ((n + 1 : Int) : Rat) := by rw [Rat.intCast_add]; show (A : Rat) < (n : Rat) + 1; grind
    have : A < n + 1 := by exact_mod_cast h5
    omega
  · have h5 : (n : Rat) < ((B + 1 : Int) : Rat) := by rw [Rat.intCast_add]; show (n : Rat) < (B : Rat) + 1; grind
    have : n < B + 1 := by exact_mod_cast h5
    omega
theorem step_q {x : Nat} (h : inn .f32 x (-1/4) (1/4)) : -4194304 ≤ StepI x ∧ StepI x ≤ 4194304 := by
  have a := h.2.1
  have b := h.2.2
  exact step_bnd (h.mono (by decide +kernel) (by decide +kernel)) (by show (-4194304 : Rat) ≤ _; grind) (by show _ ≤ (4194304 : Rat); grind) (isf_of 13929633647456944128 (by decide +kernel)) (isf_of 4706261610602168320 (by decide +kernel)) (isf_of 13929633646383202304 (by decide +kernel)) (isf_of 4706261611139039232 (by decide +kernel))
theorem step_h {x : Nat} (h : inn .f32 x (-1/2) (1/2)) : -8388608 ≤ StepI x ∧ StepI x ≤ 8388608 := by
  have a := h.2.1
  have b := h.2.2
  exact step_bnd h (by show (-8388608 : Rat) ≤ _; grind) (by show _ ≤ (8388608 : Rat); grind) (isf_of 13934137247084314624 (by decide +kernel)) (isf_of 4710765210229538816 (by decide +kernel)) (isf_of 13934137246547443712 (by decide +kernel)) (isf_of 4710765210497974272 (by decide +kernel))

/-- The two numbers of a place, of 24 binary digits each. -/
def tu (Y : Nat) : Nat := (StepE Y + 8388608).toNat
def tv (X : Nat) : Nat := (if 16777215 < 2 * StepI X + 8388608 then 16777215 else 2 * StepI X + 8388608).toNat
theorem tu_ok {X Y : Nat} (h : vplace X Y = true) : StepE Y + 8388608 = (tu Y : Int) ∧ tu Y < 16777216 ∧ -8388608 ≤ StepE Y ∧ StepE Y ≤ 8388607 := by
  have hb := step_h (vplace_num h).2
  have : -8388608 ≤ StepE Y ∧ StepE Y ≤ 8388607 := by unfold StepE; split <;> omega
  unfold tu
  omega
theorem tv_ok {X Y : Nat} (h : vplace X Y = true) : (if 16777215 < 2 * StepI X + 8388608 then 16777215 else 2 * StepI X + 8388608) = (tv X : Int) ∧ tv X < 16777216 ∧ -4194304 ≤ StepI X ∧ StepI X ≤ 4194304 := by
  have hb := step_q (vplace_num h).1
  unfold tv
  split <;> omega

def tileV (X Y z : Nat) : Value := .tuple #[.int .i64 ((tu Y / 2 ^ (24 - z) : Nat) : Int), .int .i64 ((tv X / 2 ^ (24 - z) : Nat) : Int)]
def stepsOkV (X Y : Nat) : Value := .tuple #[.int .i64 (StepI X), .int .i64 (StepE Y), .bool true]
theorem iStepsOk_c (x y X Y : Nat) (hx : cn .f32 x = X) (hy : cn .f32 y = Y) (hv : vplace X Y = true) (w : World) : Calls Try.prog 54 #[.agg #[.float .f32 x, .float .f32 y]] w (Ret (RV (.tuple #[.int .i64 (StepI X), .int .i64 (StepE Y), .bool true])) w) := by
  have := iSteps_c x y X Y hx hy w
  unfold stepsRes at this
  rw [hv] at this
  exact this
theorem sStepsOk_c (x y X Y : Nat) (hx : cn .f32 x = X) (hy : cn .f32 y = Y) (hv : vplace X Y = true) (w : World) : Calls Try.prog 58 #[.agg #[.float .f32 x, .float .f32 y]] w (Ret (RV (.tuple #[.int .i64 (StepI X), .int .i64 (StepE Y), .bool true])) w) := by
  have := sSteps_c x y X Y hx hy w
  unfold stepsRes at this
  rw [hv] at this
  exact this

set_option maxRecDepth 100000 in
set_option maxHeartbeats 1000000 in
theorem tileOf_c (x y X Y z : Nat) (hz : z ≤ 24) (hx : cn .f32 x = X) (hy : cn .f32 y = Y) (hv : vplace X Y = true) (w : World) : Calls Try.prog 39 #[.agg #[.float .f32 x, .float .f32 y], .int .i64 z] w (Ret (RV (tileV X Y z)) w) := by
  obtain ⟨u1, u2, u3, u4⟩ := tu_ok hv
  obtain ⟨v1, v2, v3, v4⟩ := tv_ok hv
  have HS := Lib.hid (iStepsOk_c x y X Y hx hy hv)
  unfold tileV
  obtain ⟨U, hU⟩ : ∃ U, tu Y = U := ⟨_, rfl⟩
  obtain ⟨V, hV⟩ : ∃ V, tv X = V := ⟨_, rfl⟩
  obtain ⟨N, hN⟩ : ∃ N, StepI X = N := ⟨_, rfl⟩
  obtain ⟨E, hE⟩ : ∃ E, StepE Y = E := ⟨_, rfl⟩
  obtain ⟨s, hs⟩ : ∃ s, 24 - z = s := ⟨_, rfl⟩
  rw [hN] at v1 v3 v4
  rw [hV] at v1 v2
  rw [hE] at u1 u3 u4
  rw [hU] at u1 u2
  rw [hN, hE] at HS
  rw [hU, hV, hs]
  have e1 : IntKind.i64.wrap (E + 8388608) = (U : Int) := by rw [IntKind.wrap_i64]; omega
  have e2 : IntKind.i64.wrap (24 - (z : Int)) = (s : Int) := by rw [IntKind.wrap_i64]; omega
  have e3 : IntKind.i64.wrap (2 * N) = 2 * N := by rw [IntKind.wrap_i64]; omega
  have e4 : IntKind.i64.wrap (2 * N + 8388608) = 2 * N + 8388608 := by rw [IntKind.wrap_i64]; omega
  have hs0 : (0 : Int) ≤ s := by omega
  have hs1 : (s : Int) ≤ 64 := by omega
  have hs2 : s ≤ 64 := by omega
  have V1 := Lib.hid v1
  have hUV : ∀ a : Nat, (a : Int) / 2 ^ s = ((a / 2 ^ s : Nat) : Int) := fun a => by simp
  have HUV := Lib.hid hUV
  clear u1 v1 hU hV hN hE hs hUV
  by_cases c : 16777215 < 2 * N + 8388608
  · have hVV : (V : Int) = 16777215 := by have := V1.out; rw [if_pos c] at this; omega
    have HVV := Lib.hid hVV
    clear hVV
    go_enter Try.func39, Try.ntmps39
    go_wp2_with (go_at_call 54; ((with_reducible refine (HS.out _).mono ?_); rintro e w1 ⟨⟨v, rfl, rfl⟩, hb⟩); have hu2 : ∀ n : Nat, n < n + 1 + 1 := (fun n => by omega); have hu3 : ∀ n : Nat, n < n + 1 + 1 + 1 := (fun n => by omega); obtain ⟨hc, hfz⟩ := bcell hb; (try simp only [World.heap_drewN] at hc hfz); have hs_ := hb.size; (try simp at hs_); (try have hz0 : w.heap.size < w1.heap.size := (by omega)); (try have hz1 : w.heap.size + 1 < w1.heap.size := (by omega)); (try have hz2 : w.heap.size + 2 < w1.heap.size := (by omega)); (try have hz3 : w.heap.size + 3 < w1.heap.size := (by omega)); (try have hza : wa.heap.size < w1.heap.size := (by omega)); (try have hza1 : wa.heap.size + 1 < w1.heap.size := (by omega)); (try have hzb : wb.heap.size < w1.heap.size := (by omega)); (try have hzb1 : wb.heap.size + 1 < w1.heap.size := (by omega)); (try have hzc : wc.heap.size < w1.heap.size := (by omega)); (try have hzd : wd.heap.size < w1.heap.size := (by omega)))
    (apply region_looseK (k := 14); (kernel_rfl); (kernel_rfl); intro opsL KL hopsL hKL; (dsimp only [List.take]))
    repeat (apply rel_val; (rfl); (intro wq hbq; have hcq := (bcell hbq).1; (go_simp; first | done | rfl | exact ⟨rfl, rfl⟩)); (try go_simp))
    (refine wpRel_nil ?_; refine hKL _ _ ?_; clear hKL hopsL opsL KL; intro w1 hb hnews; obtain ⟨hc, hfz⟩ := bcell hb; (try simp only [World.heap_drewN] at hc hfz); have hz := hb.size; (dsimp only [List.drop]))
    go_wp2
    go_ret2
    exact ⟨⟨_, rfl, by first | (rw [HVV.out]; rfl) | (rw [← HUV.out, ← HUV.out, HVV.out]; rfl)⟩, by (with_reducible repeat (first | exact Below.refl _ _ | apply below_alloc | apply below_dN | apply below_d | refine below_setCell ?_ (by dsimp only; omega) | refine below_call (by assumption) ?_))⟩
  · have hVV : (V : Int) = 2 * N + 8388608 := by have := V1.out; rw [if_neg c] at this; omega
    have HVV := Lib.hid hVV
    clear hVV
    go_enter Try.func39, Try.ntmps39
    go_wp2_with (go_at_call 54; ((with_reducible refine (HS.out _).mono ?_); rintro e w1 ⟨⟨v, rfl, rfl⟩, hb⟩); have hu2 : ∀ n : Nat, n < n + 1 + 1 := (fun n => by omega); have hu3 : ∀ n : Nat, n < n + 1 + 1 + 1 := (fun n => by omega); obtain ⟨hc, hfz⟩ := bcell hb; (try simp only [World.heap_drewN] at hc hfz); have hs_ := hb.size; (try simp at hs_); (try have hz0 : w.heap.size < w1.heap.size := (by omega)); (try have hz1 : w.heap.size + 1 < w1.heap.size := (by omega)); (try have hz2 : w.heap.size + 2 < w1.heap.size := (by omega)); (try have hz3 : w.heap.size + 3 < w1.heap.size := (by omega)); (try have hza : wa.heap.size < w1.heap.size := (by omega)); (try have hza1 : wa.heap.size + 1 < w1.heap.size := (by omega)); (try have hzb : wb.heap.size < w1.heap.size := (by omega)); (try have hzb1 : wb.heap.size + 1 < w1.heap.size := (by omega)); (try have hzc : wc.heap.size < w1.heap.size := (by omega)); (try have hzd : wd.heap.size < w1.heap.size := (by omega)))
    (apply region_looseK (k := 14); (kernel_rfl); (kernel_rfl); intro opsL KL hopsL hKL; (dsimp only [List.take]))
    repeat (apply rel_val; (rfl); (intro wq hbq; have hcq := (bcell hbq).1; (go_simp; first | done | rfl | exact ⟨rfl, rfl⟩)); (try go_simp))
    (refine wpRel_nil ?_; refine hKL _ _ ?_; clear hKL hopsL opsL KL; intro w1 hb hnews; obtain ⟨hc, hfz⟩ := bcell hb; (try simp only [World.heap_drewN] at hc hfz); have hz := hb.size; (dsimp only [List.drop]))
    go_wp2
    go_ret2
    exact ⟨⟨_, rfl, by first | (rw [HVV.out]; rfl) | (rw [← HUV.out, ← HUV.out, HVV.out]; rfl)⟩, by (with_reducible repeat (first | exact Below.refl _ _ | apply below_alloc | apply below_dN | apply below_d | refine below_setCell ?_ (by dsimp only; omega) | refine below_call (by assumption) ?_))⟩

def twoV (X Y : Nat) : Value := .tuple #[.int .i64 (tu Y : Int), .int .i64 (tv X : Int)]
set_option maxRecDepth 100000 in
set_option maxHeartbeats 1000000 in
theorem l07Two_c (x y X Y : Nat) (hx : cn .f32 x = X) (hy : cn .f32 y = Y) (hv : vplace X Y = true) (w : World) : Calls Try.prog 52 #[.agg #[.float .f32 x, .float .f32 y]] w (Ret (RV (.tuple #[.int .i64 (tu Y : Int), .int .i64 (tv X : Int)])) w) := by
  obtain ⟨u1, u2, u3, u4⟩ := tu_ok hv
  obtain ⟨v1, v2, v3, v4⟩ := tv_ok hv
  have HS := Lib.hid (sStepsOk_c x y X Y hx hy hv)
  obtain ⟨U, hU⟩ : ∃ U, tu Y = U := ⟨_, rfl⟩
  obtain ⟨V, hV⟩ : ∃ V, tv X = V := ⟨_, rfl⟩
  obtain ⟨N, hN⟩ : ∃ N, StepI X = N := ⟨_, rfl⟩
  obtain ⟨E, hE⟩ : ∃ E, StepE Y = E := ⟨_, rfl⟩
  rw [hN] at v1 v3 v4
  rw [hV] at v1 v2
  rw [hE] at u1 u3 u4
  rw [hU] at u1 u2
  rw [hN, hE] at HS
  rw [hU, hV]
  have V1 := Lib.hid v1
  have U1 := Lib.hid u1
  clear u1 v1 hU hV hN hE
  by_cases c : 16777215 < 2 * N + 8388608
  · have HVV := Lib.hid (show (V : Int) = 16777215 by have := V1.out; rw [if_pos c] at this; omega)
    go_enter Try.func52, Try.ntmps52
    go_wp2_with (go_at_call 58; ((with_reducible refine (HS.out _).mono ?_); rintro e w1 ⟨⟨v, rfl, rfl⟩, hb⟩); have hu2 : ∀ n : Nat, n < n + 1 + 1 := (fun n => by omega); have hu3 : ∀ n : Nat, n < n + 1 + 1 + 1 := (fun n => by omega); obtain ⟨hc, hfz⟩ := bcell hb; (try simp only [World.heap_drewN] at hc hfz); have hs_ := hb.size; (try simp at hs_); (try have hz0 : w.heap.size < w1.heap.size := (by omega)); (try have hz1 : w.heap.size + 1 < w1.heap.size := (by omega)); (try have hz2 : w.heap.size + 2 < w1.heap.size := (by omega)); (try have hz3 : w.heap.size + 3 < w1.heap.size := (by omega)); (try have hza : wa.heap.size < w1.heap.size := (by omega)); (try have hza1 : wa.heap.size + 1 < w1.heap.size := (by omega)); (try have hzb : wb.heap.size < w1.heap.size := (by omega)); (try have hzb1 : wb.heap.size + 1 < w1.heap.size := (by omega)); (try have hzc : wc.heap.size < w1.heap.size := (by omega)); (try have hzd : wd.heap.size < w1.heap.size := (by omega)))
    go_ret2
    exact ⟨⟨_, rfl, by rw [HVV.out, ← U1.out]; rfl⟩, by (with_reducible repeat (first | exact Below.refl _ _ | apply below_alloc | apply below_dN | apply below_d | refine below_setCell ?_ (by dsimp only; omega) | refine below_call (by assumption) ?_))⟩
  · have HVV := Lib.hid (show (V : Int) = 2 * N + 8388608 by have := V1.out; rw [if_neg c] at this; omega)
    go_enter Try.func52, Try.ntmps52
    go_wp2_with (go_at_call 58; ((with_reducible refine (HS.out _).mono ?_); rintro e w1 ⟨⟨v, rfl, rfl⟩, hb⟩); have hu2 : ∀ n : Nat, n < n + 1 + 1 := (fun n => by omega); have hu3 : ∀ n : Nat, n < n + 1 + 1 + 1 := (fun n => by omega); obtain ⟨hc, hfz⟩ := bcell hb; (try simp only [World.heap_drewN] at hc hfz); have hs_ := hb.size; (try simp at hs_); (try have hz0 : w.heap.size < w1.heap.size := (by omega)); (try have hz1 : w.heap.size + 1 < w1.heap.size := (by omega)); (try have hz2 : w.heap.size + 2 < w1.heap.size := (by omega)); (try have hz3 : w.heap.size + 3 < w1.heap.size := (by omega)); (try have hza : wa.heap.size < w1.heap.size := (by omega)); (try have hza1 : wa.heap.size + 1 < w1.heap.size := (by omega)); (try have hzb : wb.heap.size < w1.heap.size := (by omega)); (try have hzb1 : wb.heap.size + 1 < w1.heap.size := (by omega)); (try have hzc : wc.heap.size < w1.heap.size := (by omega)); (try have hzd : wd.heap.size < w1.heap.size := (by omega)))
    go_ret2
    exact ⟨⟨_, rfl, by rw [HVV.out, ← U1.out]; rfl⟩, by (with_reducible repeat (first | exact Below.refl _ _ | apply below_alloc | apply below_dN | apply below_d | refine below_setCell ?_ (by dsimp only; omega) | refine below_call (by assumption) ?_))⟩

set_option maxRecDepth 100000 in
set_option maxHeartbeats 1000000 in
theorem l07Tile_c (x y X Y z : Nat) (hz : z ≤ 24) (hx : cn .f32 x = X) (hy : cn .f32 y = Y) (hv : vplace X Y = true) (w : World) : Calls Try.prog 37 #[.agg #[.float .f32 x, .float .f32 y], .int .i64 z] w (Ret (RV (tileV X Y z)) w) := by
  have HS := Lib.hid (l07Two_c x y X Y hx hy hv)
  obtain ⟨-, u2, -, -⟩ := tu_ok hv
  obtain ⟨-, v2, -, -⟩ := tv_ok hv
  unfold tileV
  obtain ⟨U, hU⟩ : ∃ U, tu Y = U := ⟨_, rfl⟩
  obtain ⟨V, hV⟩ : ∃ V, tv X = V := ⟨_, rfl⟩
  rw [hU] at u2
  rw [hV] at v2
  rw [hU, hV] at HS
  rw [hU, hV]
  clear hU hV
  go_enter Try.func37, Try.ntmps37
  go_wp2_with (go_at_call 52; ((with_reducible refine (HS.out _).mono ?_); rintro e w1 ⟨⟨v, rfl, rfl⟩, hb⟩); have hu2 : ∀ n : Nat, n < n + 1 + 1 := (fun n => by omega); have hu3 : ∀ n : Nat, n < n + 1 + 1 + 1 := (fun n => by omega); obtain ⟨hc, hfz⟩ := bcell hb; (try simp only [World.heap_drewN] at hc hfz); have hs_ := hb.size; (try simp at hs_); (try have hz0 : w.heap.size < w1.heap.size := (by omega)); (try have hz1 : w.heap.size + 1 < w1.heap.size := (by omega)); (try have hz2 : w.heap.size + 2 < w1.heap.size := (by omega)); (try have hz3 : w.heap.size + 3 < w1.heap.size := (by omega)); (try have hza : wa.heap.size < w1.heap.size := (by omega)); (try have hza1 : wa.heap.size + 1 < w1.heap.size := (by omega)); (try have hzb : wb.heap.size < w1.heap.size := (by omega)); (try have hzb1 : wb.heap.size + 1 < w1.heap.size := (by omega)); (try have hzc : wc.heap.size < w1.heap.size := (by omega)); (try have hzd : wd.heap.size < w1.heap.size := (by omega)))
  go_loopw [6, 7, 8] (fun a b k wr => ∃ m : Nat, z + m ≤ 24 ∧ k = .int .i64 ((z + m : Nat) : Int) ∧ a = .int .i64 ((U / 2 ^ m : Nat) : Int) ∧ b = .int .i64 ((V / 2 ^ m : Nat) : Int) ∧ Below w.heap.size w wr) (fun _ _ k _ => 24 - (intOf k).toNat)
  case atStart => exact ⟨0, by omega, by simp, by simp, by simp, by (with_reducible repeat (first | exact Below.refl _ _ | apply below_alloc | apply below_dN | apply below_d | refine below_setCell ?_ (by dsimp only; omega) | refine below_call (by assumption) ?_))⟩
  case round =>
    obtain ⟨m, hm, rfl, ha, hb, hB⟩ := hrel
    obtain ⟨A, hA⟩ : ∃ A, U / 2 ^ m = A := ⟨_, rfl⟩
    obtain ⟨B, hBB⟩ : ∃ B, V / 2 ^ m = B := ⟨_, rfl⟩
    have hA1 : A < 16777216 := hA ▸ Nat.lt_of_le_of_lt (Nat.div_le_self _ _) u2
    have hB1 : B < 16777216 := hBB ▸ Nat.lt_of_le_of_lt (Nat.div_le_self _ _) v2
    rw [hA] at ha
    rw [hBB] at hb
    subst ha hb
    have HA := Lib.hid hA
    have HB := Lib.hid hBB
    have hA2 : (0 : Int) ≤ A := by omega
    have hB2 : (0 : Int) ≤ B := by omega
    clear hA hBB
    obtain ⟨k, hk⟩ : ∃ k, k = z + m := ⟨_, rfl⟩
    rw [← hk]
    rw [← hk] at hm
    have HK := Lib.hid hk
    clear hk
    by_cases hlt : k < 24
    · go_wp2
      go_roundw
      case rel => exact ⟨m + 1, by have := HK.out; omega, by have := HK.out; congr 1; omega, by rw [Nat.pow_succ, ← Nat.div_div_eq_div_mul, HA.out]; simp, by rw [Nat.pow_succ, ← Nat.div_div_eq_div_mul, HB.out]; simp, by (with_reducible repeat (first | exact Below.refl _ _ | apply below_alloc | apply below_dN | apply below_d | refine below_setCell ?_ (by dsimp only; omega) | refine below_call (by assumption) ?_))⟩
      case measure => first | (simp [intOf]; done) | (simp [intOf]; omega)
    · obtain rfl : k = 24 := by omega
      go_wp2
      go_ret2
      exact ⟨⟨_, rfl, by have := HK.out; rw [show 24 - z = m by omega, HA.out, HB.out]; rfl⟩, by (with_reducible repeat (first | exact Below.refl _ _ | apply below_alloc | apply below_dN | apply below_d | refine below_setCell ?_ (by dsimp only; omega) | refine below_call (by assumption) ?_))⟩

/-! KeyOf. -/
def kofV (X Y : Nat) (z : Int) : Value := if vplace X Y && zoomOk z then .tuple #[.string (keyS z.toNat (tu Y / 2 ^ (24 - z.toNat)) (tv X / 2 ^ (24 - z.toNat))), .bool true] else .tuple #[.string ⟨#[]⟩, .bool false]
theorem zoom_nat {z : Int} (h : zoomOk z = true) : ∃ m : Nat, z = m ∧ m ≤ 20 := by
  simp only [zoomOk, Bool.and_eq_true, decide_eq_true_eq] at h
  exact ⟨z.toNat, by omega, by omega⟩

set_option maxRecDepth 100000 in
set_option maxHeartbeats 2000000 in
theorem iKeyOf_c (x y X Y : Nat) (z : Int) (hx : cn .f32 x = X) (hy : cn .f32 y = Y) (w : World) : Calls Try.prog 13 #[.agg #[.float .f32 x, .float .f32 y], .int .i64 z] w (Ret (RV (kofV X Y z)) w) := by
  cases v1 : vplace X Y
  · have HV := Lib.hid (show kofV X Y z = .tuple #[.string ⟨#[]⟩, .bool false] by unfold kofV; rw [v1]; rfl)
    go_enter Try.func13, Try.ntmps13
    go_wp2_with (first | (go_at_call 38; ((with_reducible refine (iValidPlace_c _ _ _ _ hx hy _).mono ?_); rintro e w1 ⟨⟨v, rfl, rfl⟩, hb⟩); have hu2 : ∀ n : Nat, n < n + 1 + 1 := (fun n => by omega); have hu3 : ∀ n : Nat, n < n + 1 + 1 + 1 := (fun n => by omega); obtain ⟨hc, hfz⟩ := bcell hb; (try simp only [World.heap_drewN] at hc hfz); have hs_ := hb.size; (try simp at hs_); (try have hz0 : w.heap.size < w1.heap.size := (by omega)); (try have hz1 : w.heap.size + 1 < w1.heap.size := (by omega)); (try have hz2 : w.heap.size + 2 < w1.heap.size := (by omega)); (try have hz3 : w.heap.size + 3 < w1.heap.size := (by omega)); (try have hza : wa.heap.size < w1.heap.size := (by omega)); (try have hza1 : wa.heap.size + 1 < w1.heap.size := (by omega)); (try have hzb : wb.heap.size < w1.heap.size := (by omega)); (try have hzb1 : wb.heap.size + 1 < w1.heap.size := (by omega)); (try have hzc : wc.heap.size < w1.heap.size := (by omega)); (try have hzd : wd.heap.size < w1.heap.size := (by omega))))
    go_ret2
    exact ⟨⟨_, rfl, by rw [HV.out]; rfl⟩, by (with_reducible repeat (first | exact Below.refl _ _ | apply below_alloc | apply below_dN | apply below_d | refine below_setCell ?_ (by dsimp only; omega) | refine below_call (by assumption) ?_))⟩
  · cases v2 : zoomOk z
    · have HV := Lib.hid (show kofV X Y z = .tuple #[.string ⟨#[]⟩, .bool false] by unfold kofV; rw [v1, v2]; rfl)
      go_enter Try.func13, Try.ntmps13
      go_wp2_with (first | (go_at_call 38; ((with_reducible refine (iValidPlace_c _ _ _ _ hx hy _).mono ?_); rintro e w1 ⟨⟨v, rfl, rfl⟩, hb⟩); have hu2 : ∀ n : Nat, n < n + 1 + 1 := (fun n => by omega); have hu3 : ∀ n : Nat, n < n + 1 + 1 + 1 := (fun n => by omega); obtain ⟨hc, hfz⟩ := bcell hb; (try simp only [World.heap_drewN] at hc hfz); have hs_ := hb.size; (try simp at hs_); (try have hz0 : w.heap.size < w1.heap.size := (by omega)); (try have hz1 : w.heap.size + 1 < w1.heap.size := (by omega)); (try have hz2 : w.heap.size + 2 < w1.heap.size := (by omega)); (try have hz3 : w.heap.size + 3 < w1.heap.size := (by omega)); (try have hza : wa.heap.size < w1.heap.size := (by omega)); (try have hza1 : wa.heap.size + 1 < w1.heap.size := (by omega)); (try have hzb : wb.heap.size < w1.heap.size := (by omega)); (try have hzb1 : wb.heap.size + 1 < w1.heap.size := (by omega)); (try have hzc : wc.heap.size < w1.heap.size := (by omega)); (try have hzd : wd.heap.size < w1.heap.size := (by omega))) | (go_at_call 33; refine (isZoom_c _ _).mono ?_; rintro e w' ⟨rfl, rfl⟩))
      go_ret2
      exact ⟨⟨_, rfl, by rw [HV.out]; rfl⟩, by (with_reducible repeat (first | exact Below.refl _ _ | apply below_alloc | apply below_dN | apply below_d | refine below_setCell ?_ (by dsimp only; omega) | refine below_call (by assumption) ?_))⟩
    · obtain ⟨m, rfl, hm⟩ := zoom_nat v2
      have HV := Lib.hid (show kofV X Y m = .tuple #[.string (keyS m (tu Y / 2 ^ (24 - m)) (tv X / 2 ^ (24 - m))), .bool true] by unfold kofV; rw [v1, v2, Int.toNat_natCast]; rfl)
      have hA : tu Y / 2 ^ (24 - m) < 9223372036854775808 := Nat.lt_of_le_of_lt (Nat.div_le_self _ _) (by have := (tu_ok v1).2.1; omega)
      have hB : tv X / 2 ^ (24 - m) < 9223372036854775808 := Nat.lt_of_le_of_lt (Nat.div_le_self _ _) (by have := (tv_ok v1).2.1; omega)
      have HT := Lib.hid (tileOf_c x y X Y m (by omega) hx hy v1)
      unfold tileV at HT
      obtain ⟨A, hA'⟩ : ∃ A, tu Y / 2 ^ (24 - m) = A := ⟨_, rfl⟩
      obtain ⟨B, hB'⟩ : ∃ B, tv X / 2 ^ (24 - m) = B := ⟨_, rfl⟩
      rw [hA'] at HT hA HV
      rw [hB'] at HT hB HV
      clear hA' hB'
      go_enter Try.func13, Try.ntmps13
      go_wp2_with (first | (go_at_call 38; ((with_reducible refine (iValidPlace_c _ _ _ _ hx hy _).mono ?_); rintro e w1 ⟨⟨v, rfl, rfl⟩, hb⟩); have hu2 : ∀ n : Nat, n < n + 1 + 1 := (fun n => by omega); have hu3 : ∀ n : Nat, n < n + 1 + 1 + 1 := (fun n => by omega); obtain ⟨hc, hfz⟩ := bcell hb; (try simp only [World.heap_drewN] at hc hfz); have hs_ := hb.size; (try simp at hs_); (try have hz0 : w.heap.size < w1.heap.size := (by omega)); (try have hz1 : w.heap.size + 1 < w1.heap.size := (by omega)); (try have hz2 : w.heap.size + 2 < w1.heap.size := (by omega)); (try have hz3 : w.heap.size + 3 < w1.heap.size := (by omega)); (try have hza : wa.heap.size < w1.heap.size := (by omega)); (try have hza1 : wa.heap.size + 1 < w1.heap.size := (by omega)); (try have hzb : wb.heap.size < w1.heap.size := (by omega)); (try have hzb1 : wb.heap.size + 1 < w1.heap.size := (by omega)); (try have hzc : wc.heap.size < w1.heap.size := (by omega)); (try have hzd : wd.heap.size < w1.heap.size := (by omega))) | (go_at_call 33; refine (isZoom_c _ _).mono ?_; rintro e w' ⟨rfl, rfl⟩) | (go_at_call 39; ((with_reducible refine (HT.out _).mono ?_); rintro e w1 ⟨⟨v, rfl, rfl⟩, hb⟩); have hu2 : ∀ n : Nat, n < n + 1 + 1 := (fun n => by omega); have hu3 : ∀ n : Nat, n < n + 1 + 1 + 1 := (fun n => by omega); obtain ⟨hc, hfz⟩ := bcell hb; (try simp only [World.heap_drewN] at hc hfz); have hs_ := hb.size; (try simp at hs_); (try have hz0 : w.heap.size < w1.heap.size := (by omega)); (try have hz1 : w.heap.size + 1 < w1.heap.size := (by omega)); (try have hz2 : w.heap.size + 2 < w1.heap.size := (by omega)); (try have hz3 : w.heap.size + 3 < w1.heap.size := (by omega)); (try have hza : wa.heap.size < w1.heap.size := (by omega)); (try have hza1 : wa.heap.size + 1 < w1.heap.size := (by omega)); (try have hzb : wb.heap.size < w1.heap.size := (by omega)); (try have hzb1 : wb.heap.size + 1 < w1.heap.size := (by omega)); (try have hzc : wc.heap.size < w1.heap.size := (by omega)); (try have hzd : wd.heap.size < w1.heap.size := (by omega))) | (go_at_call 35; ((with_reducible refine (iKey_c _ _ _ hm hA hB _).mono ?_); rintro e w1 ⟨⟨v, rfl, rfl⟩, hb⟩); have hu2 : ∀ n : Nat, n < n + 1 + 1 := (fun n => by omega); have hu3 : ∀ n : Nat, n < n + 1 + 1 + 1 := (fun n => by omega); obtain ⟨hc, hfz⟩ := bcell hb; (try simp only [World.heap_drewN] at hc hfz); have hs_ := hb.size; (try simp at hs_); (try have hz0 : w.heap.size < w1.heap.size := (by omega)); (try have hz1 : w.heap.size + 1 < w1.heap.size := (by omega)); (try have hz2 : w.heap.size + 2 < w1.heap.size := (by omega)); (try have hz3 : w.heap.size + 3 < w1.heap.size := (by omega)); (try have hza : wa.heap.size < w1.heap.size := (by omega)); (try have hza1 : wa.heap.size + 1 < w1.heap.size := (by omega)); (try have hzb : wb.heap.size < w1.heap.size := (by omega)); (try have hzb1 : wb.heap.size + 1 < w1.heap.size := (by omega)); (try have hzc : wc.heap.size < w1.heap.size := (by omega)); (try have hzd : wd.heap.size < w1.heap.size := (by omega))))
      go_ret2
      exact ⟨⟨_, rfl, by rw [HV.out]; rfl⟩, by (with_reducible repeat (first | exact Below.refl _ _ | apply below_alloc | apply below_dN | apply below_d | refine below_setCell ?_ (by dsimp only; omega) | refine below_call (by assumption) ?_))⟩

set_option maxRecDepth 100000 in
set_option maxHeartbeats 2000000 in
theorem sKeyOf_c (x y X Y : Nat) (z : Int) (hx : cn .f32 x = X) (hy : cn .f32 y = Y) (w : World) : Calls Try.prog 11 #[.agg #[.float .f32 x, .float .f32 y], .int .i64 z] w (Ret (RV (kofV X Y z)) w) := by
  cases v1 : vplace X Y
  · have HV := Lib.hid (show kofV X Y z = .tuple #[.string ⟨#[]⟩, .bool false] by unfold kofV; rw [v1]; rfl)
    go_enter Try.func11, Try.ntmps11
    go_wp2_with (first | (go_at_call 36; refine (l02Is_c x y _ _ _ _ hx hy _ (by simp) (by simp)).mono ?_; rintro e w' ⟨rfl, rfl⟩))
    go_ret2
    exact ⟨⟨_, rfl, by rw [HV.out]; rfl⟩, by (with_reducible repeat (first | exact Below.refl _ _ | apply below_alloc | apply below_dN | apply below_d | refine below_setCell ?_ (by dsimp only; omega) | refine below_call (by assumption) ?_))⟩
  · cases v2 : zoomOk z
    · have HV := Lib.hid (show kofV X Y z = .tuple #[.string ⟨#[]⟩, .bool false] by unfold kofV; rw [v1, v2]; rfl)
      go_enter Try.func11, Try.ntmps11
      go_wp2_with (first | (go_at_call 36; refine (l02Is_c x y _ _ _ _ hx hy _ (by simp) (by simp)).mono ?_; rintro e w' ⟨rfl, rfl⟩) | (go_at_call 30; refine (l07Zoom_c _ _).mono ?_; rintro e w' ⟨rfl, rfl⟩))
      go_ret2
      exact ⟨⟨_, rfl, by rw [HV.out]; rfl⟩, by (with_reducible repeat (first | exact Below.refl _ _ | apply below_alloc | apply below_dN | apply below_d | refine below_setCell ?_ (by dsimp only; omega) | refine below_call (by assumption) ?_))⟩
    · obtain ⟨m, rfl, hm⟩ := zoom_nat v2
      have HV := Lib.hid (show kofV X Y m = .tuple #[.string (keyS m (tu Y / 2 ^ (24 - m)) (tv X / 2 ^ (24 - m))), .bool true] by unfold kofV; rw [v1, v2, Int.toNat_natCast]; rfl)
      have hA : tu Y / 2 ^ (24 - m) < 9223372036854775808 := Nat.lt_of_le_of_lt (Nat.div_le_self _ _) (by have := (tu_ok v1).2.1; omega)
      have hB : tv X / 2 ^ (24 - m) < 9223372036854775808 := Nat.lt_of_le_of_lt (Nat.div_le_self _ _) (by have := (tv_ok v1).2.1; omega)
      have HT := Lib.hid (l07Tile_c x y X Y m (by omega) hx hy v1)
      unfold tileV at HT
      obtain ⟨A, hA'⟩ : ∃ A, tu Y / 2 ^ (24 - m) = A := ⟨_, rfl⟩
      obtain ⟨B, hB'⟩ : ∃ B, tv X / 2 ^ (24 - m) = B := ⟨_, rfl⟩
      rw [hA'] at HT hA HV
      rw [hB'] at HT hB HV
      clear hA' hB'
      go_enter Try.func11, Try.ntmps11
      go_wp2_with (first | (go_at_call 36; refine (l02Is_c x y _ _ _ _ hx hy _ (by simp) (by simp)).mono ?_; rintro e w' ⟨rfl, rfl⟩) | (go_at_call 30; refine (l07Zoom_c _ _).mono ?_; rintro e w' ⟨rfl, rfl⟩) | (go_at_call 37; ((with_reducible refine (HT.out _).mono ?_); rintro e w1 ⟨⟨v, rfl, rfl⟩, hb⟩); have hu2 : ∀ n : Nat, n < n + 1 + 1 := (fun n => by omega); have hu3 : ∀ n : Nat, n < n + 1 + 1 + 1 := (fun n => by omega); obtain ⟨hc, hfz⟩ := bcell hb; (try simp only [World.heap_drewN] at hc hfz); have hs_ := hb.size; (try simp at hs_); (try have hz0 : w.heap.size < w1.heap.size := (by omega)); (try have hz1 : w.heap.size + 1 < w1.heap.size := (by omega)); (try have hz2 : w.heap.size + 2 < w1.heap.size := (by omega)); (try have hz3 : w.heap.size + 3 < w1.heap.size := (by omega)); (try have hza : wa.heap.size < w1.heap.size := (by omega)); (try have hza1 : wa.heap.size + 1 < w1.heap.size := (by omega)); (try have hzb : wb.heap.size < w1.heap.size := (by omega)); (try have hzb1 : wb.heap.size + 1 < w1.heap.size := (by omega)); (try have hzc : wc.heap.size < w1.heap.size := (by omega)); (try have hzd : wd.heap.size < w1.heap.size := (by omega))) | (go_at_call 32; ((with_reducible refine (sKey_c _ _ _ hm hA hB _).mono ?_); rintro e w1 ⟨⟨v, rfl, rfl⟩, hb⟩); have hu2 : ∀ n : Nat, n < n + 1 + 1 := (fun n => by omega); have hu3 : ∀ n : Nat, n < n + 1 + 1 + 1 := (fun n => by omega); obtain ⟨hc, hfz⟩ := bcell hb; (try simp only [World.heap_drewN] at hc hfz); have hs_ := hb.size; (try simp at hs_); (try have hz0 : w.heap.size < w1.heap.size := (by omega)); (try have hz1 : w.heap.size + 1 < w1.heap.size := (by omega)); (try have hz2 : w.heap.size + 2 < w1.heap.size := (by omega)); (try have hz3 : w.heap.size + 3 < w1.heap.size := (by omega)); (try have hza : wa.heap.size < w1.heap.size := (by omega)); (try have hza1 : wa.heap.size + 1 < w1.heap.size := (by omega)); (try have hzb : wb.heap.size < w1.heap.size := (by omega)); (try have hzb1 : wb.heap.size + 1 < w1.heap.size := (by omega)); (try have hzc : wc.heap.size < w1.heap.size := (by omega)); (try have hzd : wd.heap.size < w1.heap.size := (by omega))))
      go_ret2
      exact ⟨⟨_, rfl, by rw [HV.out]; rfl⟩, by (with_reducible repeat (first | exact Below.refl _ _ | apply below_alloc | apply below_dN | apply below_d | refine below_setCell ?_ (by dsimp only; omega) | refine below_call (by assumption) ?_))⟩

theorem kofV_tuple (X Y : Nat) (z : Int) : ∃ s b, kofV X Y z = .tuple #[.string s, .bool b] := by unfold kofV; split <;> exact ⟨_, _, rfl⟩
set_option maxHeartbeats 1000000 in
theorem lawKeyOf (x y : Nat) (z : Int) (w : World) : Calls Try.prog 4 #[.agg #[.float .f32 x, .float .f32 y], .int .i64 z] w fun e w' => e = .returned (.bool true) ∧ Below w.heap.size w w' := by
  have hs := sKeyOf_c x y _ _ z rfl rfl
  have hi := iKeyOf_c x y _ _ z rfl rfl
  obtain ⟨s, b, hv⟩ := kofV_tuple (cn .f32 x) (cn .f32 y) z
  rw [hv] at hs hi
  have HS := Lib.hid hs
  have HI := Lib.hid hi
  clear hs hi hv
  go_enter Try.func4, Try.ntmps4
  go_wp2_with (first | (go_at_call 12; ((with_reducible refine (toPlace_any _ _ _).mono ?_); rintro e w1 ⟨rfl, hb⟩); have hu2 : ∀ n : Nat, n < n + 1 + 1 := (fun n => by omega); have hu3 : ∀ n : Nat, n < n + 1 + 1 + 1 := (fun n => by omega); obtain ⟨hc, hfz⟩ := bcell hb; (try simp only [World.heap_drewN] at hc hfz); have hs_ := hb.size; (try simp at hs_); (try have hz0 : w.heap.size < w1.heap.size := (by omega)); (try have hz1 : w.heap.size + 1 < w1.heap.size := (by omega)); (try have hz2 : w.heap.size + 2 < w1.heap.size := (by omega)); (try have hz3 : w.heap.size + 3 < w1.heap.size := (by omega)); (try have hza : wa.heap.size < w1.heap.size := (by omega)); (try have hza1 : wa.heap.size + 1 < w1.heap.size := (by omega)); (try have hzb : wb.heap.size < w1.heap.size := (by omega)); (try have hzb1 : wb.heap.size + 1 < w1.heap.size := (by omega)); (try have hzc : wc.heap.size < w1.heap.size := (by omega)); (try have hzd : wd.heap.size < w1.heap.size := (by omega))) | (go_at_call 11; ((with_reducible refine (HS.out _).mono ?_); rintro e w1 ⟨⟨v, rfl, rfl⟩, hb⟩); have hu2 : ∀ n : Nat, n < n + 1 + 1 := (fun n => by omega); have hu3 : ∀ n : Nat, n < n + 1 + 1 + 1 := (fun n => by omega); obtain ⟨hc, hfz⟩ := bcell hb; (try simp only [World.heap_drewN] at hc hfz); have hs_ := hb.size; (try simp at hs_); (try have hz0 : w.heap.size < w1.heap.size := (by omega)); (try have hz1 : w.heap.size + 1 < w1.heap.size := (by omega)); (try have hz2 : w.heap.size + 2 < w1.heap.size := (by omega)); (try have hz3 : w.heap.size + 3 < w1.heap.size := (by omega)); (try have hza : wa.heap.size < w1.heap.size := (by omega)); (try have hza1 : wa.heap.size + 1 < w1.heap.size := (by omega)); (try have hzb : wb.heap.size < w1.heap.size := (by omega)); (try have hzb1 : wb.heap.size + 1 < w1.heap.size := (by omega)); (try have hzc : wc.heap.size < w1.heap.size := (by omega)); (try have hzd : wd.heap.size < w1.heap.size := (by omega))) | (go_at_call 13; ((with_reducible refine (HI.out _).mono ?_); rintro e w1 ⟨⟨v, rfl, rfl⟩, hb⟩); have hu2 : ∀ n : Nat, n < n + 1 + 1 := (fun n => by omega); have hu3 : ∀ n : Nat, n < n + 1 + 1 + 1 := (fun n => by omega); obtain ⟨hc, hfz⟩ := bcell hb; (try simp only [World.heap_drewN] at hc hfz); have hs_ := hb.size; (try simp at hs_); (try have hz0 : w.heap.size < w1.heap.size := (by omega)); (try have hz1 : w.heap.size + 1 < w1.heap.size := (by omega)); (try have hz2 : w.heap.size + 2 < w1.heap.size := (by omega)); (try have hz3 : w.heap.size + 3 < w1.heap.size := (by omega)); (try have hza : wa.heap.size < w1.heap.size := (by omega)); (try have hza1 : wa.heap.size + 1 < w1.heap.size := (by omega)); (try have hzb : wb.heap.size < w1.heap.size := (by omega)); (try have hzb1 : wb.heap.size + 1 < w1.heap.size := (by omega)); (try have hzc : wc.heap.size < w1.heap.size := (by omega)); (try have hzd : wd.heap.size < w1.heap.size := (by omega))))
  go_ret
  exact ⟨rfl, by (with_reducible repeat (first | exact Below.refl _ _ | apply below_alloc | apply below_dN | apply below_d | refine below_setCell ?_ (by dsimp only; omega) | refine below_call (by assumption) ?_))⟩
end Go.Proofs.Yteecbhmgogndaaa
