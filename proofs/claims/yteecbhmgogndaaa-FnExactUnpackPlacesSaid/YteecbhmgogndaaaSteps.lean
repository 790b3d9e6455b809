/- Contracts of steps, and the law of StepsOf. No condition. -/
import Derived.Test.YteecbhmgogndaaaFlo
namespace Go.Proofs.Yteecbhmgogndaaa
open Go.RowKit
set_option linter.unusedSimpArgs false

def StepT (x : Nat) : Nat := fint .down (fop .add .f64 (fop .mul .f64 (fcv .f32 .f64 x) 4715268809856909312) 4602678819172646912)
/-- A turn in steps. -/
def StepI (x : Nat) : Int := ((FloatKind.f64.decode (StepT x)).toInt .zero).getD 0
theorem num64_s : num .f64 4715268809856909312 := num_of _ (by decide +kernel)
theorem v64_s : fv .f64 4715268809856909312 = 16777216 := by decide +kernel
theorem isf64_s : isf .f64 16777216 := isf_of 4715268809856909312 (by decide +kernel)
theorem isf64_ns : isf .f64 (-16777216) := isf_of 13938640846711685120 (by decide +kernel)
theorem isf64_t : isf .f64 33554432 := isf_of 4719772409484279808 (by decide +kernel)
theorem isf64_nt : isf .f64 (-33554432) := isf_of 13943144446339055616 (by decide +kernel)
theorem step_ok {x : Nat} (h : inn .f32 x (-1/2) (1/2)) : (FloatKind.f64.decode (StepT x)).toInt .zero = some (StepI x) ∧ -9223372036854775808 ≤ StepI x ∧ StepI x ≤ 9223372036854775807 := by
  obtain ⟨w1, w2⟩ := wide_num h.1
  have a := h.2.1
  have b := h.2.2
  have m := (mul_rd w1 num64_s).inn isf64_ns isf64_s (by rw [v64_s, w2]; grind) (by rw [v64_s, w2]; grind)
  have m1 := m.2.1
  have m2 := m.2.2
  have t := (add_rd m.1 num64_h).inn isf64_nt isf64_t (by rw [v64_h]; grind) (by rw [v64_h]; grind)
  have t1 := t.2.1
  have t2 := t.2.2
  obtain ⟨f1, n, f2, f3, f4⟩ := floor_val t.1 (by grind) (by grind)
  obtain ⟨s, M, hM, -, -, -, e, -, -⟩ := trunc_val f1 (by rw [f2]; grind) (by rw [f2]; grind)
  have hS : StepI x = if s then -(M : Int) else M := by unfold StepI StepT; rw [e]; rfl
  refine ⟨by rw [hS]; exact e, ?_, ?_⟩
  · rw [hS]; cases s <;> simp <;> omega
  · rw [hS]; cases s <;> simp <;> omega

set_option maxHeartbeats 400000 in
theorem iStep_c (x X : Nat) (hx : cn .f32 x = X) (h : inn .f32 X (-1/2) (1/2)) (w : World) : Calls Try.prog 68 #[.float .f32 x] w (Ret (RV (.int .i64 (StepI X))) w) := by
  obtain ⟨e, e1, e2⟩ := step_ok h
  have hcv : ∀ r w, cn .f64 r = StepT X → (convert 75 2 (.float .f64 r)).run Try.prog w = .ok (.int .i64 (StepI X)) w := fun r w hr => by
    have hn : nanB .f64 (StepT X) = false := by
      cases hb : nanB .f64 (StepT X)
      · rfl
      · obtain ⟨s, t, e'⟩ := read_nan hb
        rw [decode_read, e'] at e
        cases e
    rw [raw_of hn hr]
    exact run_toint _ _ _ _ _ _ w (by rw [Try.underlying75]; rfl) Try.underlying2 e e1 e2
  unfold StepT at hcv
  subst hx
  clear h e e1 e2
  go_enter Try.func68, Try.ntmps68
  go_wp2_with (first | (go_at_call 73; ((with_reducible refine (floor_c _ _ (by assumption) _).mono ?_); rintro e w1 ⟨⟨v, rfl, r, rfl, hr, hw⟩, hb⟩)) | (refine wpL_fconv_fits rfl 25 75 _ rfl .f32 .f64 _ rfl (by decide) Try.underlying25 Try.underlying75 (fits_wide _) ?_; intro r n hr hw) | (refine wpL_farith rfl _ _ _ _ _ rfl rfl _ _ _ rfl rfl ?_; intro r n hr hw))
  go_ret
  exact ⟨⟨_, rfl, rfl⟩, by (with_reducible repeat (first | exact Below.refl _ _ | apply below_alloc | apply below_dN | apply below_d | refine below_setCell ?_ (by dsimp only; omega) | refine below_call (by assumption) ?_))⟩

set_option maxHeartbeats 400000 in
theorem sStep_c (x X : Nat) (hx : cn .f32 x = X) (h : inn .f32 X (-1/2) (1/2)) (w : World) : Calls Try.prog 70 #[.float .f32 x] w (Ret (RV (.int .i64 (StepI X))) w) := by
  obtain ⟨e, e1, e2⟩ := step_ok h
  have hcv : ∀ r w, cn .f64 r = StepT X → (convert 75 2 (.float .f64 r)).run Try.prog w = .ok (.int .i64 (StepI X)) w := fun r w hr => by
    have hn : nanB .f64 (StepT X) = false := by
      cases hb : nanB .f64 (StepT X)
      · rfl
      · obtain ⟨s, t, e'⟩ := read_nan hb
        rw [decode_read, e'] at e
        cases e
    rw [raw_of hn hr]
    exact run_toint _ _ _ _ _ _ w (by rw [Try.underlying75]; rfl) Try.underlying2 e e1 e2
  unfold StepT at hcv
  subst hx
  clear h e e1 e2
  go_enter Try.func70, Try.ntmps70
  go_wp2_with (first | (go_at_call 73; ((with_reducible refine (floor_c _ _ (by assumption) _).mono ?_); rintro e w1 ⟨⟨v, rfl, r, rfl, hr, hw⟩, hb⟩)) | (refine wpL_fconv_fits rfl 25 75 _ rfl .f32 .f64 _ rfl (by decide) Try.underlying25 Try.underlying75 (fits_wide _) ?_; intro r n hr hw) | (refine wpL_farith rfl _ _ _ _ _ rfl rfl _ _ _ rfl rfl ?_; intro r n hr hw))
  go_ret
  exact ⟨⟨_, rfl, rfl⟩, by (with_reducible repeat (first | exact Below.refl _ _ | apply below_alloc | apply below_dN | apply below_d | refine below_setCell ?_ (by dsimp only; omega) | refine below_call (by assumption) ?_))⟩

def StepE (x : Nat) : Int := if StepI x = 8388608 then -8388608 else StepI x
def stepsRes (X Y : Nat) : Value := .tuple #[.int .i64 (if vplace X Y then StepI X else 0), .int .i64 (if vplace X Y then StepE Y else 0), .bool (vplace X Y)]

set_option maxHeartbeats 1000000 in
theorem sSteps_c (x y X Y : Nat) (hx : cn .f32 x = X) (hy : cn .f32 y = Y) (w : World) : Calls Try.prog 58 #[.agg #[.float .f32 x, .float .f32 y]] w (Ret (RV (stepsRes X Y)) w) := by
  unfold stepsRes
  cases hv : vplace X Y
  · go_enter Try.func58, Try.ntmps58
    go_wp2_with (first | (go_at_call 36; refine (l02Is_c x y _ _ _ _ hx hy _ (by simp) (by simp)).mono ?_; rintro e w' ⟨rfl, rfl⟩))
    refine bodyPost_ret (v := .tuple #[.int .i64 0, .int .i64 0, .bool false]) (by simp [results, Try.results58, go_sem, *] <;> (first | rfl | exact ⟨rfl, rfl⟩ | exact ⟨rfl, rfl, rfl⟩ | exact ⟨rfl, rfl, rfl, rfl⟩)) rfl ?_
    exact ⟨⟨_, rfl, rfl⟩, by (with_reducible repeat (first | exact Below.refl _ _ | apply below_alloc | apply below_dN | apply below_d | refine below_setCell ?_ (by dsimp only; omega) | refine below_call (by assumption) ?_))⟩
  · obtain ⟨n1, n2⟩ := vplace_num hv
    have n1' := n1.mono (A' := -1/2) (B' := 1/2) (by decide +kernel) (by decide +kernel)
    by_cases h8 : StepI Y = 8388608
    · have hE : StepE Y = -8388608 := by unfold StepE; rw [if_pos h8]
      rw [hE]
      go_enter Try.func58, Try.ntmps58
      go_wp2_with (first | (go_at_call 36; refine (l02Is_c x y _ _ _ _ hx hy _ (by simp) (by simp)).mono ?_; rintro e w' ⟨rfl, rfl⟩) | (go_at_call 70; ((with_reducible refine (sStep_c _ _ hx n1' _).mono ?_); rintro e w1 ⟨⟨v, rfl, rfl⟩, hb⟩); have hu2 : ∀ n : Nat, n < n + 1 + 1 := (fun n => by omega); have hu3 : ∀ n : Nat, n < n + 1 + 1 + 1 := (fun n => by omega); obtain ⟨hc, hfz⟩ := bcell hb; (try simp only [World.heap_drewN] at hc hfz); have hs_ := hb.size; (try simp at hs_); (try have hz0 : w.heap.size < w1.heap.size := (by omega)); (try have hz1 : w.heap.size + 1 < w1.heap.size := (by omega)); (try have hz2 : w.heap.size + 2 < w1.heap.size := (by omega)); (try have hz3 : w.heap.size + 3 < w1.heap.size := (by omega)); (try have hza : wa.heap.size < w1.heap.size := (by omega)); (try have hza1 : wa.heap.size + 1 < w1.heap.size := (by omega)); (try have hzb : wb.heap.size < w1.heap.size := (by omega)); (try have hzb1 : wb.heap.size + 1 < w1.heap.size := (by omega)); (try have hzc : wc.heap.size < w1.heap.size := (by omega)); (try have hzd : wd.heap.size < w1.heap.size := (by omega))) | (go_at_call 70; ((with_reducible refine (sStep_c _ _ hy n2 _).mono ?_); rintro e w1 ⟨⟨v, rfl, rfl⟩, hb⟩); have hu2 : ∀ n : Nat, n < n + 1 + 1 := (fun n => by omega); have hu3 : ∀ n : Nat, n < n + 1 + 1 + 1 := (fun n => by omega); obtain ⟨hc, hfz⟩ := bcell hb; (try simp only [World.heap_drewN] at hc hfz); have hs_ := hb.size; (try simp at hs_); (try have hz0 : w.heap.size < w1.heap.size := (by omega)); (try have hz1 : w.heap.size + 1 < w1.heap.size := (by omega)); (try have hz2 : w.heap.size + 2 < w1.heap.size := (by omega)); (try have hz3 : w.heap.size + 3 < w1.heap.size := (by omega)); (try have hza : wa.heap.size < w1.heap.size := (by omega)); (try have hza1 : wa.heap.size + 1 < w1.heap.size := (by omega)); (try have hzb : wb.heap.size < w1.heap.size := (by omega)); (try have hzb1 : wb.heap.size + 1 < w1.heap.size := (by omega)); (try have hzc : wc.heap.size < w1.heap.size := (by omega)); (try have hzd : wd.heap.size < w1.heap.size := (by omega))))
      refine bodyPost_ret (v := .tuple #[.int .i64 (StepI X), .int .i64 (-8388608), .bool true]) (by simp [results, Try.results58, go_sem, *] <;> (first | rfl | exact ⟨rfl, rfl⟩ | exact ⟨rfl, rfl, rfl⟩ | exact ⟨rfl, rfl, rfl, rfl⟩)) rfl ?_
      exact ⟨⟨_, rfl, rfl⟩, by (with_reducible repeat (first | exact Below.refl _ _ | apply below_alloc | apply below_dN | apply below_d | refine below_setCell ?_ (by dsimp only; omega) | refine below_call (by assumption) ?_))⟩
    · have hE : StepE Y = StepI Y := by unfold StepE; rw [if_neg h8]
      rw [hE]
      go_enter Try.func58, Try.ntmps58
      go_wp2_with (first | (go_at_call 36; refine (l02Is_c x y _ _ _ _ hx hy _ (by simp) (by simp)).mono ?_; rintro e w' ⟨rfl, rfl⟩) | (go_at_call 70; ((with_reducible refine (sStep_c _ _ hx n1' _).mono ?_); rintro e w1 ⟨⟨v, rfl, rfl⟩, hb⟩); have hu2 : ∀ n : Nat, n < n + 1 + 1 := (fun n => by omega); have hu3 : ∀ n : Nat, n < n + 1 + 1 + 1 := (fun n => by omega); obtain ⟨hc, hfz⟩ := bcell hb; (try simp only [World.heap_drewN] at hc hfz); have hs_ := hb.size; (try simp at hs_); (try have hz0 : w.heap.size < w1.heap.size := (by omega)); (try have hz1 : w.heap.size + 1 < w1.heap.size := (by omega)); (try have hz2 : w.heap.size + 2 < w1.heap.size := (by omega)); (try have hz3 : w.heap.size + 3 < w1.heap.size := (by omega)); (try have hza : wa.heap.size < w1.heap.size := (by omega)); (try have hza1 : wa.heap.size + 1 < w1.heap.size := (by omega)); (try have hzb : wb.heap.size < w1.heap.size := (by omega)); (try have hzb1 : wb.heap.size + 1 < w1.heap.size := (by omega)); (try have hzc : wc.heap.size < w1.heap.size := (by omega)); (try have hzd : wd.heap.size < w1.heap.size := (by omega))) | (go_at_call 70; ((with_reducible refine (sStep_c _ _ hy n2 _).mono ?_); rintro e w1 ⟨⟨v, rfl, rfl⟩, hb⟩); have hu2 : ∀ n : Nat, n < n + 1 + 1 := (fun n => by omega); have hu3 : ∀ n : Nat, n < n + 1 + 1 + 1 := (fun n => by omega); obtain ⟨hc, hfz⟩ := bcell hb; (try simp only [World.heap_drewN] at hc hfz); have hs_ := hb.size; (try simp at hs_); (try have hz0 : w.heap.size < w1.heap.size := (by omega)); (try have hz1 : w.heap.size + 1 < w1.heap.size := (by omega)); (try have hz2 : w.heap.size + 2 < w1.heap.size := (by omega)); (try have hz3 : w.heap.size + 3 < w1.heap.size := (by omega)); (try have hza : wa.heap.size < w1.heap.size := (by omega)); (try have hza1 : wa.heap.size + 1 < w1.heap.size := (by omega)); (try have hzb : wb.heap.size < w1.heap.size := (by omega)); (try have hzb1 : wb.heap.size + 1 < w1.heap.size := (by omega)); (try have hzc : wc.heap.size < w1.heap.size := (by omega)); (try have hzd : wd.heap.size < w1.heap.size := (by omega))))
      refine bodyPost_ret (v := .tuple #[.int .i64 (StepI X), .int .i64 (StepI Y), .bool true]) (by simp [results, Try.results58, go_sem, *] <;> (first | rfl | exact ⟨rfl, rfl⟩ | exact ⟨rfl, rfl, rfl⟩ | exact ⟨rfl, rfl, rfl, rfl⟩)) rfl ?_
      exact ⟨⟨_, rfl, rfl⟩, by (with_reducible repeat (first | exact Below.refl _ _ | apply below_alloc | apply below_dN | apply below_d | refine below_setCell ?_ (by dsimp only; omega) | refine below_call (by assumption) ?_))⟩


set_option maxHeartbeats 1000000 in
theorem iSteps_c (x y X Y : Nat) (hx : cn .f32 x = X) (hy : cn .f32 y = Y) (w : World) : Calls Try.prog 54 #[.agg #[.float .f32 x, .float .f32 y]] w (Ret (RV (stepsRes X Y)) w) := by
  unfold stepsRes
  cases hv : vplace X Y
  · go_enter Try.func54, Try.ntmps54
    go_wp2_with (first | (go_at_call 38; ((with_reducible refine (iValidPlace_c _ _ _ _ hx hy _).mono ?_); rintro e w1 ⟨⟨v, rfl, rfl⟩, hb⟩); have hu2 : ∀ n : Nat, n < n + 1 + 1 := (fun n => by omega); have hu3 : ∀ n : Nat, n < n + 1 + 1 + 1 := (fun n => by omega); obtain ⟨hc, hfz⟩ := bcell hb; (try simp only [World.heap_drewN] at hc hfz); have hs_ := hb.size; (try simp at hs_); (try have hz0 : w.heap.size < w1.heap.size := (by omega)); (try have hz1 : w.heap.size + 1 < w1.heap.size := (by omega)); (try have hz2 : w.heap.size + 2 < w1.heap.size := (by omega)); (try have hz3 : w.heap.size + 3 < w1.heap.size := (by omega)); (try have hza : wa.heap.size < w1.heap.size := (by omega)); (try have hza1 : wa.heap.size + 1 < w1.heap.size := (by omega)); (try have hzb : wb.heap.size < w1.heap.size := (by omega)); (try have hzb1 : wb.heap.size + 1 < w1.heap.size := (by omega)); (try have hzc : wc.heap.size < w1.heap.size := (by omega)); (try have hzd : wd.heap.size < w1.heap.size := (by omega))))
    refine bodyPost_ret (v := .tuple #[.int .i64 0, .int .i64 0, .bool false]) (by simp [results, Try.results54, go_sem, *] <;> (first | rfl | exact ⟨rfl, rfl⟩ | exact ⟨rfl, rfl, rfl⟩ | exact ⟨rfl, rfl, rfl, rfl⟩)) rfl ?_
    exact ⟨⟨_, rfl, rfl⟩, by (with_reducible repeat (first | exact Below.refl _ _ | apply below_alloc | apply below_dN | apply below_d | refine below_setCell ?_ (by dsimp only; omega) | refine below_call (by assumption) ?_))⟩
  · obtain ⟨n1, n2⟩ := vplace_num hv
    have n1' := n1.mono (A' := -1/2) (B' := 1/2) (by decide +kernel) (by decide +kernel)
    by_cases h8 : StepI Y = 8388608
    · have hE : StepE Y = -8388608 := by unfold StepE; rw [if_pos h8]
      rw [hE]
      go_enter Try.func54, Try.ntmps54
      go_wp2_with (first | (go_at_call 38; ((with_reducible refine (iValidPlace_c _ _ _ _ hx hy _).mono ?_); rintro e w1 ⟨⟨v, rfl, rfl⟩, hb⟩); have hu2 : ∀ n : Nat, n < n + 1 + 1 := (fun n => by omega); have hu3 : ∀ n : Nat, n < n + 1 + 1 + 1 := (fun n => by omega); obtain ⟨hc, hfz⟩ := bcell hb; (try simp only [World.heap_drewN] at hc hfz); have hs_ := hb.size; (try simp at hs_); (try have hz0 : w.heap.size < w1.heap.size := (by omega)); (try have hz1 : w.heap.size + 1 < w1.heap.size := (by omega)); (try have hz2 : w.heap.size + 2 < w1.heap.size := (by omega)); (try have hz3 : w.heap.size + 3 < w1.heap.size := (by omega)); (try have hza : wa.heap.size < w1.heap.size := (by omega)); (try have hza1 : wa.heap.size + 1 < w1.heap.size := (by omega)); (try have hzb : wb.heap.size < w1.heap.size := (by omega)); (try have hzb1 : wb.heap.size + 1 < w1.heap.size := (by omega)); (try have hzc : wc.heap.size < w1.heap.size := (by omega)); (try have hzd : wd.heap.size < w1.heap.size := (by omega))))
      (apply region_looseK (k := 8); (kernel_rfl); (kernel_rfl); intro opsL KL hopsL hKL; (dsimp only [List.take])); (apply rel_val; (rfl); (intro wq hbq; have hcq := (bcell hbq).1; (go_simp; first | done | rfl | exact ⟨rfl, rfl⟩)); (try go_simp)); (apply rel_val; (rfl); (intro wq hbq; have hcq := (bcell hbq).1; (go_simp; first | done | rfl | exact ⟨rfl, rfl⟩)); (try go_simp)); (apply rel_call (RV (.int .i64 (StepI X))); (rfl); (intro wq hbq; (go_simp; first | done | rfl | exact ⟨rfl, rfl⟩)); (intro wq hbq; exact iStep_c _ _ hx n1' _); (try go_simp)); rintro v rfl; (apply rel_val; (rfl); (intro wq hbq; have hcq := (bcell hbq).1; (go_simp; first | done | rfl | exact ⟨rfl, rfl⟩)); (try go_simp)); (apply rel_val; (rfl); (intro wq hbq; have hcq := (bcell hbq).1; (go_simp; first | done | rfl | exact ⟨rfl, rfl⟩)); (try go_simp)); (apply rel_call (RV (.int .i64 (StepI Y))); (rfl); (intro wq hbq; (go_simp; first | done | rfl | exact ⟨rfl, rfl⟩)); (intro wq hbq; exact iStep_c _ _ hy n2 _); (try go_simp)); rintro v rfl; (apply rel_val; (rfl); (intro wq hbq; have hcq := (bcell hbq).1; (go_simp; first | done | rfl | exact ⟨rfl, rfl⟩)); (try go_simp)); (apply rel_val; (rfl); (intro wq hbq; have hcq := (bcell hbq).1; (go_simp; first | done | rfl | exact ⟨rfl, rfl⟩)); (try go_simp)); (refine wpRel_nil ?_; refine hKL _ _ ?_; clear hKL hopsL opsL KL; intro w1 hb hnews; obtain ⟨hc, hfz⟩ := bcell hb; (try simp only [World.heap_drewN] at hc hfz); have hz : w.heap.size + 1 ≤ w1.heap.size := (by (have hz_ := hb.size; (try simp at hz_); omega)); have hz0 : w.heap.size < w1.heap.size := (by omega); (dsimp only [List.drop])); go_wp2
      refine bodyPost_ret (v := .tuple #[.int .i64 (StepI X), .int .i64 (-8388608), .bool true]) (by simp [results, Try.results54, go_sem, *] <;> (first | rfl | exact ⟨rfl, rfl⟩ | exact ⟨rfl, rfl, rfl⟩ | exact ⟨rfl, rfl, rfl, rfl⟩)) rfl ?_
      exact ⟨⟨_, rfl, rfl⟩, by (with_reducible repeat (first | exact Below.refl _ _ | apply below_alloc | apply below_dN | apply below_d | refine below_setCell ?_ (by dsimp only; omega) | refine below_call (by assumption) ?_))⟩
    · have hE : StepE Y = StepI Y := by unfold StepE; rw [if_neg h8]
      rw [hE]
      go_enter Try.func54, Try.ntmps54
      go_wp2_with (first | (go_at_call 38; ((with_reducible refine (iValidPlace_c _ _ _ _ hx hy _).mono ?_); rintro e w1 ⟨⟨v, rfl, rfl⟩, hb⟩); have hu2 : ∀ n : Nat, n < n + 1 + 1 := (fun n => by omega); have hu3 : ∀ n : Nat, n < n + 1 + 1 + 1 := (fun n => by omega); obtain ⟨hc, hfz⟩ := bcell hb; (try simp only [World.heap_drewN] at hc hfz); have hs_ := hb.size; (try simp at hs_); (try have hz0 : w.heap.size < w1.heap.size := (by omega)); (try have hz1 : w.heap.size + 1 < w1.heap.size := (by omega)); (try have hz2 : w.heap.size + 2 < w1.heap.size := (by omega)); (try have hz3 : w.heap.size + 3 < w1.heap.size := (by omega)); (try have hza : wa.heap.size < w1.heap.size := (by omega)); (try have hza1 : wa.heap.size + 1 < w1.heap.size := (by omega)); (try have hzb : wb.heap.size < w1.heap.size := (by omega)); (try have hzb1 : wb.heap.size + 1 < w1.heap.size := (by omega)); (try have hzc : wc.heap.size < w1.heap.size := (by omega)); (try have hzd : wd.heap.size < w1.heap.size := (by omega))))
      (apply region_looseK (k := 8); (kernel_rfl); (kernel_rfl); intro opsL KL hopsL hKL; (dsimp only [List.take])); (apply rel_val; (rfl); (intro wq hbq; have hcq := (bcell hbq).1; (go_simp; first | done | rfl | exact ⟨rfl, rfl⟩)); (try go_simp)); (apply rel_val; (rfl); (intro wq hbq; have hcq := (bcell hbq).1; (go_simp; first | done | rfl | exact ⟨rfl, rfl⟩)); (try go_simp)); (apply rel_call (RV (.int .i64 (StepI X))); (rfl); (intro wq hbq; (go_simp; first | done | rfl | exact ⟨rfl, rfl⟩)); (intro wq hbq; exact iStep_c _ _ hx n1' _); (try go_simp)); rintro v rfl; (apply rel_val; (rfl); (intro wq hbq; have hcq := (bcell hbq).1; (go_simp; first | done | rfl | exact ⟨rfl, rfl⟩)); (try go_simp)); (apply rel_val; (rfl); (intro wq hbq; have hcq := (bcell hbq).1; (go_simp; first | done | rfl | exact ⟨rfl, rfl⟩)); (try go_simp)); (apply rel_call (RV (.int .i64 (StepI Y))); (rfl); (intro wq hbq; (go_simp; first | done | rfl | exact ⟨rfl, rfl⟩)); (intro wq hbq; exact iStep_c _ _ hy n2 _); (try go_simp)); rintro v rfl; (apply rel_val; (rfl); (intro wq hbq; have hcq := (bcell hbq).1; (go_simp; first | done | rfl | exact ⟨rfl, rfl⟩)); (try go_simp)); (apply rel_val; (rfl); (intro wq hbq; have hcq := (bcell hbq).1; (go_simp; first | done | rfl | exact ⟨rfl, rfl⟩)); (try go_simp)); (refine wpRel_nil ?_; refine hKL _ _ ?_; clear hKL hopsL opsL KL; intro w1 hb hnews; obtain ⟨hc, hfz⟩ := bcell hb; (try simp only [World.heap_drewN] at hc hfz); have hz : w.heap.size + 1 ≤ w1.heap.size := (by (have hz_ := hb.size; (try simp at hz_); omega)); have hz0 : w.heap.size < w1.heap.size := (by omega); (dsimp only [List.drop])); go_wp2
      refine bodyPost_ret (v := .tuple #[.int .i64 (StepI X), .int .i64 (StepI Y), .bool true]) (by simp [results, Try.results54, go_sem, *] <;> (first | rfl | exact ⟨rfl, rfl⟩ | exact ⟨rfl, rfl, rfl⟩ | exact ⟨rfl, rfl, rfl, rfl⟩)) rfl ?_
      exact ⟨⟨_, rfl, rfl⟩, by (with_reducible repeat (first | exact Below.refl _ _ | apply below_alloc | apply below_dN | apply below_d | refine below_setCell ?_ (by dsimp only; omega) | refine below_call (by assumption) ?_))⟩

-- left out here: loop.example/g01341/laws.FnExactStepsOf