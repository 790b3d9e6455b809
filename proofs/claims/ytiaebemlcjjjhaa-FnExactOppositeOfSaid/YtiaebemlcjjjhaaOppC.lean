/- Contracts of OppositeOf in both spellings, and its law. No condition. -/
import Derived.Test.YtiaebemlcjjjhaaOppN
namespace Go.Proofs.Ytiaebemlcjjjhaa
open Go.RowKit
set_option linter.unusedSimpArgs false

/-- A place. -/
def RPl (x y : Nat) (v : Value) : Prop := ∃ a b, v = .agg #[.float .f32 a, .float .f32 b] ∧ cn .f32 a = x ∧ cn .f32 b = y
def RAny (v : Value) : Prop := ∃ r, v = .float .f32 r
def RPA (v : Value) : Prop := ∃ a b, v = .agg #[.float .f32 a, .float .f32 b]

set_option maxHeartbeats 400000 in
theorem iFloor_any (x : Nat) (w : World) : Calls Try.prog 90 #[.float .f32 x] w (Ret RAny w) := by
  go_enter Try.func90, Try.ntmps90
  go_wp2_with (first | (go_at_call 89; ((with_reducible refine (floor_c _ _ rfl _).mono ?_); rintro e w1 ⟨⟨v, rfl, r, rfl, hr, hw⟩, hb⟩)) | (refine wpL_fconv_fits rfl 22 50 _ rfl .f32 .f64 _ rfl (by decide) Try.underlying22 Try.underlying50 (fits_wide _) ?_; intro r n hr hw) | (refine wpL_fconv rfl 50 22 _ rfl .f64 .f32 _ rfl (by decide) Try.underlying50 Try.underlying22 ?_; intro r n hr))
  go_ret
  exact ⟨⟨_, rfl, _, rfl⟩, by (with_reducible repeat (first | exact Below.refl _ _ | apply below_alloc | apply below_dN | apply below_d | refine below_setCell ?_ (by dsimp only; omega) | refine below_call (by assumption) ?_))⟩

set_option maxHeartbeats 400000 in
theorem iWrap_any (x : Nat) (w : World) : Calls Try.prog 61 #[.float .f32 x] w (Ret RAny w) := by
  go_enter Try.func61, Try.ntmps61
  go_wp2_with (first | (go_at_call 90; ((with_reducible refine (iFloor_any _ _).mono ?_); rintro e w1 ⟨⟨v, rfl, r, rfl⟩, hb⟩)) | (refine wpL_farith rfl _ _ _ _ _ rfl rfl _ _ _ rfl rfl ?_; intro r n hr hw))
  all_goals (go_ret; exact ⟨⟨_, rfl, _, rfl⟩, by (with_reducible repeat (first | exact Below.refl _ _ | apply below_alloc | apply below_dN | apply below_d | refine below_setCell ?_ (by dsimp only; omega) | refine below_call (by assumption) ?_))⟩)

set_option maxHeartbeats 400000 in
theorem valid_no (x y : Nat) (w : World) : Calls Try.prog 60 #[.agg #[.float .f32 x, .float .f32 y], .bool false] w (Ret (RP (RPl 0 0) (RV (.bool false))) w) := by
  go_enter Try.func60, Try.ntmps60
  go_wp2
  refine bodyPost_ret (v := .tuple #[.agg #[.float .f32 0, .float .f32 0], .bool false]) (by simp [results, Try.results60, go_sem, *] <;> (first | rfl | exact ⟨rfl, rfl⟩ | exact ⟨rfl, rfl, rfl⟩ | exact ⟨rfl, rfl, rfl, rfl⟩)) rfl ?_
  exact ⟨⟨_, rfl, _, _, rfl, ⟨0, 0, rfl, by simp⟩, rfl⟩, by (with_reducible repeat (first | exact Below.refl _ _ | apply below_alloc | apply below_dN | apply below_d | refine below_setCell ?_ (by dsimp only; omega) | refine below_call (by assumption) ?_))⟩

set_option maxHeartbeats 400000 in
theorem valid_yes (x y X Y : Nat) (hx : cn .f32 x = X) (hy : cn .f32 y = Y) (hv : vplace X Y = true) (w : World) : Calls Try.prog 60 #[.agg #[.float .f32 x, .float .f32 y], .bool true] w (Ret (RP (RPl X Y) (RV (.bool true))) w) := by
  go_enter Try.func60, Try.ntmps60
  go_wp2_with (first | (go_at_call 57; ((with_reducible refine (iValidPlace_c _ _ _ _ hx hy _).mono ?_); rintro e w1 ⟨⟨v, rfl, rfl⟩, hb⟩); have hu2 : ∀ n : Nat, n < n + 1 + 1 := (fun n => by omega); have hu3 : ∀ n : Nat, n < n + 1 + 1 + 1 := (fun n => by omega); obtain ⟨hc, hfz⟩ := bcell hb; (try simp only [World.heap_drewN] at hc hfz); have hs_ := hb.size; (try simp at hs_); (try have hz0 : w.heap.size < w1.heap.size := (by omega)); (try have hz1 : w.heap.size + 1 < w1.heap.size := (by omega)); (try have hz2 : w.heap.size + 2 < w1.heap.size := (by omega)); (try have hz3 : w.heap.size + 3 < w1.heap.size := (by omega)); (try have hza : wa.heap.size < w1.heap.size := (by omega)); (try have hza1 : wa.heap.size + 1 < w1.heap.size := (by omega)); (try have hzb : wb.heap.size < w1.heap.size := (by omega)); (try have hzb1 : wb.heap.size + 1 < w1.heap.size := (by omega)); (try have hzc : wc.heap.size < w1.heap.size := (by omega)); (try have hzd : wd.heap.size < w1.heap.size := (by omega))))
  refine bodyPost_ret (v := .tuple #[.agg #[.float .f32 x, .float .f32 y], .bool true]) (by simp [results, Try.results60, go_sem, *] <;> (first | rfl | exact ⟨rfl, rfl⟩ | exact ⟨rfl, rfl, rfl⟩ | exact ⟨rfl, rfl, rfl, rfl⟩)) rfl ?_
  exact ⟨⟨_, rfl, _, _, rfl, ⟨x, y, rfl, hx, hy⟩, rfl⟩, by (with_reducible repeat (first | exact Below.refl _ _ | apply below_alloc | apply below_dN | apply below_d | refine below_setCell ?_ (by dsimp only; omega) | refine below_call (by assumption) ?_))⟩

def oppRes (X Y : Nat) : Value → Prop := RP (RPl (gd (vplace X Y) (fneg .f32 X)) (gd (vplace X Y) (Wrap (fop .add .f32 Y 1056964608)))) (RV (.bool (vplace X Y)))

set_option maxHeartbeats 1000000 in
theorem iOpp_c (x y X Y : Nat) (hx : cn .f32 x = X) (hy : cn .f32 y = Y) (w : World) : Calls Try.prog 23 #[.agg #[.float .f32 x, .float .f32 y]] w (Ret (oppRes X Y) w) := by
  have hh := cnc_f32_1056964608
  have hng : cn .f32 (Op.negFloat .f32 x) = fneg .f32 X := by rw [cn_neg, hx]
  unfold oppRes
  cases hv : vplace X Y
  · go_enter Try.func23, Try.ntmps23
    go_wp2
    (apply region_looseK (k := 13); (kernel_rfl); (kernel_rfl); intro opsL KL hopsL hKL; (dsimp only [List.take]))
    (apply rel_val; (rfl); (intro wq hbq; have hcq := (bcell hbq).1; (go_simp; first | done | rfl | exact ⟨rfl, rfl⟩)); (try go_simp))
    (apply rel_val; (rfl); (intro wq hbq; have hcq := (bcell hbq).1; (go_simp; first | done | rfl | exact ⟨rfl, rfl⟩)); (try go_simp))
    (apply rel_val; (rfl); (intro wq hbq; have hcq := (bcell hbq).1; (go_simp; first | done | rfl | exact ⟨rfl, rfl⟩)); (try go_simp))
    (apply rel_val; (rfl); (intro wq hbq; have hcq := (bcell hbq).1; (go_simp; first | done | rfl | exact ⟨rfl, rfl⟩)); (try go_simp))
    (apply rel_val; (rfl); (intro wq hbq; have hcq := (bcell hbq).1; (go_simp; first | done | rfl | exact ⟨rfl, rfl⟩)); (try go_simp))
    (apply rel_farith; (rfl); (rfl); (rfl); (rfl); (rfl); (assumption); (assumption); intro r hr hw; (try go_simp))
    (apply rel_call (RAny); (rfl); (intro wq hbq; (go_simp; first | done | rfl | exact ⟨rfl, rfl⟩)); (intro wq hbq; exact iWrap_any _ _); (try go_simp))
    rintro v ⟨r1, rfl⟩
    (apply rel_of (RPA); rotate_left; (rfl); (intro wq hbq; have hcq := (bcell hbq).1; (go_simp; first | done | rfl | exact ⟨rfl, rfl⟩)); rotate_right; (exact ⟨_, _, rfl⟩); (try go_simp))
    rintro v ⟨a, b, rfl⟩
    (apply rel_val; (rfl); (intro wq hbq; have hcq := (bcell hbq).1; (go_simp; first | done | rfl | exact ⟨rfl, rfl⟩)); (try go_simp))
    (apply rel_call (RV (.bool (vplace X Y))); (rfl); (intro wq hbq; (go_simp; first | done | rfl | exact ⟨rfl, rfl⟩)); (intro wq hbq; exact iValidPlace_c _ _ _ _ hx hy _); (try go_simp))
    rintro v rfl
    (apply rel_call (RP (RPl 0 0) (RV (.bool false))); (rfl); (intro wq hbq; (go_simp; first | done | rfl | exact ⟨rfl, rfl⟩)); (intro wq hbq; exact valid_no _ _ _); (try go_simp))
    rintro v ⟨p, q, rfl, hp, rfl⟩
    (apply rel_of (RPl 0 0); rotate_left; (rfl); (intro wq hbq; have hcq := (bcell hbq).1; (go_simp; first | done | rfl | exact ⟨rfl, rfl⟩)); rotate_right; (exact hp); (try go_simp))
    rintro u ⟨a', b', rfl, h1⟩
    (apply rel_val; (rfl); (intro wq hbq; have hcq := (bcell hbq).1; (go_simp; first | done | rfl | exact ⟨rfl, rfl⟩)); (try go_simp))
    (refine wpRel_nil ?_; refine hKL _ _ ?_; clear hKL hopsL opsL KL; intro w1 hb hnews; obtain ⟨hc, hfz⟩ := bcell hb; (try simp only [World.heap_drewN] at hc hfz); have hz : w.heap.size + 2 ≤ w1.heap.size := (by (have hz_ := hb.size; (try simp at hz_); omega)); have hz0 : w.heap.size < w1.heap.size := (by omega); have hz1 : w.heap.size + 1 < w1.heap.size := (by omega); (dsimp only [List.drop]))
    go_wp2
    refine bodyPost_ret (v := .tuple #[.agg #[.float .f32 a', .float .f32 b'], .bool false]) (by simp [results, Try.results23, go_sem, *] <;> (first | rfl | exact ⟨rfl, rfl⟩ | exact ⟨rfl, rfl, rfl⟩ | exact ⟨rfl, rfl, rfl, rfl⟩)) rfl ?_
    exact ⟨⟨_, rfl, _, _, rfl, ⟨_, _, rfl, h1⟩, rfl⟩, by (with_reducible repeat (first | exact Below.refl _ _ | apply below_alloc | apply below_dN | apply below_d | refine below_setCell ?_ (by dsimp only; omega) | refine below_call (by assumption) ?_))⟩
  · obtain ⟨hin, hval⟩ := opp_valid hv
    go_enter Try.func23, Try.ntmps23
    go_wp2
    (apply region_looseK (k := 13); (kernel_rfl); (kernel_rfl); intro opsL KL hopsL hKL; (dsimp only [List.take]))
    (apply rel_val; (rfl); (intro wq hbq; have hcq := (bcell hbq).1; (go_simp; first | done | rfl | exact ⟨rfl, rfl⟩)); (try go_simp))
    (apply rel_val; (rfl); (intro wq hbq; have hcq := (bcell hbq).1; (go_simp; first | done | rfl | exact ⟨rfl, rfl⟩)); (try go_simp))
    (apply rel_val; (rfl); (intro wq hbq; have hcq := (bcell hbq).1; (go_simp; first | done | rfl | exact ⟨rfl, rfl⟩)); (try go_simp))
    (apply rel_val; (rfl); (intro wq hbq; have hcq := (bcell hbq).1; (go_simp; first | done | rfl | exact ⟨rfl, rfl⟩)); (try go_simp))
    (apply rel_val; (rfl); (intro wq hbq; have hcq := (bcell hbq).1; (go_simp; first | done | rfl | exact ⟨rfl, rfl⟩)); (try go_simp))
    (apply rel_farith; (rfl); (rfl); (rfl); (rfl); (rfl); (assumption); (assumption); intro r hr hw; (try go_simp))
    (apply rel_call (RF .f32 (Wrap (fop .add .f32 Y 1056964608))); (rfl); (intro wq hbq; (go_simp; first | done | rfl | exact ⟨rfl, rfl⟩)); (intro wq hbq; exact iWrap_c _ _ hr hin _); (try go_simp))
    rintro v ⟨r1, rfl, hr1, hw1⟩
    (apply rel_of (RPl (fneg .f32 X) (Wrap (fop .add .f32 Y 1056964608))); rotate_left; (rfl); (intro wq hbq; have hcq := (bcell hbq).1; (go_simp; first | done | rfl | exact ⟨rfl, rfl⟩)); rotate_right; (exact ⟨_, _, rfl, hng, hr1⟩); (try go_simp))
    rintro v ⟨a, b, rfl, ha, hb⟩
    (apply rel_val; (rfl); (intro wq hbq; have hcq := (bcell hbq).1; (go_simp; first | done | rfl | exact ⟨rfl, rfl⟩)); (try go_simp))
    (apply rel_call (RV (.bool (vplace X Y))); (rfl); (intro wq hbq; (go_simp; first | done | rfl | exact ⟨rfl, rfl⟩)); (intro wq hbq; exact iValidPlace_c _ _ _ _ hx hy _); (try go_simp))
    rintro v rfl
    (apply rel_call (RP (RPl _ _) (RV (.bool true))); (rfl); (intro wq hbq; (go_simp; first | done | rfl | exact ⟨rfl, rfl⟩)); (intro wq hbq; exact valid_yes _ _ _ _ ha hb hval _); (try go_simp))
    rintro v ⟨p, q, rfl, hp, rfl⟩
    (apply rel_of (RPl _ _); rotate_left; (rfl); (intro wq hbq; have hcq := (bcell hbq).1; (go_simp; first | done | rfl | exact ⟨rfl, rfl⟩)); rotate_right; (exact hp); (try go_simp))
    rintro u ⟨a', b', rfl, h1⟩
    (apply rel_val; (rfl); (intro wq hbq; have hcq := (bcell hbq).1; (go_simp; first | done | rfl | exact ⟨rfl, rfl⟩)); (try go_simp))
    (refine wpRel_nil ?_; refine hKL _ _ ?_; clear hKL hopsL opsL KL; intro w1 hb hnews; obtain ⟨hc, hfz⟩ := bcell hb; (try simp only [World.heap_drewN] at hc hfz); have hz : w.heap.size + 2 ≤ w1.heap.size := (by (have hz_ := hb.size; (try simp at hz_); omega)); have hz0 : w.heap.size < w1.heap.size := (by omega); have hz1 : w.heap.size + 1 < w1.heap.size := (by omega); (dsimp only [List.drop]))
    go_wp2
    refine bodyPost_ret (v := .tuple #[.agg #[.float .f32 a', .float .f32 b'], .bool true]) (by simp [results, Try.results23, go_sem, *] <;> (first | rfl | exact ⟨rfl, rfl⟩ | exact ⟨rfl, rfl, rfl⟩ | exact ⟨rfl, rfl, rfl, rfl⟩)) rfl ?_
    exact ⟨⟨_, rfl, _, _, rfl, ⟨_, _, rfl, h1⟩, rfl⟩, by (with_reducible repeat (first | exact Below.refl _ _ | apply below_alloc | apply below_dN | apply below_d | refine below_setCell ?_ (by dsimp only; omega) | refine below_call (by assumption) ?_))⟩

set_option maxHeartbeats 1000000 in
theorem sOpp_c (x y X Y : Nat) (hx : cn .f32 x = X) (hy : cn .f32 y = Y) (w : World) : Calls Try.prog 22 #[.agg #[.float .f32 x, .float .f32 y]] w (Ret (oppRes X Y) w) := by
  have hng : cn .f32 (Op.negFloat .f32 x) = fneg .f32 X := by rw [cn_neg, hx]
  have hh := cnc_f32_1056964608
  unfold oppRes
  cases hv : vplace X Y
  · go_enter Try.func22, Try.ntmps22
    go_wp2_with (go_at_call 55; refine (l02Is_c x y _ _ _ _ hx hy _ (by simp) (by simp)).mono ?_; rintro e w' ⟨rfl, rfl⟩)
    refine bodyPost_ret (v := .tuple #[.agg #[.float .f32 0, .float .f32 0], .bool false]) (by simp [results, Try.results22, go_sem, *] <;> (first | rfl | exact ⟨rfl, rfl⟩ | exact ⟨rfl, rfl, rfl⟩ | exact ⟨rfl, rfl, rfl, rfl⟩)) rfl ?_
    exact ⟨⟨_, rfl, _, _, rfl, ⟨0, 0, rfl, by simp [gd]⟩, rfl⟩, by (with_reducible repeat (first | exact Below.refl _ _ | apply below_alloc | apply below_dN | apply below_d | refine below_setCell ?_ (by dsimp only; omega) | refine below_call (by assumption) ?_))⟩
  · obtain ⟨hin, hval⟩ := opp_valid hv
    go_enter Try.func22, Try.ntmps22
    go_wp2_with (go_at_call 55; refine (l02Is_c x y _ _ _ _ hx hy _ (by simp) (by simp)).mono ?_; rintro e w' ⟨rfl, rfl⟩)
    (apply region_looseK (k := 8); (kernel_rfl); (kernel_rfl); intro opsL KL hopsL hKL; (dsimp only [List.take]))
    (apply rel_val; (rfl); (intro wq hbq; have hcq := (bcell hbq).1; (go_simp; first | done | rfl | exact ⟨rfl, rfl⟩)); (try go_simp))
    (apply rel_val; (rfl); (intro wq hbq; have hcq := (bcell hbq).1; (go_simp; first | done | rfl | exact ⟨rfl, rfl⟩)); (try go_simp))
    (apply rel_val; (rfl); (intro wq hbq; have hcq := (bcell hbq).1; (go_simp; first | done | rfl | exact ⟨rfl, rfl⟩)); (try go_simp))
    (apply rel_val; (rfl); (intro wq hbq; have hcq := (bcell hbq).1; (go_simp; first | done | rfl | exact ⟨rfl, rfl⟩)); (try go_simp))
    (apply rel_val; (rfl); (intro wq hbq; have hcq := (bcell hbq).1; (go_simp; first | done | rfl | exact ⟨rfl, rfl⟩)); (try go_simp))
    (apply rel_farith; (rfl); (rfl); (rfl); (rfl); (rfl); (assumption); (assumption); intro r hr hw; (try go_simp))
    (apply rel_call (RF .f32 (Wrap (fop .add .f32 Y 1056964608))); (rfl); (intro wq hbq; (go_simp; first | done | rfl | exact ⟨rfl, rfl⟩)); (intro wq hbq; exact sWrap_c _ _ hr hin _); (try go_simp))
    rintro v ⟨r1, rfl, hr1, hw1⟩
    (apply rel_of (RPl (fneg .f32 X) (Wrap (fop .add .f32 Y 1056964608))); rotate_left; (rfl); (intro wq hbq; have hcq := (bcell hbq).1; (go_simp; first | done | rfl | exact ⟨rfl, rfl⟩)); rotate_right; (exact ⟨_, _, rfl, hng, hr1⟩); (try go_simp))
    rintro v ⟨a, b, rfl, ha, hb⟩
    (refine wpRel_nil ?_; refine hKL _ _ ?_; clear hKL hopsL opsL KL; intro w1 hb hnews; obtain ⟨hc, hfz⟩ := bcell hb; (try simp only [World.heap_drewN] at hc hfz); have hz : w.heap.size + 2 ≤ w1.heap.size := (by (have hz_ := hb.size; (try simp at hz_); omega)); have hz0 : w.heap.size < w1.heap.size := (by omega); have hz1 : w.heap.size + 1 < w1.heap.size := (by omega); (dsimp only [List.drop]))
    go_wp2
    refine bodyPost_ret (v := .tuple #[.agg #[.float .f32 a, .float .f32 b], .bool true]) (by simp [results, Try.results22, go_sem, *] <;> (first | rfl | exact ⟨rfl, rfl⟩ | exact ⟨rfl, rfl, rfl⟩ | exact ⟨rfl, rfl, rfl, rfl⟩)) rfl ?_
    exact ⟨⟨_, rfl, _, _, rfl, ⟨_, _, rfl, by simpa [gd] using ha, by simp [gd]; assumption⟩, rfl⟩, by (with_reducible repeat (first | exact Below.refl _ _ | apply below_alloc | apply below_dN | apply below_d | refine below_setCell ?_ (by dsimp only; omega) | refine below_call (by assumption) ?_))⟩

set_option maxHeartbeats 1000000 in
theorem lawOppositeOf (x y : Nat) (w : World) : Calls Try.prog 5 #[.agg #[.float .f32 x, .float .f32 y]] w fun e w' => e = .returned (.bool true) ∧ Below w.heap.size w w' := by
  obtain ⟨X, hx⟩ : ∃ X, cn .f32 x = X := ⟨_, rfl⟩
  obtain ⟨Y, hy⟩ : ∃ Y, cn .f32 y = Y := ⟨_, rfl⟩
  go_enter Try.func5, Try.ntmps5
  go_wp2_with (first | (go_at_call 20; ((with_reducible refine (toPlace_any _ _ _).mono ?_); rintro e w1 ⟨rfl, hb⟩); have hu2 : ∀ n : Nat, n < n + 1 + 1 := (fun n => by omega); have hu3 : ∀ n : Nat, n < n + 1 + 1 + 1 := (fun n => by omega); obtain ⟨hc, hfz⟩ := bcell hb; (try simp only [World.heap_drewN] at hc hfz); have hs_ := hb.size; (try simp at hs_); (try have hz0 : w.heap.size < w1.heap.size := (by omega)); (try have hz1 : w.heap.size + 1 < w1.heap.size := (by omega)); (try have hz2 : w.heap.size + 2 < w1.heap.size := (by omega)); (try have hz3 : w.heap.size + 3 < w1.heap.size := (by omega)); (try have hza : wa.heap.size < w1.heap.size := (by omega)); (try have hza1 : wa.heap.size + 1 < w1.heap.size := (by omega)); (try have hzb : wb.heap.size < w1.heap.size := (by omega)); (try have hzb1 : wb.heap.size + 1 < w1.heap.size := (by omega)); (try have hzc : wc.heap.size < w1.heap.size := (by omega)); (try have hzd : wd.heap.size < w1.heap.size := (by omega))) | (go_at_call 22; ((with_reducible refine (sOpp_c _ _ _ _ hx hy _).mono ?_); rintro e wa ⟨⟨v, rfl, ⟨p, q, rfl, ⟨a, b, rfl, p1, p2⟩, rfl⟩⟩, hb⟩); have hu2 : ∀ n : Nat, n < n + 1 + 1 := (fun n => by omega); have hu3 : ∀ n : Nat, n < n + 1 + 1 + 1 := (fun n => by omega); obtain ⟨hc, hfz⟩ := bcell hb; (try simp only [World.heap_drewN] at hc hfz); have hs_ := hb.size; (try simp at hs_); (try have hz0 : w.heap.size < wa.heap.size := (by omega)); (try have hz1 : w.heap.size + 1 < wa.heap.size := (by omega)); (try have hz2 : w.heap.size + 2 < wa.heap.size := (by omega)); (try have hz3 : w.heap.size + 3 < wa.heap.size := (by omega)); (try have hza : wa.heap.size < wa.heap.size := (by omega)); (try have hza1 : wa.heap.size + 1 < wa.heap.size := (by omega)); (try have hzb : wb.heap.size < wa.heap.size := (by omega)); (try have hzb1 : wb.heap.size + 1 < wa.heap.size := (by omega)); (try have hzc : wc.heap.size < wa.heap.size := (by omega)); (try have hzd : wd.heap.size < wa.heap.size := (by omega))) | (go_at_call 23; ((with_reducible refine (iOpp_c _ _ _ _ hx hy _).mono ?_); rintro e wb ⟨⟨v, rfl, ⟨p, q, rfl, ⟨a', b', rfl, q1, q2⟩, rfl⟩⟩, hb⟩); have hu2 : ∀ n : Nat, n < n + 1 + 1 := (fun n => by omega); have hu3 : ∀ n : Nat, n < n + 1 + 1 + 1 := (fun n => by omega); obtain ⟨hc, hfz⟩ := bcell hb; (try simp only [World.heap_drewN] at hc hfz); have hs_ := hb.size; (try simp at hs_); (try have hz0 : w.heap.size < wb.heap.size := (by omega)); (try have hz1 : w.heap.size + 1 < wb.heap.size := (by omega)); (try have hz2 : w.heap.size + 2 < wb.heap.size := (by omega)); (try have hz3 : w.heap.size + 3 < wb.heap.size := (by omega)); (try have hza : wa.heap.size < wb.heap.size := (by omega)); (try have hza1 : wa.heap.size + 1 < wb.heap.size := (by omega)); (try have hzb : wb.heap.size < wb.heap.size := (by omega)); (try have hzb1 : wb.heap.size + 1 < wb.heap.size := (by omega)); (try have hzc : wc.heap.size < wb.heap.size := (by omega)); (try have hzd : wd.heap.size < wb.heap.size := (by omega))) | (go_at_call 24; ((with_reducible refine (eqPlace_c _ _ _ _ _ _ q1 q2 p1 p2 _).mono ?_); rintro e w1 ⟨⟨v, rfl, rfl⟩, hb⟩); have hu2 : ∀ n : Nat, n < n + 1 + 1 := (fun n => by omega); have hu3 : ∀ n : Nat, n < n + 1 + 1 + 1 := (fun n => by omega); obtain ⟨hc, hfz⟩ := bcell hb; (try simp only [World.heap_drewN] at hc hfz); have hs_ := hb.size; (try simp at hs_); (try have hz0 : w.heap.size < w1.heap.size := (by omega)); (try have hz1 : w.heap.size + 1 < w1.heap.size := (by omega)); (try have hz2 : w.heap.size + 2 < w1.heap.size := (by omega)); (try have hz3 : w.heap.size + 3 < w1.heap.size := (by omega)); (try have hza : wa.heap.size < w1.heap.size := (by omega)); (try have hza1 : wa.heap.size + 1 < w1.heap.size := (by omega)); (try have hzb : wb.heap.size < w1.heap.size := (by omega)); (try have hzb1 : wb.heap.size + 1 < w1.heap.size := (by omega)); (try have hzc : wc.heap.size < w1.heap.size := (by omega)); (try have hzd : wd.heap.size < w1.heap.size := (by omega))))
  go_ret
  exact ⟨rfl, by (with_reducible repeat (first | exact Below.refl _ _ | apply below_alloc | apply below_dN | apply below_d | refine below_setCell ?_ (by dsimp only; omega) | refine below_call (by assumption) ?_))⟩
end Go.Proofs.Ytiaebemlcjjjhaa
