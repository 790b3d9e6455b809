/- Contracts of WayOf in both spellings; its law. No condition. -/
import Derived.Test.YtiaebemlcjjjhaaWayN
namespace Go.Proofs.Ytiaebemlcjjjhaa
open Go.RowKit
set_option linter.unusedSimpArgs false

def wayRes (X Y : Nat) : Value → Prop := RP (RWay (gd (vplace X Y) (WayX X Y)) (gd (vplace X Y) (WayY X Y)) (gd (vplace X Y) (SinT X))) (RV (.bool (vplace X Y)))

set_option maxHeartbeats 1000000 in
theorem iWayOf_c (x y X Y : Nat) (hx : cn .f32 x = X) (hy : cn .f32 y = Y) (w : World) : Calls Try.prog 26 #[.agg #[.float .f32 x, .float .f32 y]] w (Ret (wayRes X Y) w) := by
  have hfin : vplace X Y = true → _ := way_fin (x := X) (y := Y)
  have HF := Lib.hid hfin
  clear hfin
  go_enter Try.func26, Try.ntmps26
  go_wp2
  (apply region_looseK (k := 7); (kernel_rfl); (kernel_rfl); intro opsL KL hopsL hKL; (dsimp only [List.take]))
  (apply rel_val; (rfl); (intro wq hbq; have hcq := (bcell hbq).1; (go_simp; first | done | rfl | exact ⟨rfl, rfl⟩)); (try go_simp))
  (apply rel_call (RWay _ _ _); (rfl); (intro wq hbq; (go_simp; first | done | rfl | exact ⟨rfl, rfl⟩)); (intro wq hbq; exact iWay_c _ _ _ _ hx hy _); (try go_simp))
  rintro v ⟨a, b, c, rfl, ⟨e1, e2, e3⟩, f1, f2, f3⟩
  (apply rel_val; (rfl); (intro wq hbq; have hcq := (bcell hbq).1; (go_simp; first | done | rfl | exact ⟨rfl, rfl⟩)); (try go_simp))
  (apply rel_call (RV (.bool (vplace X Y))); (rfl); (intro wq hbq; (go_simp; first | done | rfl | exact ⟨rfl, rfl⟩)); (intro wq hbq; exact iValidPlace_c _ _ _ _ hx hy _); (try go_simp))
  rintro v rfl
  (apply rel_call (wayRes X Y); (rfl); (intro wq hbq; (go_simp; first | done | rfl | exact ⟨rfl, rfl⟩)); (intro wq hbq; exact finiteWay_c _ _ _ _ _ _ _ e1 e2 e3 _ HF.out f1 f2 f3); (try go_simp))
  rintro v ⟨p, q, rfl, hp, rfl⟩
  (apply rel_of (RWay _ _ _); rotate_left; (rfl); (intro wq hbq; have hcq := (bcell hbq).1; (go_simp; first | done | rfl | exact ⟨rfl, rfl⟩)); rotate_right; (exact hp); (try go_simp))
  rintro u ⟨a', b', c', rfl, h1, h2⟩
  (apply rel_val; (rfl); (intro wq hbq; have hcq := (bcell hbq).1; (go_simp; first | done | rfl | exact ⟨rfl, rfl⟩)); (try go_simp))
  (refine wpRel_nil ?_; refine hKL _ _ ?_; clear hKL hopsL opsL KL; intro w1 hb hnews; obtain ⟨hc, hfz⟩ := bcell hb; (try simp only [World.heap_drewN] at hc hfz); have hz : w.heap.size + 2 ≤ w1.heap.size := (by (have hz_ := hb.size; (try simp at hz_); omega)); have hz0 : w.heap.size < w1.heap.size := (by omega); have hz1 : w.heap.size + 1 < w1.heap.size := (by omega); (dsimp only [List.drop]))
  go_wp2
  refine bodyPost_ret (v := .tuple #[.agg #[.float .f32 a', .float .f32 b', .float .f32 c'], .bool (vplace X Y)]) (by simp [results, Try.results26, go_sem, *] <;> (first | rfl | exact ⟨rfl, rfl⟩ | exact ⟨rfl, rfl, rfl⟩ | exact ⟨rfl, rfl, rfl, rfl⟩)) rfl ?_
  exact ⟨⟨_, rfl, _, _, rfl, ⟨_, _, _, rfl, h1, h2⟩, rfl⟩, by (with_reducible repeat (first | exact Below.refl _ _ | apply below_alloc | apply below_dN | apply below_d | refine below_setCell ?_ (by dsimp only; omega) | refine below_call (by assumption) ?_))⟩

set_option maxHeartbeats 1000000 in
theorem sWayOf_c (x y X Y : Nat) (hx : cn .f32 x = X) (hy : cn .f32 y = Y) (w : World) : Calls Try.prog 25 #[.agg #[.float .f32 x, .float .f32 y]] w (Ret (wayRes X Y) w) := by
  unfold wayRes
  cases hv : vplace X Y
  · go_enter Try.func25, Try.ntmps25
    go_wp2_with (go_at_call 55; refine (l02Is_c x y _ _ _ _ hx hy _ (by simp) (by simp)).mono ?_; rintro e w' ⟨rfl, rfl⟩)
    refine bodyPost_ret (v := .tuple #[.agg #[.float .f32 0, .float .f32 0, .float .f32 0], .bool false]) (by simp [results, Try.results25, go_sem, *] <;> (first | rfl | exact ⟨rfl, rfl⟩ | exact ⟨rfl, rfl, rfl⟩ | exact ⟨rfl, rfl, rfl, rfl⟩)) rfl ?_
    exact ⟨⟨_, rfl, _, _, rfl, ⟨0, 0, 0, rfl, by simp [gd], okf_of (by decide), okf_of (by decide), okf_of (by decide)⟩, rfl⟩, by (with_reducible repeat (first | exact Below.refl _ _ | apply below_alloc | apply below_dN | apply below_d | refine below_setCell ?_ (by dsimp only; omega) | refine below_call (by assumption) ?_))⟩
  · go_enter Try.func25, Try.ntmps25
    go_wp2_with (first | (go_at_call 55; refine (l02Is_c x y _ _ _ _ hx hy _ (by simp) (by simp)).mono ?_; rintro e w' ⟨rfl, rfl⟩) | (go_at_call 62; ((with_reducible refine (l02Way_c _ _ _ _ hx hy _).mono ?_); rintro e w1 ⟨⟨v, rfl, a, b, c, rfl, h1, h2⟩, hb⟩); obtain ⟨hc, hfz⟩ := bcell hb; have hz : w.heap.size + 2 ≤ w1.heap.size := (by (have hz_ := hb.size; (try simp at hz_); omega)); have hz0 : w.heap.size < w1.heap.size := (by omega); have hz1 : w.heap.size + 1 < w1.heap.size := (by omega)))
    refine bodyPost_ret (v := .tuple #[.agg #[.float .f32 _, .float .f32 _, .float .f32 _], .bool true]) (by simp [results, Try.results25, go_sem, *] <;> (first | rfl | exact ⟨rfl, rfl⟩ | exact ⟨rfl, rfl, rfl⟩ | exact ⟨rfl, rfl, rfl, rfl⟩)) rfl ?_
    exact ⟨⟨_, rfl, _, _, rfl, ⟨_, _, _, rfl, by simpa [gd] using h1, h2⟩, rfl⟩, by (with_reducible repeat (first | exact Below.refl _ _ | apply below_alloc | apply below_dN | apply below_d | refine below_setCell ?_ (by dsimp only; omega) | refine below_call (by assumption) ?_))⟩

set_option maxHeartbeats 1000000 in
theorem lawWayOf (x y : Nat) (w : World) : Calls Try.prog 6 #[.agg #[.float .f32 x, .float .f32 y]] w fun e w' => e = .returned (.bool true) ∧ Below w.heap.size w w' := by
  obtain ⟨X, hx⟩ : ∃ X, cn .f32 x = X := ⟨_, rfl⟩
  obtain ⟨Y, hy⟩ : ∃ Y, cn .f32 y = Y := ⟨_, rfl⟩
  go_enter Try.func6, Try.ntmps6
  go_wp2_with (first | (go_at_call 20; ((with_reducible refine (toPlace_any _ _ _).mono ?_); rintro e w1 ⟨rfl, hb⟩); obtain ⟨hc, hfz⟩ := bcell hb; (try simp only [World.heap_drewN] at hc hfz); have hs_ := hb.size; (try simp at hs_); (try have hz0 : w.heap.size < w1.heap.size := (by omega)); (try have hz1 : w.heap.size + 1 < w1.heap.size := (by omega)); (try have hz2 : w.heap.size + 2 < w1.heap.size := (by omega)); (try have hz3 : w.heap.size + 3 < w1.heap.size := (by omega)); (try have hza : wa.heap.size < w1.heap.size := (by omega)); (try have hza1 : wa.heap.size + 1 < w1.heap.size := (by omega)); (try have hzb : wb.heap.size < w1.heap.size := (by omega)); (try have hzb1 : wb.heap.size + 1 < w1.heap.size := (by omega)); (try have hzc : wc.heap.size < w1.heap.size := (by omega)); (try have hzd : wd.heap.size < w1.heap.size := (by omega))) | (go_at_call 25; ((with_reducible refine (sWayOf_c _ _ _ _ hx hy _).mono ?_); rintro e wa ⟨⟨v, rfl, ⟨p, q, rfl, ⟨a, b, c, rfl, ⟨p1, p2, p3⟩, p4⟩, rfl⟩⟩, hb⟩); obtain ⟨hc, hfz⟩ := bcell hb; (try simp only [World.heap_drewN] at hc hfz); have hs_ := hb.size; (try simp at hs_); (try have hz0 : w.heap.size < wa.heap.size := (by omega)); (try have hz1 : w.heap.size + 1 < wa.heap.size := (by omega)); (try have hz2 : w.heap.size + 2 < wa.heap.size := (by omega)); (try have hz3 : w.heap.size + 3 < wa.heap.size := (by omega)); (try have hza : wa.heap.size < wa.heap.size := (by omega)); (try have hza1 : wa.heap.size + 1 < wa.heap.size := (by omega)); (try have hzb : wb.heap.size < wa.heap.size := (by omega)); (try have hzb1 : wb.heap.size + 1 < wa.heap.size := (by omega)); (try have hzc : wc.heap.size < wa.heap.size := (by omega)); (try have hzd : wd.heap.size < wa.heap.size := (by omega))) | (go_at_call 26; ((with_reducible refine (iWayOf_c _ _ _ _ hx hy _).mono ?_); rintro e wb ⟨⟨v, rfl, ⟨p, q, rfl, ⟨a', b', c', rfl, ⟨q1, q2, q3⟩, q4⟩, rfl⟩⟩, hb⟩); obtain ⟨hc, hfz⟩ := bcell hb; (try simp only [World.heap_drewN] at hc hfz); have hs_ := hb.size; (try simp at hs_); (try have hz0 : w.heap.size < wb.heap.size := (by omega)); (try have hz1 : w.heap.size + 1 < wb.heap.size := (by omega)); (try have hz2 : w.heap.size + 2 < wb.heap.size := (by omega)); (try have hz3 : w.heap.size + 3 < wb.heap.size := (by omega)); (try have hza : wa.heap.size < wb.heap.size := (by omega)); (try have hza1 : wa.heap.size + 1 < wb.heap.size := (by omega)); (try have hzb : wb.heap.size < wb.heap.size := (by omega)); (try have hzb1 : wb.heap.size + 1 < wb.heap.size := (by omega)); (try have hzc : wc.heap.size < wb.heap.size := (by omega)); (try have hzd : wd.heap.size < wb.heap.size := (by omega))) | (go_at_call 27; ((with_reducible refine (eqWay_c _ _ _ _ _ _ _ _ _ q1 q2 q3 p1 p2 p3 _).mono ?_); rintro e w1 ⟨⟨v, rfl, rfl⟩, hb⟩); obtain ⟨hc, hfz⟩ := bcell hb; (try simp only [World.heap_drewN] at hc hfz); have hs_ := hb.size; (try simp at hs_); (try have hz0 : w.heap.size < w1.heap.size := (by omega)); (try have hz1 : w.heap.size + 1 < w1.heap.size := (by omega)); (try have hz2 : w.heap.size + 2 < w1.heap.size := (by omega)); (try have hz3 : w.heap.size + 3 < w1.heap.size := (by omega)); (try have hza : wa.heap.size < w1.heap.size := (by omega)); (try have hza1 : wa.heap.size + 1 < w1.heap.size := (by omega)); (try have hzb : wb.heap.size < w1.heap.size := (by omega)); (try have hzb1 : wb.heap.size + 1 < w1.heap.size := (by omega)); (try have hzc : wc.heap.size < w1.heap.size := (by omega)); (try have hzd : wd.heap.size < w1.heap.size := (by omega))))
  go_ret
  exact ⟨rfl, by (with_reducible repeat (first | exact Below.refl _ _ | apply below_alloc | apply below_dN | apply below_d | refine below_setCell ?_ (by dsimp only; omega) | refine below_call (by assumption) ?_))⟩
end Go.Proofs.Ytiaebemlcjjjhaa
