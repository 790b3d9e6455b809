/- Contracts of the way to a place. No condition. -/
import Derived.Test.YtiaebemlcjjjhaaPl
namespace Go.Proofs.Ytiaebemlcjjjhaa
open Go.RowKit
set_option linter.unusedSimpArgs false

def WayX (x y : Nat) : Nat := fop .mul .f32 (Cos x) (Cos y)
def WayY (x y : Nat) : Nat := fop .mul .f32 (Cos x) (SinT y)
/-- The way to a place. -/
def RWay (x y z : Nat) (v : Value) : Prop := ∃ a b c, v = .agg #[.float .f32 a, .float .f32 b, .float .f32 c] ∧ (cn .f32 a = x ∧ cn .f32 b = y ∧ cn .f32 c = z) ∧ okf .f32 a ∧ okf .f32 b ∧ okf .f32 c

set_option maxHeartbeats 1000000 in
theorem iWay_c (x y X Y : Nat) (hx : cn .f32 x = X) (hy : cn .f32 y = Y) (w : World) : Calls Try.prog 64 #[.agg #[.float .f32 x, .float .f32 y]] w (Ret (RWay (WayX X Y) (WayY X Y) (SinT X)) w) := by
  go_enter Try.func64, Try.ntmps64
  go_wp2_with (first | (go_at_call 94; ((with_reducible refine (iCos_c _ _ hx _).mono ?_); rintro e w1 ⟨⟨v, rfl, r, rfl, hr, hw⟩, hb⟩); obtain ⟨hc, hfz⟩ := bcell hb; (try simp only [World.heap_drewN] at hc hfz); have hz : w.heap.size + 2 ≤ w1.heap.size := (by (have hz_ := hb.size; (try simp at hz_); omega)); have hz0 : w.heap.size < w1.heap.size := (by omega); have hz1 : w.heap.size + 1 < w1.heap.size := (by omega)))
  (apply region_looseK (k := 14); (kernel_rfl); (kernel_rfl); intro opsL KL hopsL hKL; (dsimp only [List.take]))
  (apply rel_val; (rfl); (intro wq hbq; have hcq := (bcell hbq).1; (go_simp; first | done | rfl | exact ⟨rfl, rfl⟩)); (try go_simp))
  (apply rel_val; (rfl); (intro wq hbq; have hcq := (bcell hbq).1; (go_simp; first | done | rfl | exact ⟨rfl, rfl⟩)); (try go_simp))
  (apply rel_val; (rfl); (intro wq hbq; have hcq := (bcell hbq).1; (go_simp; first | done | rfl | exact ⟨rfl, rfl⟩)); (try go_simp))
  (apply rel_call (RF .f32 (Cos Y)); (rfl); (intro wq hbq; (go_simp; first | done | rfl | exact ⟨rfl, rfl⟩)); (intro wq hbq; exact iCos_c _ _ hy _); (try go_simp))
  rintro v ⟨r1, rfl, hr1, hw1⟩
  (apply rel_farith; (rfl); (rfl); (rfl); (rfl); (rfl); (assumption); (assumption); intro r hr hw; (try go_simp))
  (apply rel_val; (rfl); (intro wq hbq; have hcq := (bcell hbq).1; (go_simp; first | done | rfl | exact ⟨rfl, rfl⟩)); (try go_simp))
  (apply rel_val; (rfl); (intro wq hbq; have hcq := (bcell hbq).1; (go_simp; first | done | rfl | exact ⟨rfl, rfl⟩)); (try go_simp))
  (apply rel_val; (rfl); (intro wq hbq; have hcq := (bcell hbq).1; (go_simp; first | done | rfl | exact ⟨rfl, rfl⟩)); (try go_simp))
  (apply rel_call (RF .f32 (SinT Y)); (rfl); (intro wq hbq; (go_simp; first | done | rfl | exact ⟨rfl, rfl⟩)); (intro wq hbq; exact sineT_c _ _ hy _); (try go_simp))
  rintro v ⟨r2, rfl, hr2, hw2⟩
  (apply rel_farith; (rfl); (rfl); (rfl); (rfl); (rfl); (assumption); (assumption); intro r hr hw; (try go_simp))
  (apply rel_val; (rfl); (intro wq hbq; have hcq := (bcell hbq).1; (go_simp; first | done | rfl | exact ⟨rfl, rfl⟩)); (try go_simp))
  (apply rel_val; (rfl); (intro wq hbq; have hcq := (bcell hbq).1; (go_simp; first | done | rfl | exact ⟨rfl, rfl⟩)); (try go_simp))
  (apply rel_call (RF .f32 (SinT X)); (rfl); (intro wq hbq; (go_simp; first | done | rfl | exact ⟨rfl, rfl⟩)); (intro wq hbq; exact sineT_c _ _ hx _); (try go_simp))
  rintro v ⟨r3, rfl, hr3, hw3⟩
  (apply rel_of (RWay _ _ _); rotate_left; (rfl); (intro wq hbq; have hcq := (bcell hbq).1; (go_simp; first | done | rfl | exact ⟨rfl, rfl⟩)); rotate_right; (exact ⟨_, _, _, rfl, ⟨by assumption, by assumption, by assumption⟩, by assumption, by assumption, by assumption⟩); (try go_simp))
  rintro v ⟨a, b, c, rfl, ⟨e1, e2, e3⟩, f1, f2, f3⟩
  (refine wpRel_nil ?_; refine hKL _ _ ?_; clear hKL hopsL opsL KL; intro w1 hb hnews; obtain ⟨hc, hfz⟩ := bcell hb; (try simp only [World.heap_drewN] at hc hfz); have hz : w.heap.size + 2 ≤ w1.heap.size := (by (have hz_ := hb.size; (try simp at hz_); omega)); have hz0 : w.heap.size < w1.heap.size := (by omega); have hz1 : w.heap.size + 1 < w1.heap.size := (by omega); (dsimp only [List.drop]))
  go_wp2
  refine bodyPost_ret (v := .agg #[.float .f32 a, .float .f32 b, .float .f32 c]) (by simp [results, Try.results64, go_sem, *] <;> (first | rfl | exact ⟨rfl, rfl⟩ | exact ⟨rfl, rfl, rfl⟩ | exact ⟨rfl, rfl, rfl, rfl⟩)) rfl ?_
  exact ⟨⟨_, rfl, a, b, c, rfl, ⟨by rw [e1]; simp only [WayX, *], by rw [e2]; simp only [WayY, *], e3⟩, f1, f2, f3⟩, by (with_reducible repeat (first | exact Below.refl _ _ | apply below_alloc | apply below_dN | apply below_d | refine below_setCell ?_ (by dsimp only; omega) | refine below_call (by assumption) ?_))⟩

set_option maxHeartbeats 1000000 in
theorem l02Way_c (x y X Y : Nat) (hx : cn .f32 x = X) (hy : cn .f32 y = Y) (w : World) : Calls Try.prog 62 #[.agg #[.float .f32 x, .float .f32 y]] w (Ret (RWay (WayX X Y) (WayY X Y) (SinT X)) w) := by
  go_enter Try.func62, Try.ntmps62
  go_wp2_with (first | (go_at_call 91; ((with_reducible refine (sCos_c _ _ (by assumption) _).mono ?_); rintro e w1 ⟨⟨v, rfl, r, rfl, hr, hw⟩, hb⟩); obtain ⟨hc, hfz⟩ := bcell hb; (try simp only [World.heap_drewN] at hc hfz); have hz : w.heap.size + 2 ≤ w1.heap.size := (by (have hz_ := hb.size; (try simp at hz_); omega)); have hz0 : w.heap.size < w1.heap.size := (by omega); have hz1 : w.heap.size + 1 < w1.heap.size := (by omega)) | (go_at_call 92; ((with_reducible refine (sSine_c _ _ (by assumption) _).mono ?_); rintro e w1 ⟨⟨v, rfl, r, rfl, hr, hw⟩, hb⟩); obtain ⟨hc, hfz⟩ := bcell hb; (try simp only [World.heap_drewN] at hc hfz); have hz : w.heap.size + 2 ≤ w1.heap.size := (by (have hz_ := hb.size; (try simp at hz_); omega)); have hz0 : w.heap.size < w1.heap.size := (by omega); have hz1 : w.heap.size + 1 < w1.heap.size := (by omega)) | (refine wpL_farith rfl _ _ _ _ _ rfl rfl _ _ _ rfl rfl ?_; intro r n hr hw))
  refine bodyPost_ret (v := .agg #[.float .f32 _, .float .f32 _, .float .f32 _]) (by simp [results, Try.results62, go_sem, *] <;> (first | rfl | exact ⟨rfl, rfl⟩ | exact ⟨rfl, rfl, rfl⟩ | exact ⟨rfl, rfl, rfl, rfl⟩)) rfl ?_
  exact ⟨⟨_, rfl, _, _, _, rfl, ⟨by simp only [WayX, *], by simp only [WayY, *], by assumption⟩, okf_of (by assumption), okf_of (by assumption), by assumption⟩, by (with_reducible repeat (first | exact Below.refl _ _ | apply below_alloc | apply below_dN | apply below_d | refine below_setCell ?_ (by dsimp only; omega) | refine below_call (by assumption) ?_))⟩

set_option maxHeartbeats 1000000 in
theorem isWay_c (x y z X Y Z : Nat) (hx : cn .f32 x = X) (hy : cn .f32 y = Y) (hz : cn .f32 z = Z) (w : World) : Calls Try.prog 93 #[.agg #[.float .f32 x, .float .f32 y, .float .f32 z]] w (Ret (RV (.bool (fin .f32 X && (fin .f32 Y && fin .f32 Z)))) w) := by
  go_enter Try.func93, Try.ntmps93
  go_wp2_with (first | (go_at_call 106; ((with_reducible refine (areFinite3_c _ _ _ _ _ _ _ _ _ (by simp) (by simp) (by simp) (by simp) hx hy hz).mono ?_); rintro e w1 ⟨⟨v, rfl, rfl⟩, hb⟩)))
  go_ret
  exact ⟨⟨_, rfl, rfl⟩, by (with_reducible repeat (first | exact Below.refl _ _ | apply below_alloc | apply below_dN | apply below_d | refine below_setCell ?_ (by dsimp only; omega) | refine below_call (by assumption) ?_))⟩

set_option maxHeartbeats 1000000 in
theorem finiteWay_c (x y z X Y Z : Nat) (ok : Bool) (hx : cn .f32 x = X) (hy : cn .f32 y = Y) (hz : cn .f32 z = Z) (w : World) (hok : ok = true → (fin .f32 X && (fin .f32 Y && fin .f32 Z)) = true)  (f1 : okf .f32 x) (f2 : okf .f32 y) (f3 : okf .f32 z) :
    Calls Try.prog 63 #[.agg #[.float .f32 x, .float .f32 y, .float .f32 z], .bool ok] w (Ret (RP (RWay (gd ok X) (gd ok Y) (gd ok Z)) (RV (.bool ok))) w) := by
  cases ok
  · clear hok
    go_enter Try.func63, Try.ntmps63
    go_wp2
    refine bodyPost_ret (v := .tuple #[.agg #[.float .f32 0, .float .f32 0, .float .f32 0], .bool false]) (by simp [results, Try.results63, go_sem, *] <;> (first | rfl | exact ⟨rfl, rfl⟩ | exact ⟨rfl, rfl, rfl⟩ | exact ⟨rfl, rfl, rfl, rfl⟩)) rfl ?_
    exact ⟨⟨_, rfl, _, _, rfl, ⟨0, 0, 0, rfl, by simp [gd], okf_of (by decide), okf_of (by decide), okf_of (by decide)⟩, rfl⟩, by (with_reducible repeat (first | exact Below.refl _ _ | apply below_alloc | apply below_dN | apply below_d | refine below_setCell ?_ (by dsimp only; omega) | refine below_call (by assumption) ?_))⟩
  · have hok := hok rfl
    go_enter Try.func63, Try.ntmps63
    go_wp2_with (first | (go_at_call 93; ((with_reducible refine (isWay_c _ _ _ _ _ _ hx hy hz _).mono ?_); rintro e w1 ⟨⟨v, rfl, rfl⟩, hb⟩); obtain ⟨hc, hfz⟩ := bcell hb; (try simp only [World.heap_drewN] at hc hfz); have hz : w.heap.size + 2 ≤ w1.heap.size := (by (have hz_ := hb.size; (try simp at hz_); omega)); have hz0 : w.heap.size < w1.heap.size := (by omega); have hz1 : w.heap.size + 1 < w1.heap.size := (by omega)))
    refine bodyPost_ret (v := .tuple #[.agg #[.float .f32 x, .float .f32 y, .float .f32 z], .bool true]) (by simp [results, Try.results63, go_sem, *] <;> (first | rfl | exact ⟨rfl, rfl⟩ | exact ⟨rfl, rfl, rfl⟩ | exact ⟨rfl, rfl, rfl, rfl⟩)) rfl ?_
    exact ⟨⟨_, rfl, _, _, rfl, ⟨x, y, z, rfl, ⟨by simpa [gd] using hx, by simpa [gd] using hy, by simpa [gd]⟩, f1, f2, f3⟩, rfl⟩, by (with_reducible repeat (first | exact Below.refl _ _ | apply below_alloc | apply below_dN | apply below_d | refine below_setCell ?_ (by dsimp only; omega) | refine below_call (by assumption) ?_))⟩
end Go.Proofs.Ytiaebemlcjjjhaa