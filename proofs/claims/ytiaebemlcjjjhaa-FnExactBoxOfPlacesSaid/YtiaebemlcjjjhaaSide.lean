/- Contracts of SideOf in both spellings. No condition. -/
import Derived.Test.YtiaebemlcjjjhaaAre
namespace Go.Proofs.Ytiaebemlcjjjhaa
open Go.RowKit
set_option linter.unusedSimpArgs false

/-- On which side of the line through two places a place is. -/
def SideV (ax ay bx cy px py : Nat) : Nat := Dot (Cr (WayY ax ay) (SinT ax) (WayY bx cy) (SinT bx)) (Cr (SinT ax) (WayX ax ay) (SinT bx) (WayX bx cy)) (Cr (WayX ax ay) (WayY ax ay) (WayX bx cy) (WayY bx cy)) (WayX px py) (WayY px py) (SinT px)

/-- Cells of a block that was built in a region. -/
theorem cell_built {w : World} {b i : Nat} {cs : Array Value} {t : TypeId} {g : Nat × Nat} {v : Value} (h : w.heap[b]? = some (.cells cs t g)) (hv : cs[i]? = some v) : w.cell? ⟨b, i, none⟩ = some v := by
  unfold World.cell?
  rw [h]
  exact hv

set_option maxHeartbeats 1000000 in
theorem sSideV_c (a1 a2 b1 b2 c1 c2 A1 A2 B1 B2 C1 C2 : Nat) (ha1 : cn .f32 a1 = A1) (ha2 : cn .f32 a2 = A2) (hb1 : cn .f32 b1 = B1) (hb2 : cn .f32 b2 = B2) (hc1 : cn .f32 c1 = C1) (hc2 : cn .f32 c2 = C2) (w : World) : Calls Try.prog 67 #[.agg #[.float .f32 a1, .float .f32 a2], .agg #[.float .f32 b1, .float .f32 b2], .agg #[.float .f32 c1, .float .f32 c2]] w (Ret (RF .f32 (SideV A1 A2 B1 B2 C1 C2)) w) := by
  go_enter Try.func67, Try.ntmps67
  go_wp2
  (apply region_looseK (k := 8); (kernel_rfl); (kernel_rfl); intro opsL KL hopsL hKL; (dsimp only [List.take]))
  (apply rel_val; (rfl); (intro wq hbq; have hcq := (bcell hbq).1; (go_simp; first | done | rfl | exact ⟨rfl, rfl⟩)); (try go_simp))
  (apply rel_call (RWay _ _ _); (rfl); (intro wq hbq; (go_simp; first | done | rfl | exact ⟨rfl, rfl⟩)); (intro wq hbq; exact l02Way_c _ _ _ _ ha1 ha2 _); (try go_simp))
  rintro v ⟨x1, y1, z1, rfl, ⟨d1, d2, d3⟩, f1⟩
  (apply rel_val; (rfl); (intro wq hbq; have hcq := (bcell hbq).1; (go_simp; first | done | rfl | exact ⟨rfl, rfl⟩)); (try go_simp))
  (apply rel_call (RWay _ _ _); (rfl); (intro wq hbq; (go_simp; first | done | rfl | exact ⟨rfl, rfl⟩)); (intro wq hbq; exact l02Way_c _ _ _ _ hb1 hb2 _); (try go_simp))
  rintro v ⟨x2, y2, z2, rfl, ⟨e1, e2, e3⟩, f2⟩
  (apply rel_call (RWay _ _ _); (rfl); (intro wq hbq; (go_simp; first | done | rfl | exact ⟨rfl, rfl⟩)); (intro wq hbq; exact sCross_c _ _ _ _ _ _ _ _ _ _ _ _ d1 d2 d3 e1 e2 e3 _); (try go_simp))
  rintro v ⟨x3, y3, z3, rfl, ⟨g1, g2, g3⟩, f3⟩
  (apply rel_val; (rfl); (intro wq hbq; have hcq := (bcell hbq).1; (go_simp; first | done | rfl | exact ⟨rfl, rfl⟩)); (try go_simp))
  (apply rel_call (RWay _ _ _); (rfl); (intro wq hbq; (go_simp; first | done | rfl | exact ⟨rfl, rfl⟩)); (intro wq hbq; exact l02Way_c _ _ _ _ hc1 hc2 _); (try go_simp))
  rintro v ⟨x4, y4, z4, rfl, ⟨h1, h2, h3⟩, f4⟩
  (apply rel_call (RF .f32 (SideV A1 A2 B1 B2 C1 C2)); (rfl); (intro wq hbq; (go_simp; first | done | rfl | exact ⟨rfl, rfl⟩)); (intro wq hbq; exact sDot_c _ _ _ _ _ _ _ _ _ _ _ _ g1 g2 g3 h1 h2 h3 _); (try go_simp))
  rintro v ⟨r, rfl, hr, hw⟩
  (refine wpRel_nil ?_; refine hKL _ _ ?_; clear hKL hopsL opsL KL; intro w1 hb hnews; obtain ⟨hc, hfz⟩ := bcell hb; (try simp only [World.heap_drewN] at hc hfz); have hz : w.heap.size + 3 ≤ w1.heap.size := (by (have hz_ := hb.size; (try simp at hz_); omega)); have hz0 : w.heap.size < w1.heap.size := (by omega); have hz1 : w.heap.size + 1 < w1.heap.size := (by omega); have hz2 : w.heap.size + 2 < w1.heap.size := (by omega); (dsimp only [List.drop]))
  go_wp2
  go_ret
  exact ⟨⟨_, rfl, _, rfl, hr, hw⟩, by (with_reducible repeat (first | exact Below.refl _ _ | apply below_alloc | apply below_dN | apply below_d | refine below_setCell ?_ (by dsimp only; omega) | refine below_call (by assumption) ?_))⟩

def pl3 (a b c : Nat) (j : Nat) : Nat := if j = 0 then a else if j = 1 then b else c
theorem allP3 (A1 A2 B1 B2 C1 C2 : Nat) : allP (pl3 A1 B1 C1) (pl3 A2 B2 C2) 3 = (vplace A1 A2 && (vplace B1 B2 && vplace C1 C2)) := by
  simp [allP, pl3, List.range, List.range.loop]

theorem areValid3 {w : World} {d : Option Tmp} {bs : Nat} {t : TypeId} {g : Nat × Nat} {a1 a2 b1 b2 c1 c2 A1 A2 B1 B2 C1 C2 : Nat} (ha1 : cn .f32 a1 = A1) (ha2 : cn .f32 a2 = A2) (hb1 : cn .f32 b1 = B1) (hb2 : cn .f32 b2 = B2) (hc1 : cn .f32 c1 = C1) (hc2 : cn .f32 c2 = C2)
    (h : newIn w (d, 4, .slice (some ⟨bs, 0, none⟩) 3 3, .cells #[.float .f32 a1, .float .f32 a2, .float .f32 b1, .float .f32 b2, .float .f32 c1, .float .f32 c2] t g)) :
    Calls Try.prog 71 #[.slice (some ⟨bs, 0, none⟩) 3 3] w (Ret (RV (.bool (allP (pl3 A1 B1 C1) (pl3 A2 B2 C2) 3))) w) := by
  obtain ⟨b, e, hh⟩ := h
  obtain rfl : bs = b := by simpa [nv] using e
  refine areValid_c bs 3 3 _ _ w (heap_lt hh) (by decide) fun j hj => ?_
  match j, hj with
  | 0, _ => exact ⟨a1, a2, cell_built hh rfl, cell_built hh rfl, ha1, ha2⟩
  | 1, _ => exact ⟨b1, b2, cell_built hh rfl, cell_built hh rfl, hb1, hb2⟩
  | 2, _ => exact ⟨c1, c2, cell_built hh rfl, cell_built hh rfl, hc1, hc2⟩

set_option maxHeartbeats 2000000 in
theorem iSide_c (a1 a2 b1 b2 c1 c2 A1 A2 B1 B2 C1 C2 : Nat) (ha1 : cn .f32 a1 = A1) (ha2 : cn .f32 a2 = A2) (hb1 : cn .f32 b1 = B1) (hb2 : cn .f32 b2 = B2) (hc1 : cn .f32 c1 = C1) (hc2 : cn .f32 c2 = C2) (w : World) : Calls Try.prog 29 #[.agg #[.float .f32 a1, .float .f32 a2], .agg #[.float .f32 b1, .float .f32 b2], .agg #[.float .f32 c1, .float .f32 c2]] w (Ret (numRes (vplace A1 A2 && (vplace B1 B2 && vplace C1 C2)) (SideV A1 A2 B1 B2 C1 C2)) w) := by
  rw [← allP3]
  go_enter Try.func29, Try.ntmps29
  go_wp2
  (apply region_looseK (k := 18); (kernel_rfl); (kernel_rfl); intro opsL KL hopsL hKL; (dsimp only [List.take]))
  (apply rel_val; (rfl); (intro wq hbq; have hcq := (bcell hbq).1; (go_simp; first | done | rfl | exact ⟨rfl, rfl⟩)); (try go_simp))
  (apply rel_call (RWay _ _ _); (rfl); (intro wq hbq; (go_simp; first | done | rfl | exact ⟨rfl, rfl⟩)); (intro wq hbq; exact iWay_c _ _ _ _ ha1 ha2 _); (try go_simp))
  rintro v ⟨x1, y1, z1, rfl, ⟨d1, d2, d3⟩, f1⟩
  (apply rel_val; (rfl); (intro wq hbq; have hcq := (bcell hbq).1; (go_simp; first | done | rfl | exact ⟨rfl, rfl⟩)); (try go_simp))
  (apply rel_call (RWay _ _ _); (rfl); (intro wq hbq; (go_simp; first | done | rfl | exact ⟨rfl, rfl⟩)); (intro wq hbq; exact iWay_c _ _ _ _ hb1 hb2 _); (try go_simp))
  rintro v ⟨x2, y2, z2, rfl, ⟨e1, e2, e3⟩, f2⟩
  (apply rel_call (RWay _ _ _); (rfl); (intro wq hbq; (go_simp; first | done | rfl | exact ⟨rfl, rfl⟩)); (intro wq hbq; exact iCross_c _ _ _ _ _ _ _ _ _ _ _ _ d1 d2 d3 e1 e2 e3 _); (try go_simp))
  rintro v ⟨x3, y3, z3, rfl, ⟨g1, g2, g3⟩, f3⟩
  (apply rel_val; (rfl); (intro wq hbq; have hcq := (bcell hbq).1; (go_simp; first | done | rfl | exact ⟨rfl, rfl⟩)); (try go_simp))
  (apply rel_call (RWay _ _ _); (rfl); (intro wq hbq; (go_simp; first | done | rfl | exact ⟨rfl, rfl⟩)); (intro wq hbq; exact iWay_c _ _ _ _ hc1 hc2 _); (try go_simp))
  rintro v ⟨x4, y4, z4, rfl, ⟨h1, h2, h3⟩, f4⟩
  (apply rel_call (RF .f32 (SideV A1 A2 B1 B2 C1 C2)); (rfl); (intro wq hbq; (go_simp; first | done | rfl | exact ⟨rfl, rfl⟩)); (intro wq hbq; exact iDot_c _ _ _ _ _ _ _ _ _ _ _ _ g1 g2 g3 h1 h2 h3 _); (try go_simp))
  rintro v ⟨r, rfl, hr, hw⟩
  (apply rel_val; (rfl); (intro wq hbq; have hcq := (bcell hbq).1; (go_simp; first | done | rfl | exact ⟨rfl, rfl⟩)); (try go_simp))
  (apply rel_val; (rfl); (intro wq hbq; have hcq := (bcell hbq).1; (go_simp; first | done | rfl | exact ⟨rfl, rfl⟩)); (try go_simp))
  (apply rel_val; (rfl); (intro wq hbq; have hcq := (bcell hbq).1; (go_simp; first | done | rfl | exact ⟨rfl, rfl⟩)); (try go_simp))
  (apply rel_new (RV undef) 4; (rfl); (intro wq hbq; have hcq := (bcell hbq).1; go_simp; (first | done | rfl | exact ⟨rfl, rfl⟩)))
  intro bs hbs
  dsimp only [nv]
  (try go_simp)
  (apply rel_callS (RV (.bool (allP (pl3 A1 B1 C1) (pl3 A2 B2 C2) 3))); (rfl); (intro wq hbq; (go_simp; first | done | rfl | exact ⟨rfl, rfl⟩)); (intro wq hbq hs; have hcq := (bcell hbq).1; exact areValid3 ha1 ha2 hb1 hb2 hc1 hc2 (hs _ (List.mem_cons_self ..) ⟨_, rfl, List.elem_iff.1 (by rfl)⟩)); (try go_simp))
  rintro v rfl
  (apply rel_call (numRes (allP (pl3 A1 B1 C1) (pl3 A2 B2 C2) 3) (SideV A1 A2 B1 B2 C1 C2)); (rfl); (intro wq hbq; (go_simp; first | done | rfl | exact ⟨rfl, rfl⟩)); (intro wq hbq; exact finite_c _ _ _ hr hw _); (try go_simp))
  rintro v ⟨p, q, rfl, hp, rfl⟩
  (apply rel_of (RF .f32 (gd (allP (pl3 A1 B1 C1) (pl3 A2 B2 C2) 3 && fin .f32 (SideV A1 A2 B1 B2 C1 C2)) (SideV A1 A2 B1 B2 C1 C2))); rotate_left; (rfl); (intro wq hbq; have hcq := (bcell hbq).1; (go_simp; first | done | rfl | exact ⟨rfl, rfl⟩)); rotate_right; (exact hp); (try go_simp))
  rintro v ⟨r', rfl, hr', hw'⟩
  (apply rel_val; (rfl); (intro wq hbq; have hcq := (bcell hbq).1; (go_simp; first | done | rfl | exact ⟨rfl, rfl⟩)); (try go_simp))
  (apply rel_of (RF .f32 (gd (allP (pl3 A1 B1 C1) (pl3 A2 B2 C2) 3 && fin .f32 (SideV A1 A2 B1 B2 C1 C2)) (SideV A1 A2 B1 B2 C1 C2))); rotate_left; (rfl); (intro wq hbq; have hcq := (bcell hbq).1; (go_simp; first | done | rfl | exact ⟨rfl, rfl⟩)); rotate_right; (exact ⟨r', rfl, hr', hw'⟩); (try go_simp))
  rintro v ⟨r2, rfl, hr2, hw2⟩
  (apply rel_val; (rfl); (intro wq hbq; have hcq := (bcell hbq).1; (go_simp; first | done | rfl | exact ⟨rfl, rfl⟩)); (try go_simp))
  (refine wpRel_nil ?_; refine hKL _ _ ?_; clear hKL hopsL opsL KL; intro w1 hb hnews; obtain ⟨hc, hfz⟩ := bcell hb; (try simp only [World.heap_drewN] at hc hfz); have hz : w.heap.size + 3 ≤ w1.heap.size := (by (have hz_ := hb.size; (try simp at hz_); omega)); have hz0 : w.heap.size < w1.heap.size := (by omega); have hz1 : w.heap.size + 1 < w1.heap.size := (by omega); have hz2 : w.heap.size + 2 < w1.heap.size := (by omega); (dsimp only [List.drop]))
  go_wp2
  refine bodyPost_ret (v := .tuple #[.float .f32 r2, .bool (allP (pl3 A1 B1 C1) (pl3 A2 B2 C2) 3 && fin .f32 (SideV A1 A2 B1 B2 C1 C2))]) (by simp [results, Try.results29, go_sem, *] <;> (first | rfl | exact ⟨rfl, rfl⟩ | exact ⟨rfl, rfl, rfl⟩ | exact ⟨rfl, rfl, rfl, rfl⟩)) rfl ?_
  exact ⟨⟨_, rfl, _, _, rfl, ⟨_, rfl, hr2, hw2⟩, rfl⟩, by (with_reducible repeat (first | exact Below.refl _ _ | apply below_alloc | apply below_dN | apply below_d | refine below_setCell ?_ (by dsimp only; omega) | refine below_call (by assumption) ?_))⟩


set_option maxHeartbeats 2000000 in
theorem sSide_c (a1 a2 b1 b2 c1 c2 A1 A2 B1 B2 C1 C2 : Nat) (ha1 : cn .f32 a1 = A1) (ha2 : cn .f32 a2 = A2) (hb1 : cn .f32 b1 = B1) (hb2 : cn .f32 b2 = B2) (hc1 : cn .f32 c1 = C1) (hc2 : cn .f32 c2 = C2) (w : World) : Calls Try.prog 28 #[.agg #[.float .f32 a1, .float .f32 a2], .agg #[.float .f32 b1, .float .f32 b2], .agg #[.float .f32 c1, .float .f32 c2]] w (Ret (numRes (vplace A1 A2 && (vplace B1 B2 && vplace C1 C2)) (SideV A1 A2 B1 B2 C1 C2)) w) := by
  rw [← Bool.and_assoc]
  cases v1 : (vplace A1 A2 && vplace B1 B2)
  · unfold numRes
    go_enter Try.func28, Try.ntmps28
    go_wp2_with (first | (go_at_call 65; ((with_reducible refine (sTwo_c _ _ _ _ _ _ _ _ ha1 ha2 hb1 hb2 _).mono ?_); rintro e w1 ⟨⟨v, rfl, rfl⟩, hb⟩); have hu2 : ∀ n : Nat, n < n + 1 + 1 := (fun n => by omega); have hu3 : ∀ n : Nat, n < n + 1 + 1 + 1 := (fun n => by omega); obtain ⟨hc, hfz⟩ := bcell hb; (try simp only [World.heap_drewN] at hc hfz); have hs_ := hb.size; (try simp at hs_); (try have hz0 : w.heap.size < w1.heap.size := (by omega)); (try have hz1 : w.heap.size + 1 < w1.heap.size := (by omega)); (try have hz2 : w.heap.size + 2 < w1.heap.size := (by omega)); (try have hz3 : w.heap.size + 3 < w1.heap.size := (by omega)); (try have hza : wa.heap.size < w1.heap.size := (by omega)); (try have hza1 : wa.heap.size + 1 < w1.heap.size := (by omega)); (try have hzb : wb.heap.size < w1.heap.size := (by omega)); (try have hzb1 : wb.heap.size + 1 < w1.heap.size := (by omega)); (try have hzc : wc.heap.size < w1.heap.size := (by omega)); (try have hzd : wd.heap.size < w1.heap.size := (by omega))) | (go_at_call 55; refine (l02Is_c c1 c2 (w.heap.size + 1 + 1) 0 _ _ hc1 hc2 _ (by first | (go_simp; done) | (simp [World.cell?, World.alloc]; done)) (by first | (go_simp; done) | (simp [World.cell?, World.alloc]; done))).mono ?_; rintro e w' ⟨rfl, rfl⟩) | (go_at_call 67; ((with_reducible refine (sSideV_c _ _ _ _ _ _ _ _ _ _ _ _ ha1 ha2 hb1 hb2 hc1 hc2 _).mono ?_); rintro e w1 ⟨⟨v, rfl, r, rfl, hr, hw⟩, hb⟩); have hu2 : ∀ n : Nat, n < n + 1 + 1 := (fun n => by omega); have hu3 : ∀ n : Nat, n < n + 1 + 1 + 1 := (fun n => by omega); obtain ⟨hc, hfz⟩ := bcell hb; (try simp only [World.heap_drewN] at hc hfz); have hs_ := hb.size; (try simp at hs_); (try have hz0 : w.heap.size < w1.heap.size := (by omega)); (try have hz1 : w.heap.size + 1 < w1.heap.size := (by omega)); (try have hz2 : w.heap.size + 2 < w1.heap.size := (by omega)); (try have hz3 : w.heap.size + 3 < w1.heap.size := (by omega)); (try have hza : wa.heap.size < w1.heap.size := (by omega)); (try have hza1 : wa.heap.size + 1 < w1.heap.size := (by omega)); (try have hzb : wb.heap.size < w1.heap.size := (by omega)); (try have hzb1 : wb.heap.size + 1 < w1.heap.size := (by omega)); (try have hzc : wc.heap.size < w1.heap.size := (by omega)); (try have hzd : wd.heap.size < w1.heap.size := (by omega))) | (go_at_call 66; ((with_reducible refine (number_c _ _ hr hw _).mono ?_); rintro e w1 ⟨⟨v, rfl, ⟨p, q, rfl, ⟨r', rfl, hr', hw'⟩, rfl⟩⟩, hb⟩); have hu2 : ∀ n : Nat, n < n + 1 + 1 := (fun n => by omega); have hu3 : ∀ n : Nat, n < n + 1 + 1 + 1 := (fun n => by omega); obtain ⟨hc, hfz⟩ := bcell hb; (try simp only [World.heap_drewN] at hc hfz); have hs_ := hb.size; (try simp at hs_); (try have hz0 : w.heap.size < w1.heap.size := (by omega)); (try have hz1 : w.heap.size + 1 < w1.heap.size := (by omega)); (try have hz2 : w.heap.size + 2 < w1.heap.size := (by omega)); (try have hz3 : w.heap.size + 3 < w1.heap.size := (by omega)); (try have hza : wa.heap.size < w1.heap.size := (by omega)); (try have hza1 : wa.heap.size + 1 < w1.heap.size := (by omega)); (try have hzb : wb.heap.size < w1.heap.size := (by omega)); (try have hzb1 : wb.heap.size + 1 < w1.heap.size := (by omega)); (try have hzc : wc.heap.size < w1.heap.size := (by omega)); (try have hzd : wd.heap.size < w1.heap.size := (by omega))))
    refine bodyPost_ret (v := .tuple #[.float .f32 0, .bool false]) (by simp [results, Try.results28, go_sem, *] <;> (first | rfl | exact ⟨rfl, rfl⟩ | exact ⟨rfl, rfl, rfl⟩ | exact ⟨rfl, rfl, rfl, rfl⟩)) rfl ?_
    exact ⟨⟨_, rfl, _, _, rfl, ⟨0, rfl, by simp [gd], okf_of (by decide)⟩, rfl⟩, by (with_reducible repeat (first | exact Below.refl _ _ | apply below_alloc | apply below_dN | apply below_d | refine below_setCell ?_ (by dsimp only; omega) | refine below_call (by assumption) ?_))⟩
  · cases v2 : vplace C1 C2
    · unfold numRes
      go_enter Try.func28, Try.ntmps28
      go_wp2_with (first | (go_at_call 65; ((with_reducible refine (sTwo_c _ _ _ _ _ _ _ _ ha1 ha2 hb1 hb2 _).mono ?_); rintro e w1 ⟨⟨v, rfl, rfl⟩, hb⟩); have hu2 : ∀ n : Nat, n < n + 1 + 1 := (fun n => by omega); have hu3 : ∀ n : Nat, n < n + 1 + 1 + 1 := (fun n => by omega); obtain ⟨hc, hfz⟩ := bcell hb; (try simp only [World.heap_drewN] at hc hfz); have hs_ := hb.size; (try simp at hs_); (try have hz0 : w.heap.size < w1.heap.size := (by omega)); (try have hz1 : w.heap.size + 1 < w1.heap.size := (by omega)); (try have hz2 : w.heap.size + 2 < w1.heap.size := (by omega)); (try have hz3 : w.heap.size + 3 < w1.heap.size := (by omega)); (try have hza : wa.heap.size < w1.heap.size := (by omega)); (try have hza1 : wa.heap.size + 1 < w1.heap.size := (by omega)); (try have hzb : wb.heap.size < w1.heap.size := (by omega)); (try have hzb1 : wb.heap.size + 1 < w1.heap.size := (by omega)); (try have hzc : wc.heap.size < w1.heap.size := (by omega)); (try have hzd : wd.heap.size < w1.heap.size := (by omega))) | (go_at_call 55; refine (l02Is_c c1 c2 (w.heap.size + 1 + 1) 0 _ _ hc1 hc2 _ (by first | (go_simp; done) | (simp [World.cell?, World.alloc]; done)) (by first | (go_simp; done) | (simp [World.cell?, World.alloc]; done))).mono ?_; rintro e w' ⟨rfl, rfl⟩) | (go_at_call 67; ((with_reducible refine (sSideV_c _ _ _ _ _ _ _ _ _ _ _ _ ha1 ha2 hb1 hb2 hc1 hc2 _).mono ?_); rintro e w1 ⟨⟨v, rfl, r, rfl, hr, hw⟩, hb⟩); have hu2 : ∀ n : Nat, n < n + 1 + 1 := (fun n => by omega); have hu3 : ∀ n : Nat, n < n + 1 + 1 + 1 := (fun n => by omega); obtain ⟨hc, hfz⟩ := bcell hb; (try simp only [World.heap_drewN] at hc hfz); have hs_ := hb.size; (try simp at hs_); (try have hz0 : w.heap.size < w1.heap.size := (by omega)); (try have hz1 : w.heap.size + 1 < w1.heap.size := (by omega)); (try have hz2 : w.heap.size + 2 < w1.heap.size := (by omega)); (try have hz3 : w.heap.size + 3 < w1.heap.size := (by omega)); (try have hza : wa.heap.size < w1.heap.size := (by omega)); (try have hza1 : wa.heap.size + 1 < w1.heap.size := (by omega)); (try have hzb : wb.heap.size < w1.heap.size := (by omega)); (try have hzb1 : wb.heap.size + 1 < w1.heap.size := (by omega)); (try have hzc : wc.heap.size < w1.heap.size := (by omega)); (try have hzd : wd.heap.size < w1.heap.size := (by omega))) | (go_at_call 66; ((with_reducible refine (number_c _ _ hr hw _).mono ?_); rintro e w1 ⟨⟨v, rfl, ⟨p, q, rfl, ⟨r', rfl, hr', hw'⟩, rfl⟩⟩, hb⟩); have hu2 : ∀ n : Nat, n < n + 1 + 1 := (fun n => by omega); have hu3 : ∀ n : Nat, n < n + 1 + 1 + 1 := (fun n => by omega); obtain ⟨hc, hfz⟩ := bcell hb; (try simp only [World.heap_drewN] at hc hfz); have hs_ := hb.size; (try simp at hs_); (try have hz0 : w.heap.size < w1.heap.size := (by omega)); (try have hz1 : w.heap.size + 1 < w1.heap.size := (by omega)); (try have hz2 : w.heap.size + 2 < w1.heap.size := (by omega)); (try have hz3 : w.heap.size + 3 < w1.heap.size := (by omega)); (try have hza : wa.heap.size < w1.heap.size := (by omega)); (try have hza1 : wa.heap.size + 1 < w1.heap.size := (by omega)); (try have hzb : wb.heap.size < w1.heap.size := (by omega)); (try have hzb1 : wb.heap.size + 1 < w1.heap.size := (by omega)); (try have hzc : wc.heap.size < w1.heap.size := (by omega)); (try have hzd : wd.heap.size < w1.heap.size := (by omega))))
      refine bodyPost_ret (v := .tuple #[.float .f32 0, .bool false]) (by simp [results, Try.results28, go_sem, *] <;> (first | rfl | exact ⟨rfl, rfl⟩ | exact ⟨rfl, rfl, rfl⟩ | exact ⟨rfl, rfl, rfl, rfl⟩)) rfl ?_
      exact ⟨⟨_, rfl, _, _, rfl, ⟨0, rfl, by simp [gd], okf_of (by decide)⟩, rfl⟩, by (with_reducible repeat (first | exact Below.refl _ _ | apply below_alloc | apply below_dN | apply below_d | refine below_setCell ?_ (by dsimp only; omega) | refine below_call (by assumption) ?_))⟩
    · unfold numRes
      go_enter Try.func28, Try.ntmps28
      go_wp2_with (first | (go_at_call 65; ((with_reducible refine (sTwo_c _ _ _ _ _ _ _ _ ha1 ha2 hb1 hb2 _).mono ?_); rintro e w1 ⟨⟨v, rfl, rfl⟩, hb⟩); have hu2 : ∀ n : Nat, n < n + 1 + 1 := (fun n => by omega); have hu3 : ∀ n : Nat, n < n + 1 + 1 + 1 := (fun n => by omega); obtain ⟨hc, hfz⟩ := bcell hb; (try simp only [World.heap_drewN] at hc hfz); have hs_ := hb.size; (try simp at hs_); (try have hz0 : w.heap.size < w1.heap.size := (by omega)); (try have hz1 : w.heap.size + 1 < w1.heap.size := (by omega)); (try have hz2 : w.heap.size + 2 < w1.heap.size := (by omega)); (try have hz3 : w.heap.size + 3 < w1.heap.size := (by omega)); (try have hza : wa.heap.size < w1.heap.size := (by omega)); (try have hza1 : wa.heap.size + 1 < w1.heap.size := (by omega)); (try have hzb : wb.heap.size < w1.heap.size := (by omega)); (try have hzb1 : wb.heap.size + 1 < w1.heap.size := (by omega)); (try have hzc : wc.heap.size < w1.heap.size := (by omega)); (try have hzd : wd.heap.size < w1.heap.size := (by omega))) | (go_at_call 55; refine (l02Is_c c1 c2 (w.heap.size + 1 + 1) 0 _ _ hc1 hc2 _ (by first | (go_simp; done) | (simp [World.cell?, World.alloc]; done)) (by first | (go_simp; done) | (simp [World.cell?, World.alloc]; done))).mono ?_; rintro e w' ⟨rfl, rfl⟩) | (go_at_call 67; ((with_reducible refine (sSideV_c _ _ _ _ _ _ _ _ _ _ _ _ ha1 ha2 hb1 hb2 hc1 hc2 _).mono ?_); rintro e w1 ⟨⟨v, rfl, r, rfl, hr, hw⟩, hb⟩); have hu2 : ∀ n : Nat, n < n + 1 + 1 := (fun n => by omega); have hu3 : ∀ n : Nat, n < n + 1 + 1 + 1 := (fun n => by omega); obtain ⟨hc, hfz⟩ := bcell hb; (try simp only [World.heap_drewN] at hc hfz); have hs_ := hb.size; (try simp at hs_); (try have hz0 : w.heap.size < w1.heap.size := (by omega)); (try have hz1 : w.heap.size + 1 < w1.heap.size := (by omega)); (try have hz2 : w.heap.size + 2 < w1.heap.size := (by omega)); (try have hz3 : w.heap.size + 3 < w1.heap.size := (by omega)); (try have hza : wa.heap.size < w1.heap.size := (by omega)); (try have hza1 : wa.heap.size + 1 < w1.heap.size := (by omega)); (try have hzb : wb.heap.size < w1.heap.size := (by omega)); (try have hzb1 : wb.heap.size + 1 < w1.heap.size := (by omega)); (try have hzc : wc.heap.size < w1.heap.size := (by omega)); (try have hzd : wd.heap.size < w1.heap.size := (by omega))) | (go_at_call 66; ((with_reducible refine (number_c _ _ hr hw _).mono ?_); rintro e w1 ⟨⟨v, rfl, ⟨p, q, rfl, ⟨r', rfl, hr', hw'⟩, rfl⟩⟩, hb⟩); have hu2 : ∀ n : Nat, n < n + 1 + 1 := (fun n => by omega); have hu3 : ∀ n : Nat, n < n + 1 + 1 + 1 := (fun n => by omega); obtain ⟨hc, hfz⟩ := bcell hb; (try simp only [World.heap_drewN] at hc hfz); have hs_ := hb.size; (try simp at hs_); (try have hz0 : w.heap.size < w1.heap.size := (by omega)); (try have hz1 : w.heap.size + 1 < w1.heap.size := (by omega)); (try have hz2 : w.heap.size + 2 < w1.heap.size := (by omega)); (try have hz3 : w.heap.size + 3 < w1.heap.size := (by omega)); (try have hza : wa.heap.size < w1.heap.size := (by omega)); (try have hza1 : wa.heap.size + 1 < w1.heap.size := (by omega)); (try have hzb : wb.heap.size < w1.heap.size := (by omega)); (try have hzb1 : wb.heap.size + 1 < w1.heap.size := (by omega)); (try have hzc : wc.heap.size < w1.heap.size := (by omega)); (try have hzd : wd.heap.size < w1.heap.size := (by omega))))
      refine bodyPost_ret (v := .tuple #[.float .f32 _, .bool _]) (by simp [results, Try.results28, go_sem, *] <;> (first | rfl | exact ⟨rfl, rfl⟩ | exact ⟨rfl, rfl, rfl⟩ | exact ⟨rfl, rfl, rfl, rfl⟩)) rfl ?_
      exact ⟨⟨_, rfl, _, _, rfl, ⟨_, rfl, by assumption, by assumption⟩, rfl⟩, by (with_reducible repeat (first | exact Below.refl _ _ | apply below_alloc | apply below_dN | apply below_d | refine below_setCell ?_ (by dsimp only; omega) | refine below_call (by assumption) ?_))⟩

set_option maxHeartbeats 2000000 in
theorem lawSideOf (a1 a2 b1 b2 c1 c2 : Nat) (w : World) : Calls Try.prog 7 #[.agg #[.float .f32 a1, .float .f32 a2], .agg #[.float .f32 b1, .float .f32 b2], .agg #[.float .f32 c1, .float .f32 c2]] w fun e w' => e = .returned (.bool true) ∧ Below w.heap.size w w' := by
  obtain ⟨A1, ha1⟩ : ∃ X, cn .f32 a1 = X := ⟨_, rfl⟩
  obtain ⟨A2, ha2⟩ : ∃ X, cn .f32 a2 = X := ⟨_, rfl⟩
  obtain ⟨B1, hb1⟩ : ∃ X, cn .f32 b1 = X := ⟨_, rfl⟩
  obtain ⟨B2, hb2⟩ : ∃ X, cn .f32 b2 = X := ⟨_, rfl⟩
  obtain ⟨C1, hc1⟩ : ∃ X, cn .f32 c1 = X := ⟨_, rfl⟩
  obtain ⟨C2, hc2⟩ : ∃ X, cn .f32 c2 = X := ⟨_, rfl⟩
  go_enter Try.func7, Try.ntmps7
  go_wp2
  (apply region_looseK (k := 12); (kernel_rfl); (kernel_rfl); intro opsL KL hopsL hKL; (dsimp only [List.take]))
  (apply rel_val; (rfl); (intro wq hbq; have hcq := (bcell hbq).1; (go_simp; first | done | rfl | exact ⟨rfl, rfl⟩)); (try go_simp)); (apply rel_call (RV (.agg #[.float .f32 a1, .float .f32 a2])); (rfl); (intro wq hbq; (go_simp; first | done | rfl | exact ⟨rfl, rfl⟩)); (intro wq hbq; exact Ret.of_below (toPlace_any _ _ _) rfl); (try go_simp)); rintro v rfl
  (apply rel_val; (rfl); (intro wq hbq; have hcq := (bcell hbq).1; (go_simp; first | done | rfl | exact ⟨rfl, rfl⟩)); (try go_simp)); (apply rel_call (RV (.agg #[.float .f32 b1, .float .f32 b2])); (rfl); (intro wq hbq; (go_simp; first | done | rfl | exact ⟨rfl, rfl⟩)); (intro wq hbq; exact Ret.of_below (toPlace_any _ _ _) rfl); (try go_simp)); rintro v rfl
  (apply rel_val; (rfl); (intro wq hbq; have hcq := (bcell hbq).1; (go_simp; first | done | rfl | exact ⟨rfl, rfl⟩)); (try go_simp)); (apply rel_call (RV (.agg #[.float .f32 c1, .float .f32 c2])); (rfl); (intro wq hbq; (go_simp; first | done | rfl | exact ⟨rfl, rfl⟩)); (intro wq hbq; exact Ret.of_below (toPlace_any _ _ _) rfl); (try go_simp)); rintro v rfl
  (apply rel_call (numRes (vplace A1 A2 && (vplace B1 B2 && vplace C1 C2)) (SideV A1 A2 B1 B2 C1 C2)); (rfl); (intro wq hbq; (go_simp; first | done | rfl | exact ⟨rfl, rfl⟩)); (intro wq hbq; exact sSide_c _ _ _ _ _ _ _ _ _ _ _ _ ha1 ha2 hb1 hb2 hc1 hc2 _); (try go_simp))
  rintro v ⟨p, q, rfl, ⟨r1, rfl, hr1, hw1⟩, rfl⟩
  (apply rel_of (numRes (vplace A1 A2 && (vplace B1 B2 && vplace C1 C2)) (SideV A1 A2 B1 B2 C1 C2)); rotate_left; (rfl); (intro wq hbq; have hcq := (bcell hbq).1; (go_simp; first | done | rfl | exact ⟨rfl, rfl⟩)); rotate_right; (exact ⟨_, _, rfl, ⟨r1, rfl, hr1, hw1⟩, rfl⟩); (try go_simp))
  rintro v ⟨p, q, rfl, ⟨r1, rfl, hr1, hw1⟩, rfl⟩
  (apply rel_of (RF .f32 (gd ((vplace A1 A2 && (vplace B1 B2 && vplace C1 C2)) && fin .f32 (SideV A1 A2 B1 B2 C1 C2)) (SideV A1 A2 B1 B2 C1 C2))); rotate_left; (rfl); (intro wq hbq; have hcq := (bcell hbq).1; (go_simp; first | done | rfl | exact ⟨rfl, rfl⟩)); rotate_right; (exact ⟨r1, rfl, hr1, hw1⟩); (try go_simp))
  rintro v ⟨r1, rfl, hr1, hw1⟩
  (apply rel_val; (rfl); (intro wq hbq; have hcq := (bcell hbq).1; (go_simp; first | done | rfl | exact ⟨rfl, rfl⟩)); (try go_simp))
  (apply rel_of (RF .f32 (gd ((vplace A1 A2 && (vplace B1 B2 && vplace C1 C2)) && fin .f32 (SideV A1 A2 B1 B2 C1 C2)) (SideV A1 A2 B1 B2 C1 C2))); rotate_left; (rfl); (intro wq hbq; have hcq := (bcell hbq).1; (go_simp; first | done | rfl | exact ⟨rfl, rfl⟩)); rotate_right; (exact ⟨r1, rfl, hr1, hw1⟩); (try go_simp))
  rintro v ⟨r1, rfl, hr1, hw1⟩
  (apply rel_val; (rfl); (intro wq hbq; have hcq := (bcell hbq).1; (go_simp; first | done | rfl | exact ⟨rfl, rfl⟩)); (try go_simp))
  (refine wpRel_nil ?_; refine hKL _ _ ?_; clear hKL hopsL opsL KL; intro w1 hb hnews; obtain ⟨hc, hfz⟩ := bcell hb; (try simp only [World.heap_drewN] at hc hfz); have hz : w.heap.size + 3 ≤ w1.heap.size := (by (have hz_ := hb.size; (try simp at hz_); omega)); have hz0 : w.heap.size < w1.heap.size := (by omega); have hz1 : w.heap.size + 1 < w1.heap.size := (by omega); have hz2 : w.heap.size + 2 < w1.heap.size := (by omega); (dsimp only [List.drop]))
  go_wp2
  (apply region_looseK (k := 12); (kernel_rfl); (kernel_rfl); intro opsL KL hopsL hKL; (dsimp only [List.take]))
  (apply rel_val; (rfl); (intro wq hbq; have hcq := (bcell hbq).1; (go_simp; first | done | rfl | exact ⟨rfl, rfl⟩)); (try go_simp)); (apply rel_call (RV (.agg #[.float .f32 a1, .float .f32 a2])); (rfl); (intro wq hbq; (go_simp; first | done | rfl | exact ⟨rfl, rfl⟩)); (intro wq hbq; exact Ret.of_below (toPlace_any _ _ _) rfl); (try go_simp)); rintro v rfl
  (apply rel_val; (rfl); (intro wq hbq; have hcq := (bcell hbq).1; (go_simp; first | done | rfl | exact ⟨rfl, rfl⟩)); (try go_simp)); (apply rel_call (RV (.agg #[.float .f32 b1, .float .f32 b2])); (rfl); (intro wq hbq; (go_simp; first | done | rfl | exact ⟨rfl, rfl⟩)); (intro wq hbq; exact Ret.of_below (toPlace_any _ _ _) rfl); (try go_simp)); rintro v rfl
  (apply rel_val; (rfl); (intro wq hbq; have hcq := (bcell hbq).1; (go_simp; first | done | rfl | exact ⟨rfl, rfl⟩)); (try go_simp)); (apply rel_call (RV (.agg #[.float .f32 c1, .float .f32 c2])); (rfl); (intro wq hbq; (go_simp; first | done | rfl | exact ⟨rfl, rfl⟩)); (intro wq hbq; exact Ret.of_below (toPlace_any _ _ _) rfl); (try go_simp)); rintro v rfl
  (apply rel_call (numRes (vplace A1 A2 && (vplace B1 B2 && vplace C1 C2)) (SideV A1 A2 B1 B2 C1 C2)); (rfl); (intro wq hbq; (go_simp; first | done | rfl | exact ⟨rfl, rfl⟩)); (intro wq hbq; exact iSide_c _ _ _ _ _ _ _ _ _ _ _ _ ha1 ha2 hb1 hb2 hc1 hc2 _); (try go_simp))
  rintro v ⟨p, q, rfl, ⟨r2, rfl, hr2, hw2⟩, rfl⟩
  (apply rel_of (numRes (vplace A1 A2 && (vplace B1 B2 && vplace C1 C2)) (SideV A1 A2 B1 B2 C1 C2)); rotate_left; (rfl); (intro wq hbq; have hcq := (bcell hbq).1; (go_simp; first | done | rfl | exact ⟨rfl, rfl⟩)); rotate_right; (exact ⟨_, _, rfl, ⟨r2, rfl, hr2, hw2⟩, rfl⟩); (try go_simp))
  rintro v ⟨p, q, rfl, ⟨r2, rfl, hr2, hw2⟩, rfl⟩
  (apply rel_of (RF .f32 (gd ((vplace A1 A2 && (vplace B1 B2 && vplace C1 C2)) && fin .f32 (SideV A1 A2 B1 B2 C1 C2)) (SideV A1 A2 B1 B2 C1 C2))); rotate_left; (rfl); (intro wq hbq; have hcq := (bcell hbq).1; (go_simp; first | done | rfl | exact ⟨rfl, rfl⟩)); rotate_right; (exact ⟨r2, rfl, hr2, hw2⟩); (try go_simp))
  rintro v ⟨r2, rfl, hr2, hw2⟩
  (apply rel_val; (rfl); (intro wq hbq; have hcq := (bcell hbq).1; (go_simp; first | done | rfl | exact ⟨rfl, rfl⟩)); (try go_simp))
  (apply rel_of (RF .f32 (gd ((vplace A1 A2 && (vplace B1 B2 && vplace C1 C2)) && fin .f32 (SideV A1 A2 B1 B2 C1 C2)) (SideV A1 A2 B1 B2 C1 C2))); rotate_left; (rfl); (intro wq hbq; have hcq := (bcell hbq).1; (go_simp; first | done | rfl | exact ⟨rfl, rfl⟩)); rotate_right; (exact ⟨r2, rfl, hr2, hw2⟩); (try go_simp))
  rintro v ⟨r2, rfl, hr2, hw2⟩
  (apply rel_val; (rfl); (intro wq hbq; have hcq := (bcell hbq).1; (go_simp; first | done | rfl | exact ⟨rfl, rfl⟩)); (try go_simp))
  (refine wpRel_nil ?_; refine hKL _ _ ?_; clear hKL hopsL opsL KL; intro w1 hb hnews; obtain ⟨hc, hfz⟩ := bcell hb; (try simp only [World.heap_drewN] at hc hfz); have hz : w.heap.size + 3 ≤ w1.heap.size := (by (have hz_ := hb.size; (try simp at hz_); omega)); have hz0 : w.heap.size < w1.heap.size := (by omega); have hz1 : w.heap.size + 1 < w1.heap.size := (by omega); have hz2 : w.heap.size + 2 < w1.heap.size := (by omega); (dsimp only [List.drop]))
  go_wp2_with (first | (go_at_call 30; ((with_reducible refine (sameFloat_c _ _ _ (by assumption) (by simp only [*]) _).mono ?_); rintro e w1 ⟨⟨v, rfl, rfl⟩, hb⟩); have hu2 : ∀ n : Nat, n < n + 1 + 1 := (fun n => by omega); have hu3 : ∀ n : Nat, n < n + 1 + 1 + 1 := (fun n => by omega); obtain ⟨hc, hfz⟩ := bcell hb; (try simp only [World.heap_drewN] at hc hfz); have hs_ := hb.size; (try simp at hs_); (try have hz0 : w.heap.size < w1.heap.size := (by omega)); (try have hz1 : w.heap.size + 1 < w1.heap.size := (by omega)); (try have hz2 : w.heap.size + 2 < w1.heap.size := (by omega)); (try have hz3 : w.heap.size + 3 < w1.heap.size := (by omega)); (try have hza : wa.heap.size < w1.heap.size := (by omega)); (try have hza1 : wa.heap.size + 1 < w1.heap.size := (by omega)); (try have hzb : wb.heap.size < w1.heap.size := (by omega)); (try have hzb1 : wb.heap.size + 1 < w1.heap.size := (by omega)); (try have hzc : wc.heap.size < w1.heap.size := (by omega)); (try have hzd : wd.heap.size < w1.heap.size := (by omega))) | (refine wpL_fconv_fits rfl 22 50 _ rfl .f32 .f64 _ rfl (by decide) Try.underlying22 Try.underlying50 (fits_wide _) ?_; intro r n hr hw))
  go_ret
  exact ⟨rfl, by (with_reducible repeat (first | exact Below.refl _ _ | apply below_alloc | apply below_dN | apply below_d | refine below_setCell ?_ (by dsimp only; omega) | refine below_call (by assumption) ?_))⟩
end Go.Proofs.Ytiaebemlcjjjhaa
