/- Contract of BoxOfPlaces as it is written. No condition. -/
import Derived.Test.YtiaebemlcjjjhaaBox
namespace Go.Proofs.Ytiaebemlcjjjhaa
open Go.RowKit
set_option linter.unusedSimpArgs false
theorem two.below {w w' : World} {b x y : Nat} (h : two w b x y) (hb : Below w.heap.size w w') : two w' b x y := World.rowIs.of_block h (hb.block b h.lt)
set_option maxRecDepth 100000 in
set_option maxHeartbeats 8000000 in
theorem iBox_c (b n cap : Nat) (X Y : Nat → Nat) (w : World) (hbb : b < w.heap.size) (hn : n ≤ 1048576) (h : PlCells w b n X Y) :
    Calls Try.prog 45 #[.slice (some ⟨b, 0, none⟩) n cap] w (Ret (bxR X Y n) w) := by
  have HA := Lib.hid (fun (w' : World) (hB : Below w.heap.size w w') => iArePlaces_c b n cap X Y w' (Nat.lt_of_lt_of_le hbb hB.size) hn (fun j hj => by
    obtain ⟨r, s, h0, h1, h2⟩ := h j hj
    exact ⟨r, s, by rw [hB.cell (p := ⟨b, j * 2, none⟩) hbb]; exact h0, by rw [hB.cell (p := ⟨b, j * 2 + 1, none⟩) hbb]; exact h1, h2⟩))
  have HH := Lib.hid h
  clear h
  unfold bxR
  cases c1 : arePl n X Y
  · rw [c1] at HA
    go_enter Try.func45, Try.ntmps45
    go_wp2_with (go_at_call 47; ((with_reducible refine (HA.out _ (by (with_reducible repeat (first | exact Below.refl _ _ | apply below_alloc | apply below_dN | apply below_d | refine below_setCell ?_ (by dsimp only; omega) | refine below_call (by assumption) ?_)))).mono ?_); rintro e wa ⟨⟨v, rfl, rfl⟩, hb⟩); have hu2 : ∀ n : Nat, n < n + 1 + 1 := (fun n => by omega); have hu3 : ∀ n : Nat, n < n + 1 + 1 + 1 := (fun n => by omega); obtain ⟨hc, hfz⟩ := bcell hb; (try simp only [World.heap_drewN] at hc hfz); have hs_ := hb.size; (try simp at hs_); (try have hz0 : w.heap.size < wa.heap.size := (by omega)); (try have hz1 : w.heap.size + 1 < wa.heap.size := (by omega)); (try have hz2 : w.heap.size + 2 < wa.heap.size := (by omega)); (try have hz3 : w.heap.size + 3 < wa.heap.size := (by omega)); (try have hza : wa.heap.size < wa.heap.size := (by omega)); (try have hza1 : wa.heap.size + 1 < wa.heap.size := (by omega)); (try have hzb : wb.heap.size < wa.heap.size := (by omega)); (try have hzb1 : wb.heap.size + 1 < wa.heap.size := (by omega)); (try have hzc : wc.heap.size < wa.heap.size := (by omega)); (try have hzd : wd.heap.size < wa.heap.size := (by omega)))
    refine bodyPost_ret (v := .tuple #[.agg #[.float .f32 0, .float .f32 0], .agg #[.float .f32 0, .float .f32 0], .bool false]) (by simp [results, Try.results45, go_sem, *] <;> (first | rfl | exact ⟨rfl, rfl⟩ | exact ⟨rfl, rfl, rfl⟩ | exact ⟨rfl, rfl, rfl, rfl⟩)) rfl ?_
    exact ⟨⟨_, rfl, 0, 0, 0, 0, rfl, rfl, rfl, rfl, rfl⟩, by (with_reducible repeat (first | exact Below.refl _ _ | apply below_alloc | apply below_dN | apply below_d | refine below_setCell ?_ (by dsimp only; omega) | refine below_call (by assumption) ?_))⟩
  · rw [c1] at HA
    have hn1 : 1 ≤ n ∧ n ≤ 64 := by
      simp only [arePl, Bool.and_eq_true, decide_eq_true_eq] at c1
      exact c1.2
    have hn0 : 0 < n := by omega
    have hn00 : n ≠ 0 := by omega
    obtain ⟨r0, s0, h0, h1, h2, h3⟩ := HH.out 0 hn0
    rw [Nat.zero_mul] at h0
    rw [show 0 * 2 + 1 = 1 from rfl] at h1
    go_enter Try.func45, Try.ntmps45
    go_upto_region 3 with (go_at_call 47; ((with_reducible refine (HA.out _ (by (with_reducible repeat (first | exact Below.refl _ _ | apply below_alloc | apply below_dN | apply below_d | refine below_setCell ?_ (by dsimp only; omega) | refine below_call (by assumption) ?_)))).mono ?_); rintro e wa ⟨⟨v, rfl, rfl⟩, hb⟩); have hu2 : ∀ n : Nat, n < n + 1 + 1 := (fun n => by omega); have hu3 : ∀ n : Nat, n < n + 1 + 1 + 1 := (fun n => by omega); obtain ⟨hc, hfz⟩ := bcell hb; (try simp only [World.heap_drewN] at hc hfz); have hs_ := hb.size; (try simp at hs_); (try have hz0 : w.heap.size < wa.heap.size := (by omega)); (try have hz1 : w.heap.size + 1 < wa.heap.size := (by omega)); (try have hz2 : w.heap.size + 2 < wa.heap.size := (by omega)); (try have hz3 : w.heap.size + 3 < wa.heap.size := (by omega)); (try have hza : wa.heap.size < wa.heap.size := (by omega)); (try have hza1 : wa.heap.size + 1 < wa.heap.size := (by omega)); (try have hzb : wb.heap.size < wa.heap.size := (by omega)); (try have hzb1 : wb.heap.size + 1 < wa.heap.size := (by omega)); (try have hzc : wc.heap.size < wa.heap.size := (by omega)); (try have hzd : wd.heap.size < wa.heap.size := (by omega)))
    have q2 : b < wa.heap.size := by omega
    have hT0 : two ((w.alloc (.cells #[.float .f32 0, .float .f32 0] 27)).alloc (.cells #[.float .f32 0, .float .f32 0] 27)) w.heap.size 0 0 := (two.new w 0 0).alloc _
    have hT1 : two ((w.alloc (.cells #[.float .f32 0, .float .f32 0] 27)).alloc (.cells #[.float .f32 0, .float .f32 0] 27)) (w.heap.size + 1) 0 0 := two.newAt (by simp)
    have tA := hT0.below hb
    have tB := hT1.below hb
    have hBa : Below w.heap.size w wa := by (with_reducible repeat (first | exact Below.refl _ _ | apply below_alloc | apply below_dN | apply below_d | refine below_setCell ?_ (by dsimp only; omega) | refine below_call (by assumption) ?_))
    have a2 := tA.lt
    have b2 := tB.lt
    go_cut [5, 6] (fun p5 p6 wx => ∃ C D, p5 = .pointer (some ⟨C, 0, none⟩) ∧ p6 = .pointer (some ⟨D, 0, none⟩) ∧ C ≠ D ∧ w.heap.size + 1 < C ∧ w.heap.size + 1 < D ∧ two wx w.heap.size 0 0 ∧ two wx (w.heap.size + 1) 0 0 ∧ two wx C r0 s0 ∧ two wx D r0 s0 ∧ Below w.heap.size w wx)
    case first =>
      go_region_held3 (fun w' => w'.cell? ⟨b, 0, none⟩ = some (.float .f32 r0) ∧ w'.cell? ⟨b, 1, none⟩ = some (.float .f32 s0) ∧ Below w.heap.size w w') (exact keepB hbb h0 h1 (by (with_reducible repeat (first | exact Below.refl _ _ | apply below_alloc | apply below_dN | apply below_d | refine below_setCell ?_ (by dsimp only; omega) | refine below_call (by assumption) ?_)))) (fail)
      all_goals (go_wp2; go_meet; case rel => exact ⟨_, _, rfl, rfl, by omega, by omega, by omega, by (with_reducible repeat (first | assumption | apply two.drew | (refine two.newAt ?_; simp; done) | apply two.alloc | apply two.setA | apply two.setB | refine two.other ?_ (by omega) _)), by (with_reducible repeat (first | assumption | apply two.drew | (refine two.newAt ?_; simp; done) | apply two.alloc | apply two.setA | apply two.setB | refine two.other ?_ (by omega) _)), by (with_reducible repeat (first | assumption | apply two.drew | (refine two.newAt ?_; simp; done) | apply two.alloc | apply two.setA | apply two.setB | refine two.other ?_ (by omega) _)), by (with_reducible repeat (first | assumption | apply two.drew | (refine two.newAt ?_; simp; done) | apply two.alloc | apply two.setA | apply two.setB | refine two.other ?_ (by omega) _)), by (with_reducible repeat (first | exact Below.refl _ _ | apply below_alloc | apply below_dN | apply below_d | refine below_setCell ?_ (by dsimp only; omega) | refine below_call (by assumption) ?_))⟩)
    case rest =>
    obtain ⟨C, D, rfl, rfl, nCD, lC, lD, tA0, tB0, tC0, tD0, hB0⟩ := hcut
    have nDC : D ≠ C := fun e => nCD e.symm
    have nCA : C ≠ w.heap.size := by omega
    have nDA : D ≠ w.heap.size := by omega
    have nCB : C ≠ w.heap.size + 1 := by omega
    have nDB : D ≠ w.heap.size + 1 := by omega
    clear tA tB a2 b2 hT0 hT1
    go_wp2
    go_loopw [22] (fun k wr => ∃ m r1 r2 r3 r4 : Nat, m ≤ n ∧ k = .int .i64 m ∧ cn .f32 r1 = mnF X m ∧ cn .f32 r2 = mnF Y m ∧ cn .f32 r3 = mxF X m ∧ cn .f32 r4 = mxF Y m ∧ two wr w.heap.size 0 0 ∧ two wr (w.heap.size + 1) 0 0 ∧ two wr C r1 r2 ∧ two wr D r3 r4 ∧ Below w.heap.size w wr) (fun k _ => n - (intOf k).toNat)
    case atStart => exact ⟨0, r0, s0, r0, s0, by omega, rfl, h2, h3, h2, h3, tA0, tB0, tC0, tD0, hB0⟩
    case round =>
      clear h0 h1 h2 h3 tA0 tB0 tC0 tD0 hB0
      obtain ⟨m, r1, r2, r3, r4, hm, rfl, e1, e2, e3, e4, tA, tB, tC, tD, hB⟩ := hrel
      by_cases hlt : m < n
      · obtain ⟨u, v, h0, h1, h2, h3⟩ := HH.out m hlt
        rw [← hB.cell (p := ⟨b, m * 2, none⟩) hbb] at h0
        rw [← hB.cell (p := ⟨b, m * 2 + 1, none⟩) hbb] at h1
        have d2 := tD.lt
        have c2 := tC.lt
        have hBs : w.heap.size ≤ wr.heap.size := hB.size
        have n1 : C ≠ wr.heap.size := by omega
        have n2 : D ≠ wr.heap.size := by omega
        have n3 : wr.heap.size ≠ C := by omega
        have n4 : wr.heap.size ≠ D := by omega
        have f1 : mnF X (m + 1) = if flt .f32 (X m) (mnF X m) then X m else mnF X m := rfl
        have f2 : mnF Y (m + 1) = if flt .f32 (Y m) (mnF Y m) then Y m else mnF Y m := rfl
        have f3 : mxF X (m + 1) = if fgt .f32 (X m) (mxF X m) then X m else mxF X m := rfl
        have f4 : mxF Y (m + 1) = if fgt .f32 (Y m) (mxF Y m) then Y m else mxF Y m := rfl
        have F1 := Lib.hid f1
        have F2 := Lib.hid f2
        have F3 := Lib.hid f3
        have F4 := Lib.hid f4
        clear f1 f2 f3 f4
        have c0 := tC.c0
        have z0 := tC.fr 0
        go_upto_if 30 with fail
        go_cut [] (fun wx => ∃ q, cn .f32 q = mnF X (m + 1) ∧ bx w wx wr.heap.size u v w.heap.size (w.heap.size + 1) C D q r2 r3 r4)
        case first =>
          have HB := Lib.hid hB
          clear hB
          cases g1 : flt .f32 (X m) (mnF X m)
          · rw [g1] at F1
            go_wp2
            go_meet
            case rel => exact ⟨r1, by rw [F1.out]; exact e1, by (exact ⟨by (with_reducible repeat (first | assumption | apply two.drew | (refine two.newAt ?_; simp; done) | apply two.alloc | apply two.setA | apply two.setB | refine two.other ?_ (by omega) _)), by (with_reducible repeat (first | assumption | apply two.drew | (refine two.newAt ?_; simp; done) | apply two.alloc | apply two.setA | apply two.setB | refine two.other ?_ (by omega) _)), by (with_reducible repeat (first | assumption | apply two.drew | (refine two.newAt ?_; simp; done) | apply two.alloc | apply two.setA | apply two.setB | refine two.other ?_ (by omega) _)), by (with_reducible repeat (first | assumption | apply two.drew | (refine two.newAt ?_; simp; done) | apply two.alloc | apply two.setA | apply two.setB | refine two.other ?_ (by omega) _)), by (with_reducible repeat (first | assumption | apply two.drew | (refine two.newAt ?_; simp; done) | apply two.alloc | apply two.setA | apply two.setB | refine two.other ?_ (by omega) _)), by have := HB.out; (with_reducible repeat (first | exact Below.refl _ _ | apply below_alloc | apply below_dN | apply below_d | refine below_setCell ?_ (by dsimp only; omega) | refine below_call (by assumption) ?_))⟩)⟩
          · rw [g1] at F1
            go_wp2
            go_meet
            case rel => exact ⟨u, by rw [F1.out]; exact h2, by (exact ⟨by (with_reducible repeat (first | assumption | apply two.drew | (refine two.newAt ?_; simp; done) | apply two.alloc | apply two.setA | apply two.setB | refine two.other ?_ (by omega) _)), by (with_reducible repeat (first | assumption | apply two.drew | (refine two.newAt ?_; simp; done) | apply two.alloc | apply two.setA | apply two.setB | refine two.other ?_ (by omega) _)), by (with_reducible repeat (first | assumption | apply two.drew | (refine two.newAt ?_; simp; done) | apply two.alloc | apply two.setA | apply two.setB | refine two.other ?_ (by omega) _)), by (with_reducible repeat (first | assumption | apply two.drew | (refine two.newAt ?_; simp; done) | apply two.alloc | apply two.setA | apply two.setB | refine two.other ?_ (by omega) _)), by (with_reducible repeat (first | assumption | apply two.drew | (refine two.newAt ?_; simp; done) | apply two.alloc | apply two.setA | apply two.setB | refine two.other ?_ (by omega) _)), by have := HB.out; (with_reducible repeat (first | exact Below.refl _ _ | apply below_alloc | apply below_dN | apply below_d | refine below_setCell ?_ (by dsimp only; omega) | refine below_call (by assumption) ?_))⟩)⟩
        case rest =>
        obtain ⟨q1, hq1, hbx⟩ := hcut
        clear tA tB tC tD hB c0 c2 d2 z0
        (obtain ⟨tP, tA, tB, tC, tD, hB⟩ := hbx; have c0 := tC.c0; have c1' := tC.c1; have d0 := tD.c0; have d1 := tD.c1; have p0 := tP.c0; have p1 := tP.c1; have z0 := tC.fr 0; have z1 := tC.fr 1; have z2 := tD.fr 0; have z3 := tD.fr 1; have HB := Lib.hid hB; clear hB)
        have d2 := tD.lt
        have c2 := tC.lt
        have p2 := tP.lt
        go_upto_if 38 with fail
        go_cut [] (fun wx => ∃ q, cn .f32 q = mnF Y (m + 1) ∧ bx w wx wr.heap.size u v w.heap.size (w.heap.size + 1) C D q1 q r3 r4)
        case first =>
          cases g1 : flt .f32 (Y m) (mnF Y m)
          · rw [g1] at F2
            go_wp2
            go_meet
            case rel => exact ⟨r2, by rw [F2.out]; exact e2, by (exact ⟨by (with_reducible repeat (first | assumption | apply two.drew | (refine two.newAt ?_; simp; done) | apply two.alloc | apply two.setA | apply two.setB | refine two.other ?_ (by omega) _)), by (with_reducible repeat (first | assumption | apply two.drew | (refine two.newAt ?_; simp; done) | apply two.alloc | apply two.setA | apply two.setB | refine two.other ?_ (by omega) _)), by (with_reducible repeat (first | assumption | apply two.drew | (refine two.newAt ?_; simp; done) | apply two.alloc | apply two.setA | apply two.setB | refine two.other ?_ (by omega) _)), by (with_reducible repeat (first | assumption | apply two.drew | (refine two.newAt ?_; simp; done) | apply two.alloc | apply two.setA | apply two.setB | refine two.other ?_ (by omega) _)), by (with_reducible repeat (first | assumption | apply two.drew | (refine two.newAt ?_; simp; done) | apply two.alloc | apply two.setA | apply two.setB | refine two.other ?_ (by omega) _)), by have := HB.out; (with_reducible repeat (first | exact Below.refl _ _ | apply below_alloc | apply below_dN | apply below_d | refine below_setCell ?_ (by dsimp only; omega) | refine below_call (by assumption) ?_))⟩)⟩
          · rw [g1] at F2
            go_wp2
            go_meet
            case rel => exact ⟨v, by rw [F2.out]; exact h3, by (exact ⟨by (with_reducible repeat (first | assumption | apply two.drew | (refine two.newAt ?_; simp; done) | apply two.alloc | apply two.setA | apply two.setB | refine two.other ?_ (by omega) _)), by (with_reducible repeat (first | assumption | apply two.drew | (refine two.newAt ?_; simp; done) | apply two.alloc | apply two.setA | apply two.setB | refine two.other ?_ (by omega) _)), by (with_reducible repeat (first | assumption | apply two.drew | (refine two.newAt ?_; simp; done) | apply two.alloc | apply two.setA | apply two.setB | refine two.other ?_ (by omega) _)), by (with_reducible repeat (first | assumption | apply two.drew | (refine two.newAt ?_; simp; done) | apply two.alloc | apply two.setA | apply two.setB | refine two.other ?_ (by omega) _)), by (with_reducible repeat (first | assumption | apply two.drew | (refine two.newAt ?_; simp; done) | apply two.alloc | apply two.setA | apply two.setB | refine two.other ?_ (by omega) _)), by have := HB.out; (with_reducible repeat (first | exact Below.refl _ _ | apply below_alloc | apply below_dN | apply below_d | refine below_setCell ?_ (by dsimp only; omega) | refine below_call (by assumption) ?_))⟩)⟩
        case rest =>
        obtain ⟨q2, hq2, hbx⟩ := hcut
        clear tP tA tB tC tD HB c0 c1' d0 d1 p0 p1 z0 z1 z2 z3 c2 d2 p2
        (obtain ⟨tP, tA, tB, tC, tD, hB⟩ := hbx; have c0 := tC.c0; have c1' := tC.c1; have d0 := tD.c0; have d1 := tD.c1; have p0 := tP.c0; have p1 := tP.c1; have z0 := tC.fr 0; have z1 := tC.fr 1; have z2 := tD.fr 0; have z3 := tD.fr 1; have HB := Lib.hid hB; clear hB)
        have d2 := tD.lt
        have c2 := tC.lt
        have p2 := tP.lt
        go_upto_if 46 with fail
        go_cut [] (fun wx => ∃ q, cn .f32 q = mxF X (m + 1) ∧ bx w wx wr.heap.size u v w.heap.size (w.heap.size + 1) C D q1 q2 q r4)
        case first =>
          cases g1 : fgt .f32 (X m) (mxF X m)
          · rw [g1] at F3
            go_wp2
            go_meet
            case rel => exact ⟨r3, by rw [F3.out]; exact e3, by (exact ⟨by (with_reducible repeat (first | assumption | apply two.drew | (refine two.newAt ?_; simp; done) | apply two.alloc | apply two.setA | apply two.setB | refine two.other ?_ (by omega) _)), by (with_reducible repeat (first | assumption | apply two.drew | (refine two.newAt ?_; simp; done) | apply two.alloc | apply two.setA | apply two.setB | refine two.other ?_ (by omega) _)), by (with_reducible repeat (first | assumption | apply two.drew | (refine two.newAt ?_; simp; done) | apply two.alloc | apply two.setA | apply two.setB | refine two.other ?_ (by omega) _)), by (with_reducible repeat (first | assumption | apply two.drew | (refine two.newAt ?_; simp; done) | apply two.alloc | apply two.setA | apply two.setB | refine two.other ?_ (by omega) _)), by (with_reducible repeat (first | assumption | apply two.drew | (refine two.newAt ?_; simp; done) | apply two.alloc | apply two.setA | apply two.setB | refine two.other ?_ (by omega) _)), by have := HB.out; (with_reducible repeat (first | exact Below.refl _ _ | apply below_alloc | apply below_dN | apply below_d | refine below_setCell ?_ (by dsimp only; omega) | refine below_call (by assumption) ?_))⟩)⟩
          · rw [g1] at F3
            go_wp2
            go_meet
            case rel => exact ⟨u, by rw [F3.out]; exact h2, by (exact ⟨by (with_reducible repeat (first | assumption | apply two.drew | (refine two.newAt ?_; simp; done) | apply two.alloc | apply two.setA | apply two.setB | refine two.other ?_ (by omega) _)), by (with_reducible repeat (first | assumption | apply two.drew | (refine two.newAt ?_; simp; done) | apply two.alloc | apply two.setA | apply two.setB | refine two.other ?_ (by omega) _)), by (with_reducible repeat (first | assumption | apply two.drew | (refine two.newAt ?_; simp; done) | apply two.alloc | apply two.setA | apply two.setB | refine two.other ?_ (by omega) _)), by (with_reducible repeat (first | assumption | apply two.drew | (refine two.newAt ?_; simp; done) | apply two.alloc | apply two.setA | apply two.setB | refine two.other ?_ (by omega) _)), by (with_reducible repeat (first | assumption | apply two.drew | (refine two.newAt ?_; simp; done) | apply two.alloc | apply two.setA | apply two.setB | refine two.other ?_ (by omega) _)), by have := HB.out; (with_reducible repeat (first | exact Below.refl _ _ | apply below_alloc | apply below_dN | apply below_d | refine below_setCell ?_ (by dsimp only; omega) | refine below_call (by assumption) ?_))⟩)⟩
        case rest =>
        obtain ⟨q3, hq3, hbx⟩ := hcut
        clear tP tA tB tC tD HB c0 c1' d0 d1 p0 p1 z0 z1 z2 z3 c2 d2 p2
        (obtain ⟨tP, tA, tB, tC, tD, hB⟩ := hbx; have c0 := tC.c0; have c1' := tC.c1; have d0 := tD.c0; have d1 := tD.c1; have p0 := tP.c0; have p1 := tP.c1; have z0 := tC.fr 0; have z1 := tC.fr 1; have z2 := tD.fr 0; have z3 := tD.fr 1; have HB := Lib.hid hB; clear hB)
        have d2 := tD.lt
        have c2 := tC.lt
        have p2 := tP.lt
        cases g1 : fgt .f32 (Y m) (mxF Y m)
        · rw [g1] at F4
          go_wp2
          go_roundw
          case rel => exact ⟨m + 1, q1, q2, q3, r4, by omega, by go_num, hq1, hq2, hq3, by rw [F4.out]; exact e4, by (with_reducible repeat (first | assumption | apply two.drew | (refine two.newAt ?_; simp; done) | apply two.alloc | apply two.setA | apply two.setB | refine two.other ?_ (by omega) _)), by (with_reducible repeat (first | assumption | apply two.drew | (refine two.newAt ?_; simp; done) | apply two.alloc | apply two.setA | apply two.setB | refine two.other ?_ (by omega) _)), by (with_reducible repeat (first | assumption | apply two.drew | (refine two.newAt ?_; simp; done) | apply two.alloc | apply two.setA | apply two.setB | refine two.other ?_ (by omega) _)), by (with_reducible repeat (first | assumption | apply two.drew | (refine two.newAt ?_; simp; done) | apply two.alloc | apply two.setA | apply two.setB | refine two.other ?_ (by omega) _)), by have := HB.out; (with_reducible repeat (first | exact Below.refl _ _ | apply below_alloc | apply below_dN | apply below_d | refine below_setCell ?_ (by dsimp only; omega) | refine below_call (by assumption) ?_))⟩
          case measure => first | (simp [intOf]; done) | (simp [intOf]; omega)
        · rw [g1] at F4
          go_wp2
          go_roundw
          case rel => exact ⟨m + 1, q1, q2, q3, v, by omega, by go_num, hq1, hq2, hq3, by rw [F4.out]; exact h3, by (with_reducible repeat (first | assumption | apply two.drew | (refine two.newAt ?_; simp; done) | apply two.alloc | apply two.setA | apply two.setB | refine two.other ?_ (by omega) _)), by (with_reducible repeat (first | assumption | apply two.drew | (refine two.newAt ?_; simp; done) | apply two.alloc | apply two.setA | apply two.setB | refine two.other ?_ (by omega) _)), by (with_reducible repeat (first | assumption | apply two.drew | (refine two.newAt ?_; simp; done) | apply two.alloc | apply two.setA | apply two.setB | refine two.other ?_ (by omega) _)), by (with_reducible repeat (first | assumption | apply two.drew | (refine two.newAt ?_; simp; done) | apply two.alloc | apply two.setA | apply two.setB | refine two.other ?_ (by omega) _)), by have := HB.out; (with_reducible repeat (first | exact Below.refl _ _ | apply below_alloc | apply below_dN | apply below_d | refine below_setCell ?_ (by dsimp only; omega) | refine below_call (by assumption) ?_))⟩
          case measure => first | (simp [intOf]; done) | (simp [intOf]; omega)
      · obtain rfl : m = n := by omega
        have c0 := tC.c0
        have c1' := tC.c1
        have d0 := tD.c0
        have d1 := tD.c1
        have z0 := tA.fr 0
        have z1 := tB.fr 0
        have x0 := tA.c0
        have x1 := tA.c1
        have x2 := tB.c0
        have x3 := tB.c1
        have HB := Lib.hid hB
        clear hB
        have a2 := tA.lt
        have b2 := tB.lt
        have c2 := tC.lt
        have d2 := tD.lt
        have z2 := tA.fr 1
        have z3 := tB.fr 1
        go_wp2
        go_region_held3 (fun w' => w'.cell? ⟨C, 0, none⟩ = some (.float .f32 r1) ∧ w'.cell? ⟨C, 1, none⟩ = some (.float .f32 r2) ∧ w'.cell? ⟨D, 0, none⟩ = some (.float .f32 r3) ∧ w'.cell? ⟨D, 1, none⟩ = some (.float .f32 r4)) (refine two.cells ?_ ?_ <;> (with_reducible repeat (first | assumption | apply two.drew | (refine two.newAt ?_; simp; done) | apply two.alloc | apply two.setA | apply two.setB | refine two.other ?_ (by omega) _))) (fail)
        go_wp2
        refine bodyPost_ret (v := .tuple #[.agg #[.float .f32 r1, .float .f32 r2], .agg #[.float .f32 r3, .float .f32 r4], .bool true]) (by simp [results, Try.results45, go_sem, *] <;> (first | rfl | exact ⟨rfl, rfl⟩ | exact ⟨rfl, rfl, rfl⟩ | exact ⟨rfl, rfl, rfl, rfl⟩)) rfl ?_
        exact ⟨⟨_, rfl, r1, r2, r3, r4, rfl, e1, e2, e3, e4⟩, by have := HB.out; (with_reducible repeat (first | exact Below.refl _ _ | apply below_alloc | apply below_dN | apply below_d | refine below_setCell ?_ (by dsimp only; omega) | refine below_call (by assumption) ?_))⟩
end Go.Proofs.Ytiaebemlcjjjhaa
