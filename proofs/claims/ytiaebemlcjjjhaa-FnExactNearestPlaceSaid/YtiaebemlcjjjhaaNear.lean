/- Contracts of NearestPlace in both spellings. No condition. -/
import Derived.Test.YtiaebemlcjjjhaaLArePl
import Derived.Test.YtiaebemlcjjjhaaCT
import Derived.Deep.RegionHeld
namespace Go.Proofs.Ytiaebemlcjjjhaa
open Go.RowKit
set_option linter.unusedSimpArgs false

/-- The nearest one of the first m. -/
def nb (Z : Nat → Nat) : Nat → Nat × Nat
  | 0 => (0, Z 0)
  | m + 1 => if flt .f32 (Z m) (nb Z m).2 then (m, Z m) else nb Z m
theorem flt_self (x : Nat) : flt .f32 x x = false := by
  unfold flt Ieee.Format.order
  cases e : FloatKind.f32.format.read x with
  | nan s f => rfl
  | infinity s => cases s <;> rfl
  | number s m p => simp [Ieee.Datum.order]
theorem nb_one (Z : Nat → Nat) : nb Z 1 = (0, Z 0) := by
  simp [nb, flt_self]
theorem nb_lt (Z : Nat → Nat) (m : Nat) : (nb Z m).1 ≤ m := by
  induction m with
  | zero => exact Nat.le_refl _
  | succ m ih =>
    unfold nb
    split
    · exact Nat.le_succ _
    · exact Nat.le_succ_of_le ih
def nearR (ok : Bool) (best least : Nat) (v : Value) : Prop := ∃ r, v = .tuple #[.int .i64 ((if ok then best else 0 : Nat) : Int), .float .f32 r, .bool ok] ∧ cn .f32 r = (if ok then least else 0) ∧ okf .f32 r
def nearOk (n : Nat) (X Y : Nat → Nat) (P Q : Nat) : Bool := arePl n X Y && vplace P Q
def nearZ (X Y : Nat → Nat) (P Q : Nat) (j : Nat) : Nat := ApartV (X j) (Y j) P Q
theorem arePl_n {n : Nat} {X Y : Nat → Nat} (h : arePl n X Y = true) : 1 ≤ n ∧ n ≤ 64 := by
  simp only [arePl, Bool.and_eq_true, decide_eq_true_eq] at h
  exact h.2

set_option maxRecDepth 100000 in
set_option maxHeartbeats 2000000 in
theorem iNear_c (b n cap p q P Q : Nat) (X Y : Nat → Nat) (hp : cn .f32 p = P) (hq : cn .f32 q = Q) (w : World) (hbb : b < w.heap.size) (hn : n ≤ 1048576) (h : PlCells w b n X Y) :
    Calls Try.prog 42 #[.slice (some ⟨b, 0, none⟩) n cap, .agg #[.float .f32 p, .float .f32 q]] w (Ret (nearR (nearOk n X Y P Q) (nb (nearZ X Y P Q) n).1 (nb (nearZ X Y P Q) n).2) w) := by
  have HA := Lib.hid (fun (w' : World) (hB : Below w.heap.size w w') => iArePlaces_c b n cap X Y w' (Nat.lt_of_lt_of_le hbb hB.size) hn (fun j hj => by
    obtain ⟨r, s, h0, h1, h2⟩ := h j hj
    exact ⟨r, s, by rw [hB.cell (p := ⟨b, j * 2, none⟩) hbb]; exact h0, by rw [hB.cell (p := ⟨b, j * 2 + 1, none⟩) hbb]; exact h1, h2⟩))
  have HH := Lib.hid h
  clear h
  cases c1 : arePl n X Y
  · have HV := Lib.hid (show nearOk n X Y P Q = false by unfold nearOk; rw [c1]; rfl)
    rw [HV.out]
    go_enter Try.func42, Try.ntmps42
    go_wp2_with (go_at_call 47; ((with_reducible refine (HA.out _ (by (with_reducible repeat (first | exact Below.refl _ _ | apply below_alloc | apply below_dN | apply below_d | refine below_setCell ?_ (by dsimp only; omega) | refine below_call (by assumption) ?_)))).mono ?_); rintro e w1 ⟨⟨v, rfl, rfl⟩, hb⟩); have hu2 : ∀ n : Nat, n < n + 1 + 1 := (fun n => by omega); have hu3 : ∀ n : Nat, n < n + 1 + 1 + 1 := (fun n => by omega); obtain ⟨hc, hfz⟩ := bcell hb; (try simp only [World.heap_drewN] at hc hfz); have hs_ := hb.size; (try simp at hs_); (try have hz0 : w.heap.size < w1.heap.size := (by omega)); (try have hz1 : w.heap.size + 1 < w1.heap.size := (by omega)); (try have hz2 : w.heap.size + 2 < w1.heap.size := (by omega)); (try have hz3 : w.heap.size + 3 < w1.heap.size := (by omega)); (try have hza : wa.heap.size < w1.heap.size := (by omega)); (try have hza1 : wa.heap.size + 1 < w1.heap.size := (by omega)); (try have hzb : wb.heap.size < w1.heap.size := (by omega)); (try have hzb1 : wb.heap.size + 1 < w1.heap.size := (by omega)); (try have hzc : wc.heap.size < w1.heap.size := (by omega)); (try have hzd : wd.heap.size < w1.heap.size := (by omega)))
    go_ret3
    exact ⟨⟨_, rfl, 0, rfl, rfl, okf_of (by decide)⟩, by (with_reducible repeat (first | exact Below.refl _ _ | apply below_alloc | apply below_dN | apply below_d | refine below_setCell ?_ (by dsimp only; omega) | refine below_call (by assumption) ?_))⟩
  · obtain ⟨n1, n2⟩ := arePl_n c1
    cases c2 : vplace P Q
    · have HV := Lib.hid (show nearOk n X Y P Q = false by unfold nearOk; rw [c1, c2]; rfl)
      rw [HV.out]
      go_enter Try.func42, Try.ntmps42
      go_wp2_with (first | (go_at_call 47; ((with_reducible refine (HA.out _ (by (with_reducible repeat (first | exact Below.refl _ _ | apply below_alloc | apply below_dN | apply below_d | refine below_setCell ?_ (by dsimp only; omega) | refine below_call (by assumption) ?_)))).mono ?_); rintro e w1 ⟨⟨v, rfl, rfl⟩, hb⟩); have hu2 : ∀ n : Nat, n < n + 1 + 1 := (fun n => by omega); have hu3 : ∀ n : Nat, n < n + 1 + 1 + 1 := (fun n => by omega); obtain ⟨hc, hfz⟩ := bcell hb; (try simp only [World.heap_drewN] at hc hfz); have hs_ := hb.size; (try simp at hs_); (try have hz0 : w.heap.size < w1.heap.size := (by omega)); (try have hz1 : w.heap.size + 1 < w1.heap.size := (by omega)); (try have hz2 : w.heap.size + 2 < w1.heap.size := (by omega)); (try have hz3 : w.heap.size + 3 < w1.heap.size := (by omega)); (try have hza : wa.heap.size < w1.heap.size := (by omega)); (try have hza1 : wa.heap.size + 1 < w1.heap.size := (by omega)); (try have hzb : wb.heap.size < w1.heap.size := (by omega)); (try have hzb1 : wb.heap.size + 1 < w1.heap.size := (by omega)); (try have hzc : wc.heap.size < w1.heap.size := (by omega)); (try have hzd : wd.heap.size < w1.heap.size := (by omega))) | (go_at_call 57; ((with_reducible refine (iValidPlace_c _ _ _ _ hp hq _).mono ?_); rintro e w1 ⟨⟨v, rfl, rfl⟩, hb⟩); have hu2 : ∀ n : Nat, n < n + 1 + 1 := (fun n => by omega); have hu3 : ∀ n : Nat, n < n + 1 + 1 + 1 := (fun n => by omega); obtain ⟨hc, hfz⟩ := bcell hb; (try simp only [World.heap_drewN] at hc hfz); have hs_ := hb.size; (try simp at hs_); (try have hz0 : w.heap.size < w1.heap.size := (by omega)); (try have hz1 : w.heap.size + 1 < w1.heap.size := (by omega)); (try have hz2 : w.heap.size + 2 < w1.heap.size := (by omega)); (try have hz3 : w.heap.size + 3 < w1.heap.size := (by omega)); (try have hza : wa.heap.size < w1.heap.size := (by omega)); (try have hza1 : wa.heap.size + 1 < w1.heap.size := (by omega)); (try have hzb : wb.heap.size < w1.heap.size := (by omega)); (try have hzb1 : wb.heap.size + 1 < w1.heap.size := (by omega)); (try have hzc : wc.heap.size < w1.heap.size := (by omega)); (try have hzd : wd.heap.size < w1.heap.size := (by omega))))
      go_ret3
      exact ⟨⟨_, rfl, 0, rfl, rfl, okf_of (by decide)⟩, by (with_reducible repeat (first | exact Below.refl _ _ | apply below_alloc | apply below_dN | apply below_d | refine below_setCell ?_ (by dsimp only; omega) | refine below_call (by assumption) ?_))⟩
    · have HV := Lib.hid (show nearOk n X Y P Q = true by unfold nearOk; rw [c1, c2]; rfl)
      rw [HV.out]
      obtain ⟨Z, hZ⟩ : ∃ Z, nearZ X Y P Q = Z := ⟨_, rfl⟩
      rw [hZ]
      have HZ := Lib.hid hZ
      clear hZ
      obtain ⟨r0, s0, h0, h1, h2, h3⟩ := HH.out 0 (by omega)
      rw [Nat.zero_mul] at h0
      rw [show 0 * 2 + 1 = 1 from rfl] at h1
      have hn0 : 0 < n := by omega
      have hn00 : n ≠ 0 := by omega
      go_enter Try.func42, Try.ntmps42
      go_wp2_with (first | (go_at_call 47; ((with_reducible refine (HA.out _ (by (with_reducible repeat (first | exact Below.refl _ _ | apply below_alloc | apply below_dN | apply below_d | refine below_setCell ?_ (by dsimp only; omega) | refine below_call (by assumption) ?_)))).mono ?_); rintro e wa ⟨⟨v, rfl, rfl⟩, hb⟩); have hu2 : ∀ n : Nat, n < n + 1 + 1 := (fun n => by omega); have hu3 : ∀ n : Nat, n < n + 1 + 1 + 1 := (fun n => by omega); obtain ⟨hc, hfz⟩ := bcell hb; (try simp only [World.heap_drewN] at hc hfz); have hs_ := hb.size; (try simp at hs_); (try have hz0 : w.heap.size < wa.heap.size := (by omega)); (try have hz1 : w.heap.size + 1 < wa.heap.size := (by omega)); (try have hz2 : w.heap.size + 2 < wa.heap.size := (by omega)); (try have hz3 : w.heap.size + 3 < wa.heap.size := (by omega)); (try have hza : wa.heap.size < wa.heap.size := (by omega)); (try have hza1 : wa.heap.size + 1 < wa.heap.size := (by omega)); (try have hzb : wb.heap.size < wa.heap.size := (by omega)); (try have hzb1 : wb.heap.size + 1 < wa.heap.size := (by omega)); (try have hzc : wc.heap.size < wa.heap.size := (by omega)); (try have hzd : wd.heap.size < wa.heap.size := (by omega))) | (go_at_call 57; ((with_reducible refine (iValidPlace_c _ _ _ _ hp hq _).mono ?_); rintro e wb ⟨⟨v, rfl, rfl⟩, hb⟩); have hu2 : ∀ n : Nat, n < n + 1 + 1 := (fun n => by omega); have hu3 : ∀ n : Nat, n < n + 1 + 1 + 1 := (fun n => by omega); obtain ⟨hc, hfz⟩ := bcell hb; (try simp only [World.heap_drewN] at hc hfz); have hs_ := hb.size; (try simp at hs_); (try have hz0 : w.heap.size < wb.heap.size := (by omega)); (try have hz1 : w.heap.size + 1 < wb.heap.size := (by omega)); (try have hz2 : w.heap.size + 2 < wb.heap.size := (by omega)); (try have hz3 : w.heap.size + 3 < wb.heap.size := (by omega)); (try have hza : wa.heap.size < wb.heap.size := (by omega)); (try have hza1 : wa.heap.size + 1 < wb.heap.size := (by omega)); (try have hzb : wb.heap.size < wb.heap.size := (by omega)); (try have hzb1 : wb.heap.size + 1 < wb.heap.size := (by omega)); (try have hzc : wc.heap.size < wb.heap.size := (by omega)); (try have hzd : wd.heap.size < wb.heap.size := (by omega))))
      have q0 : b < w.heap.size + 1 := by omega
      have q1 : b < wa.heap.size := by omega
      have q2 : b < wb.heap.size := by omega
      have q3 : b ≠ w.heap.size := by omega
      (apply region_looseK (k := 7); (kernel_rfl); (kernel_rfl); intro opsL KL hopsL hKL; (dsimp only [List.take]))
      iterate 4 (apply rel_val; (rfl); (intro wq hbq; have hcq := (bcell hbq).1; (go_simp; first | done | rfl | exact ⟨rfl, rfl⟩)); (try go_simp))
      (apply rel_call (RF .f32 (ApartV (X 0) (Y 0) P Q)); (rfl); (intro wq hbq; (go_simp; first | done | rfl | exact ⟨rfl, rfl⟩)); (intro wq hbq; exact iApart_c _ _ _ _ _ _ _ _ h2 h3 hp hq _); (try go_simp))
      rintro v ⟨r, rfl, hr, hw⟩
      (apply rel_val; (rfl); (intro wq hbq; have hcq := (bcell hbq).1; (go_simp; first | done | rfl | exact ⟨rfl, rfl⟩)); (try go_simp))
      (apply rel_of; rotate_left; (rfl); (intro wq hbq; have hcq := (bcell hbq).1; (go_simp; first | done | rfl | exact ⟨rfl, rfl⟩)); rotate_right; (exact RF.mk (by assumption) (by assumption)); (try go_simp); rintro v ⟨r, rfl, hr, hw⟩)
      (refine wpRel_nil ?_; refine hKL _ _ ?_; clear hKL hopsL opsL KL; intro w1 hb hnews; obtain ⟨hc, hfz⟩ := bcell hb; (try simp only [World.heap_drewN] at hc hfz); have hz : w.heap.size + 1 ≤ w1.heap.size := (by (have hz_ := hb.size; (try simp at hz_); omega)); have hz0 : w.heap.size < w1.heap.size := (by omega); (dsimp only [List.drop]))
      have HN := Lib.hid hnews
      clear hnews
      go_wp2
      go_loopw [7, 8, 27] (fun e1 e2 k wr => ∃ m B : Nat, ∃ r : Nat, m ≤ n ∧ k = .int .i64 m ∧ e1 = .int .i64 B ∧ e2 = .float .f32 r ∧ B = (nb Z m).1 ∧ cn .f32 r = (nb Z m).2 ∧ okf .f32 r ∧ wr.cell? ⟨w.heap.size, 0, none⟩ = some (.float .f32 p) ∧ wr.cell? ⟨w.heap.size, 1, none⟩ = some (.float .f32 q) ∧ w.heap.size < wr.heap.size ∧ Below w.heap.size w wr) (fun _ _ k _ => n - (intOf k).toNat)
      case atStart => exact ⟨0, 0, r, by omega, rfl, rfl, rfl, rfl, by rw [hr]; show _ = Z 0; rw [← HZ.out]; rfl, hw, by simp [*], by simp [*], by omega, by (with_reducible repeat (first | exact Below.refl _ _ | apply below_alloc | apply below_dN | apply below_d | refine below_setCell ?_ (by dsimp only; omega) | refine below_call (by assumption) ?_))⟩
      case round =>
        obtain ⟨m, B, r', hm, rfl, rfl, rfl, hBB, hr', hw', hc0, hc1, hzr, hB⟩ := hrel
        clear h0 h1 h2 h3
        by_cases hlt : m < n
        · obtain ⟨u, v, h0, h1, h2, h3⟩ := HH.out m hlt
          rw [← hB.cell (p := ⟨b, m * 2, none⟩) hbb] at h0
          rw [← hB.cell (p := ⟨b, m * 2 + 1, none⟩) hbb] at h1
          have hZm : ApartV (X m) (Y m) P Q = Z m := by rw [← HZ.out]; rfl
          have HB := Lib.hid hBB
          clear hBB
          cases cc : flt .f32 (Z m) (nb Z m).2
          · have hstep : nb Z (m + 1) = nb Z m := by rw [nb, cc]; rfl
            have HS := Lib.hid hstep
            clear hstep
            go_wp2_with (go_at_call 77; ((with_reducible refine (iApart_c _ _ _ _ _ _ _ _ h2 h3 hp hq _).mono ?_); rintro e w1 ⟨⟨v, rfl, r, rfl, hr, hw⟩, hb⟩); have hu2 : ∀ n : Nat, n < n + 1 + 1 := (fun n => by omega); have hu3 : ∀ n : Nat, n < n + 1 + 1 + 1 := (fun n => by omega); obtain ⟨hc, hfz⟩ := bcell hb; (try simp only [World.heap_drewN] at hc hfz); have hs_ := hb.size; (try simp at hs_); (try have hz0 : w.heap.size < w1.heap.size := (by omega)); (try have hz1 : w.heap.size + 1 < w1.heap.size := (by omega)); (try have hz2 : w.heap.size + 2 < w1.heap.size := (by omega)); (try have hz3 : w.heap.size + 3 < w1.heap.size := (by omega)); (try have hza : wa.heap.size < w1.heap.size := (by omega)); (try have hza1 : wa.heap.size + 1 < w1.heap.size := (by omega)); (try have hzb : wb.heap.size < w1.heap.size := (by omega)); (try have hzb1 : wb.heap.size + 1 < w1.heap.size := (by omega)); (try have hzc : wc.heap.size < w1.heap.size := (by omega)); (try have hzd : wd.heap.size < w1.heap.size := (by omega)))
            go_roundw
            case rel => exact ⟨m + 1, B, r', by omega, by go_num, rfl, rfl, by rw [HS.out]; exact HB.out, by rw [HS.out]; exact hr', hw', (hc _ _ (Nat.lt_of_lt_of_le hzr (by simp))).trans ((World.cell?_alloc_some _ _ _ (by rw [hc0]; rfl)).trans hc0), (hc _ _ (Nat.lt_of_lt_of_le hzr (by simp))).trans ((World.cell?_alloc_some _ _ _ (by rw [hc1]; rfl)).trans hc1), by omega, by (with_reducible repeat (first | exact Below.refl _ _ | apply below_alloc | apply below_dN | apply below_d | refine below_setCell ?_ (by dsimp only; omega) | refine below_call (by assumption) ?_))⟩
            case measure => first | (simp [intOf]; done) | (simp [intOf]; omega)
          · have hstep : nb Z (m + 1) = (m, Z m) := by rw [nb, cc]; rfl
            have HS := Lib.hid hstep
            clear hstep
            go_wp2_with (go_at_call 77; ((with_reducible refine (iApart_c _ _ _ _ _ _ _ _ h2 h3 hp hq _).mono ?_); rintro e w1 ⟨⟨v, rfl, r, rfl, hr, hw⟩, hb⟩); have hu2 : ∀ n : Nat, n < n + 1 + 1 := (fun n => by omega); have hu3 : ∀ n : Nat, n < n + 1 + 1 + 1 := (fun n => by omega); obtain ⟨hc, hfz⟩ := bcell hb; (try simp only [World.heap_drewN] at hc hfz); have hs_ := hb.size; (try simp at hs_); (try have hz0 : w.heap.size < w1.heap.size := (by omega)); (try have hz1 : w.heap.size + 1 < w1.heap.size := (by omega)); (try have hz2 : w.heap.size + 2 < w1.heap.size := (by omega)); (try have hz3 : w.heap.size + 3 < w1.heap.size := (by omega)); (try have hza : wa.heap.size < w1.heap.size := (by omega)); (try have hza1 : wa.heap.size + 1 < w1.heap.size := (by omega)); (try have hzb : wb.heap.size < w1.heap.size := (by omega)); (try have hzb1 : wb.heap.size + 1 < w1.heap.size := (by omega)); (try have hzc : wc.heap.size < w1.heap.size := (by omega)); (try have hzd : wd.heap.size < w1.heap.size := (by omega)))
            go_roundw
            case rel => exact ⟨m + 1, m, r, by omega, by go_num, rfl, rfl, by rw [HS.out], by rw [HS.out]; first | exact hr | exact hr.trans hZm, hw, (hc _ _ (Nat.lt_of_lt_of_le hzr (by simp))).trans ((World.cell?_alloc_some _ _ _ (by rw [hc0]; rfl)).trans hc0), (hc _ _ (Nat.lt_of_lt_of_le hzr (by simp))).trans ((World.cell?_alloc_some _ _ _ (by rw [hc1]; rfl)).trans hc1), by omega, by (with_reducible repeat (first | exact Below.refl _ _ | apply below_alloc | apply below_dN | apply below_d | refine below_setCell ?_ (by dsimp only; omega) | refine below_call (by assumption) ?_))⟩
            case measure => first | (simp [intOf]; done) | (simp [intOf]; omega)
        · obtain rfl : m = n := by omega
          have HB := Lib.hid hBB
          clear hBB
          go_wp2
          go_ret3
          exact ⟨⟨_, rfl, r', by rw [← HB.out]; rfl, hr', hw'⟩, by (with_reducible repeat (first | exact Below.refl _ _ | apply below_alloc | apply below_dN | apply below_d | refine below_setCell ?_ (by dsimp only; omega) | refine below_call (by assumption) ?_))⟩
set_option maxRecDepth 100000 in
set_option maxHeartbeats 2000000 in
theorem sNear_c (b n cap p q P Q : Nat) (X Y : Nat → Nat) (hp : cn .f32 p = P) (hq : cn .f32 q = Q) (w : World) (hbb : b < w.heap.size) (hn : n ≤ 1048576) (h : PlCells w b n X Y) :
    Calls Try.prog 40 #[.slice (some ⟨b, 0, none⟩) n cap, .agg #[.float .f32 p, .float .f32 q]] w (Ret (nearR (nearOk n X Y P Q) (nb (nearZ X Y P Q) n).1 (nb (nearZ X Y P Q) n).2) w) := by
  have HA := Lib.hid (fun (w' : World) (hB : Below w.heap.size w w') => l02Are_c b n cap X Y w' hn (fun j hj => by
    obtain ⟨r, s, h0, h1, h2⟩ := h j hj
    exact ⟨r, s, by rw [hB.cell (p := ⟨b, j * 2, none⟩) hbb]; exact h0, by rw [hB.cell (p := ⟨b, j * 2 + 1, none⟩) hbb]; exact h1, h2⟩))
  have HH := Lib.hid h
  clear h
  cases c1 : arePl n X Y
  · have HV := Lib.hid (show nearOk n X Y P Q = false by unfold nearOk; rw [c1]; rfl)
    rw [HV.out]
    go_enter Try.func40, Try.ntmps40
    go_wp2_with (go_at_call 86; refine (HA.out _ (by (with_reducible repeat (first | exact Below.refl _ _ | apply below_alloc | apply below_dN | apply below_d | refine below_setCell ?_ (by dsimp only; omega) | refine below_call (by assumption) ?_)))).mono ?_; rintro e w' ⟨rfl, rfl⟩)
    go_ret3
    exact ⟨⟨_, rfl, 0, rfl, rfl, okf_of (by decide)⟩, by (with_reducible repeat (first | exact Below.refl _ _ | apply below_alloc | apply below_dN | apply below_d | refine below_setCell ?_ (by dsimp only; omega) | refine below_call (by assumption) ?_))⟩
  · obtain ⟨n1, n2⟩ := arePl_n c1
    cases c2 : vplace P Q
    · have HV := Lib.hid (show nearOk n X Y P Q = false by unfold nearOk; rw [c1, c2]; rfl)
      rw [HV.out]
      go_enter Try.func40, Try.ntmps40
      go_wp2_with (first | (go_at_call 86; refine (HA.out _ (by (with_reducible repeat (first | exact Below.refl _ _ | apply below_alloc | apply below_dN | apply below_d | refine below_setCell ?_ (by dsimp only; omega) | refine below_call (by assumption) ?_)))).mono ?_; rintro e w' ⟨rfl, rfl⟩) | (go_at_call 55; refine (l02Is_c p q _ _ _ _ hp hq _ (by simp) (by simp)).mono ?_; rintro e w' ⟨rfl, rfl⟩))
      go_ret3
      exact ⟨⟨_, rfl, 0, rfl, rfl, okf_of (by decide)⟩, by (with_reducible repeat (first | exact Below.refl _ _ | apply below_alloc | apply below_dN | apply below_d | refine below_setCell ?_ (by dsimp only; omega) | refine below_call (by assumption) ?_))⟩
    · have HV := Lib.hid (show nearOk n X Y P Q = true by unfold nearOk; rw [c1, c2]; rfl)
      rw [HV.out]
      obtain ⟨Z, hZ⟩ : ∃ Z, nearZ X Y P Q = Z := ⟨_, rfl⟩
      rw [hZ]
      have HZ := Lib.hid hZ
      clear hZ
      obtain ⟨r0, s0, h0, h1, h2, h3⟩ := HH.out 0 (by omega)
      rw [Nat.zero_mul] at h0
      rw [show 0 * 2 + 1 = 1 from rfl] at h1
      have hn0 : 0 < n := by omega
      have hn00 : n ≠ 0 := by omega
      go_enter Try.func40, Try.ntmps40
      go_wp2_with (first | (go_at_call 86; refine (HA.out _ (by (with_reducible repeat (first | exact Below.refl _ _ | apply below_alloc | apply below_dN | apply below_d | refine below_setCell ?_ (by dsimp only; omega) | refine below_call (by assumption) ?_)))).mono ?_; rintro e w' ⟨rfl, rfl⟩) | (go_at_call 55; refine (l02Is_c p q _ _ _ _ hp hq _ (by simp) (by simp)).mono ?_; rintro e w' ⟨rfl, rfl⟩))
      have q0 : b < w.heap.size + 1 := by omega
      have q3 : b ≠ w.heap.size := by omega
      (apply region_looseK (k := 6); (kernel_rfl); (kernel_rfl); intro opsL KL hopsL hKL; (dsimp only [List.take]))
      iterate 4 (apply rel_val; (rfl); (intro wq hbq; have hcq := (bcell hbq).1; (go_simp; first | done | rfl | exact ⟨rfl, rfl⟩)); (try go_simp))
      (apply rel_call (RF .f32 (ApartV (X 0) (Y 0) P Q)); (rfl); (intro wq hbq; (go_simp; first | done | rfl | exact ⟨rfl, rfl⟩)); (intro wq hbq; exact sApart_c _ _ _ _ _ _ _ _ h2 h3 hp hq _); (try go_simp))
      rintro v ⟨r, rfl, hr, hw⟩
      (apply rel_of; rotate_left; (rfl); (intro wq hbq; have hcq := (bcell hbq).1; (go_simp; first | done | rfl | exact ⟨rfl, rfl⟩)); rotate_right; (exact RF.mk (by assumption) (by assumption)); (try go_simp); rintro v ⟨r, rfl, hr, hw⟩)
      (refine wpRel_nil ?_; refine hKL _ _ ?_; clear hKL hopsL opsL KL; intro w1 hb hnews; obtain ⟨hc, hfz⟩ := bcell hb; (try simp only [World.heap_drewN] at hc hfz); have hz : w.heap.size + 1 ≤ w1.heap.size := (by (have hz_ := hb.size; (try simp at hz_); omega)); have hz0 : w.heap.size < w1.heap.size := (by omega); (dsimp only [List.drop]))
      have HN := Lib.hid hnews
      clear hnews
      go_wp2
      go_loopw [7, 8, 9] (fun e1 e2 k wr => ∃ m B : Nat, ∃ r : Nat, 1 ≤ m ∧ m ≤ n ∧ k = .int .i64 m ∧ e1 = .int .i64 B ∧ e2 = .float .f32 r ∧ B = (nb Z m).1 ∧ cn .f32 r = (nb Z m).2 ∧ okf .f32 r ∧ wr.cell? ⟨w.heap.size, 0, none⟩ = some (.float .f32 p) ∧ wr.cell? ⟨w.heap.size, 1, none⟩ = some (.float .f32 q) ∧ w.heap.size < wr.heap.size ∧ Below w.heap.size w wr) (fun _ _ k _ => n - (intOf k).toNat)
      case atStart => exact ⟨1, 0, r, by omega, by omega, rfl, rfl, rfl, by rw [nb_one], by rw [hr, nb_one]; show _ = Z 0; rw [← HZ.out]; rfl, hw, by simp [*], by simp [*], by omega, by (with_reducible repeat (first | exact Below.refl _ _ | apply below_alloc | apply below_dN | apply below_d | refine below_setCell ?_ (by dsimp only; omega) | refine below_call (by assumption) ?_))⟩
      case round =>
        obtain ⟨m, B, r', hm1, hm, rfl, rfl, rfl, hBB, hr', hw', hc0, hc1, hzr, hB⟩ := hrel
        clear h0 h1 h2 h3
        by_cases hlt : m < n
        · obtain ⟨u, v, h0, h1, h2, h3⟩ := HH.out m hlt
          rw [← hB.cell (p := ⟨b, m * 2, none⟩) hbb] at h0
          rw [← hB.cell (p := ⟨b, m * 2 + 1, none⟩) hbb] at h1
          have hZm : ApartV (X m) (Y m) P Q = Z m := by rw [← HZ.out]; rfl
          have hbw : b < wr.heap.size := Nat.lt_of_lt_of_le hbb hB.size
          have HB := Lib.hid hBB
          clear hBB
          cases cc : flt .f32 (Z m) (nb Z m).2
          · have hstep : nb Z (m + 1) = nb Z m := by rw [nb, cc]; rfl
            have HS := Lib.hid hstep
            clear hstep
            go_wp2
            (apply region_looseK (k := 7); (kernel_rfl); (kernel_rfl); intro opsL KL hopsL hKL; (dsimp only [List.take]))
            iterate 5 (apply rel_val; (rfl); (intro wq hbq; have hcq := (bcell hbq).1; (go_simp; first | done | rfl | exact ⟨rfl, rfl⟩)); (try go_simp))
            (apply rel_call (RF .f32 (ApartV (X m) (Y m) P Q)); (rfl); (intro wq hbq; (go_simp; first | done | rfl | exact ⟨rfl, rfl⟩)); (intro wq hbq; exact sApart_c _ _ _ _ _ _ _ _ h2 h3 hp hq _); (try go_simp))
            rintro v ⟨r, rfl, hr, hw⟩
            (apply rel_of; rotate_left; (rfl); (intro wq hbq; have hcq := (bcell hbq).1; (go_simp; first | done | rfl | exact ⟨rfl, rfl⟩)); rotate_right; (exact RF.mk (by assumption) (by assumption)); (try go_simp); rintro v ⟨r, rfl, hr, hw⟩)
            (refine wpRel_nil ?_; refine hKL _ _ ?_; clear hKL hopsL opsL KL; intro w1 hb hnews; obtain ⟨hc, hfz⟩ := bcell hb; (try simp only [World.heap_drewN] at hc hfz); have hz := hb.size; (dsimp only [List.drop]))
            go_wp2
            go_roundw
            case rel => exact ⟨m + 1, B, r', by omega, by omega, by go_num, rfl, rfl, by rw [HS.out]; exact HB.out, by rw [HS.out]; exact hr', hw', (hc _ _ hzr).trans hc0, (hc _ _ hzr).trans hc1, by omega, by (with_reducible repeat (first | exact Below.refl _ _ | apply below_alloc | apply below_dN | apply below_d | refine below_setCell ?_ (by dsimp only; omega) | refine below_call (by assumption) ?_))⟩
            case measure => first | (simp [intOf]; done) | (simp [intOf]; omega)
          · have hstep : nb Z (m + 1) = (m, Z m) := by rw [nb, cc]; rfl
            have HS := Lib.hid hstep
            clear hstep
            go_wp2
            (apply region_looseK (k := 7); (kernel_rfl); (kernel_rfl); intro opsL KL hopsL hKL; (dsimp only [List.take]))
            iterate 5 (apply rel_val; (rfl); (intro wq hbq; have hcq := (bcell hbq).1; (go_simp; first | done | rfl | exact ⟨rfl, rfl⟩)); (try go_simp))
            (apply rel_call (RF .f32 (ApartV (X m) (Y m) P Q)); (rfl); (intro wq hbq; (go_simp; first | done | rfl | exact ⟨rfl, rfl⟩)); (intro wq hbq; exact sApart_c _ _ _ _ _ _ _ _ h2 h3 hp hq _); (try go_simp))
            rintro v ⟨r, rfl, hr, hw⟩
            (apply rel_of; rotate_left; (rfl); (intro wq hbq; have hcq := (bcell hbq).1; (go_simp; first | done | rfl | exact ⟨rfl, rfl⟩)); rotate_right; (exact RF.mk (by assumption) (by assumption)); (try go_simp); rintro v ⟨r, rfl, hr, hw⟩)
            (refine wpRel_nil ?_; refine hKL _ _ ?_; clear hKL hopsL opsL KL; intro w1 hb hnews; obtain ⟨hc, hfz⟩ := bcell hb; (try simp only [World.heap_drewN] at hc hfz); have hz := hb.size; (dsimp only [List.drop]))
            go_wp2
            go_roundw
            case rel => exact ⟨m + 1, m, r, by omega, by omega, by go_num, rfl, rfl, by rw [HS.out], by rw [HS.out]; first | exact hr | exact hr.trans hZm, hw, (hc _ _ hzr).trans hc0, (hc _ _ hzr).trans hc1, by omega, by (with_reducible repeat (first | exact Below.refl _ _ | apply below_alloc | apply below_dN | apply below_d | refine below_setCell ?_ (by dsimp only; omega) | refine below_call (by assumption) ?_))⟩
            case measure => first | (simp [intOf]; done) | (simp [intOf]; omega)
        · obtain rfl : m = n := by omega
          have HB := Lib.hid hBB
          clear hBB
          go_wp2
          go_ret3
          exact ⟨⟨_, rfl, r', by rw [← HB.out]; rfl, hr', hw'⟩, by (with_reducible repeat (first | exact Below.refl _ _ | apply below_alloc | apply below_dN | apply below_d | refine below_setCell ?_ (by dsimp only; omega) | refine below_call (by assumption) ?_))⟩
end Go.Proofs.Ytiaebemlcjjjhaa
