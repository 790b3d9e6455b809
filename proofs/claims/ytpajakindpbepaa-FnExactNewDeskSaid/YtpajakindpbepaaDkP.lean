/- Lists of places held against each other. No condition. -/
import Derived.Test.YtpajakindpbepaaGL
namespace Go.Proofs.Ytpajakindpbepaa
open Go.RowKit
set_option linter.unusedSimpArgs false
set_option maxHeartbeats 400000 in
theorem eqPlace_c (x y x' y' X Y : Nat) (hx : cn .f32 x = X) (hy : cn .f32 y = Y) (hx' : cn .f32 x' = X) (hy' : cn .f32 y' = Y) (w : World) : Calls Try.prog 86 #[.agg #[.float .f32 x, .float .f32 y], .agg #[.float .f32 x', .float .f32 y']] w (Ret (RV (.bool true)) w) := by
  subst hx hy
  go_enter Try.func86, Try.ntmps86
  go_wp2_with (first | (go_at_call 98; ((with_reducible refine (sameFloat_c _ _ _ (by assumption) (by simp only [*]) _).mono ?_); rintro e w1 ⟨⟨v, rfl, rfl⟩, hb⟩); obtain ⟨hc, hfz⟩ := bcell hb; (try simp only [World.heap_drewN] at hc hfz); have hz : w.heap.size + 2 ≤ w1.heap.size := (by (have hz_ := hb.size; (try simp at hz_); omega)); have hz0 : w.heap.size < w1.heap.size := (by omega); have hz1 : w.heap.size + 1 < w1.heap.size := (by omega)) | (refine wpL_fconv_fits rfl 25 62 _ rfl .f32 .f64 _ rfl (by decide) Try.underlying25 Try.underlying62 (fits_wide _) ?_; intro r n hr hw))
  go_ret
  exact ⟨⟨_, rfl, rfl⟩, by (with_reducible repeat (first | exact Below.refl _ _ | apply below_alloc | apply below_dN | apply below_d | refine below_setCell ?_ (by dsimp only; omega) | refine below_call (by assumption) ?_))⟩



def PlCells (w : World) (b n : Nat) (X Y : Nat → Nat) : Prop := ∀ j, j < n → ∃ r s, w.cell? ⟨b, j * 2, none⟩ = some (.float .f32 r) ∧ w.cell? ⟨b, j * 2 + 1, none⟩ = some (.float .f32 s) ∧ cn .f32 r = X j ∧ cn .f32 s = Y j

set_option maxHeartbeats 1000000 in
theorem eqPlaceS_c (b b' n cap cap' : Nat) (X Y : Nat → Nat) (w : World) (hn : n ≤ 1048576) (hb : b < w.heap.size) (hb' : b' < w.heap.size) (h : PlCells w b n X Y) (h' : PlCells w b' n X Y) :
    Calls Try.prog 87 #[.slice (some ⟨b, 0, none⟩) n cap, .slice (some ⟨b', 0, none⟩) n cap'] w (Ret (RV (.bool true)) w) := by
  go_enter Try.func87, Try.ntmps87
  go_wp2
  go_loopw [5] (fun k wr => ∃ m : Nat, m ≤ n ∧ k = .int .i64 m ∧ Below w.heap.size w wr) (fun k _ => n - (intOf k).toNat)
  case atStart => exact ⟨0, by omega, rfl, by (with_reducible repeat (first | exact Below.refl _ _ | apply below_alloc | apply below_dN | apply below_d | refine below_setCell ?_ (by dsimp only; omega) | refine below_call (by assumption) ?_))⟩
  case round =>
    obtain ⟨m, hm, rfl, hB⟩ := hrel
    by_cases hlt : m < n
    · obtain ⟨r, s, h0, h1, h2, h3⟩ := h m hlt
      obtain ⟨r', s', h0', h1', h2', h3'⟩ := h' m hlt
      rw [← hB.cell (p := ⟨b, m * 2, none⟩) hb] at h0
      rw [← hB.cell (p := ⟨b, m * 2 + 1, none⟩) hb] at h1
      rw [← hB.cell (p := ⟨b', m * 2, none⟩) hb'] at h0'
      rw [← hB.cell (p := ⟨b', m * 2 + 1, none⟩) hb'] at h1'
      have HH := Lib.hid h
      have HH' := Lib.hid h'
      have hbw : b < wr.heap.size := Nat.lt_of_lt_of_le hb hB.size
      have hbw' : b' < wr.heap.size := Nat.lt_of_lt_of_le hb' hB.size
      obtain ⟨U, hU⟩ : ∃ U, X m = U := ⟨_, rfl⟩
      obtain ⟨V, hV⟩ : ∃ V, Y m = V := ⟨_, rfl⟩
      rw [hU] at h2 h2'
      rw [hV] at h3 h3'
      clear h h' hU hV
      go_wp2
      (apply region_looseK (k := 10); (kernel_rfl); (kernel_rfl); intro opsL KL hopsL hKL; (dsimp only [List.take]))
      iterate 8 (apply rel_val; (rfl); (intro wq hbq; have hcq := (bcell hbq).1; (go_simp; first | done | rfl | exact ⟨rfl, rfl⟩)); (try go_simp))
      (apply rel_call (RV (.bool true)); (rfl); (intro wq hbq; (go_simp; first | done | rfl | exact ⟨rfl, rfl⟩)); (intro wq hbq; exact eqPlace_c _ _ _ _ _ _ h2 h3 h2' h3' _); (try go_simp))
      rintro v rfl
      (apply rel_val; (rfl); (intro wq hbq; have hcq := (bcell hbq).1; (go_simp; first | done | rfl | exact ⟨rfl, rfl⟩)); (try go_simp))
      (refine wpRel_nil ?_; refine hKL _ _ ?_; clear hKL hopsL opsL KL; intro w1 hb hnews; obtain ⟨hc, hfz⟩ := bcell hb; (try simp only [World.heap_drewN] at hc hfz); have hz := hb.size; (dsimp only [List.drop]))
      go_wp2
      go_roundw
      case rel => exact ⟨m + 1, by omega, by go_num, by (with_reducible repeat (first | exact Below.refl _ _ | apply below_alloc | apply below_dN | apply below_d | refine below_setCell ?_ (by dsimp only; omega) | refine below_call (by assumption) ?_))⟩
      case measure => first | (simp [intOf]; done) | (simp [intOf]; omega)
    · obtain rfl : m = n := by omega
      go_wp2
      go_ret
      exact ⟨⟨_, rfl, rfl⟩, by (with_reducible repeat (first | exact Below.refl _ _ | apply below_alloc | apply below_dN | apply below_d | refine below_setCell ?_ (by dsimp only; omega) | refine below_call (by assumption) ?_))⟩

end Go.Proofs.Ytpajakindpbepaa
