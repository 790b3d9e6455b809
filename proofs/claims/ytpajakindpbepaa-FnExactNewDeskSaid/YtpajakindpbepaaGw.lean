/- Whether a grid is valid, in both spellings. No condition. -/
import Derived.Test.YtpajakindpbepaaGv
namespace Go.Proofs.Ytpajakindpbepaa
open Go.RowKit
set_option linter.unusedSimpArgs false
theorem Ret.plain {P : Program} {f : FuncId} {args : Array Value} {w : World} {v : Value} (h : Calls P f args w (Ret (RV v) w)) : Calls P f args w fun e w' => e = .returned v ∧ Below w.heap.size w w' := h.mono fun e w' hx => by
  obtain ⟨⟨u, h1, rfl⟩, h2⟩ := hx
  exact ⟨h1, h2⟩
set_option maxRecDepth 100000 in
set_option maxHeartbeats 2000000 in
theorem l06Is_c (p b n c : Nat) (W H : Int) (X : Nat → Nat) (w : World) (hn : n ≤ 1048576) (c0 : w.cell? ⟨p, 0, none⟩ = some (.int .i64 W)) (c1 : w.cell? ⟨p, 1, none⟩ = some (.int .i64 H)) (c2 : w.cell? ⟨p, 2, none⟩ = some (.slice (some ⟨b, 0, none⟩) n c)) (hb : b < w.heap.size) (hX : FlCells w b n X) :
    Calls Try.prog 49 #[.pointer (some ⟨p, 0, none⟩)] w (Ret (RV (.bool (gridOk W H n X))) w) := by
  have hs := l06Sides_c W H
  have hf : ∀ w', Below w.heap.size w w' → _ := fun w' hB => Ret.plain (l02Finite_c b n c X w' (Nat.lt_of_lt_of_le hb hB.size) hn (hX.dn hb hB))
  have hpl := block_lt_of_cell c0
  simp only at hpl
  unfold gridOk
  cases hq : sidesOk W H
  · rw [hq] at hs
    have HS := Lib.hid hs
    clear hs hf hX hq
    go_enter Try.func49, Try.ntmps49
    go_wp2
    (refine region_below (by kernel_rfl) (by kernel_rfl) ?_; (repeat (first | go_big_quiet_step ((go_at_call 91; exact regrown_same (HS.out _))) | quiet_step ((go_at_call 91; exact regrown_same (HS.out _))))); refine wpQuiet_nil ?_; intro w1 hb; obtain ⟨hc, hfz⟩ := bcell hb; (try simp only [World.heap_drewN] at hc hfz); have hz := hb.size)
    go_wp2
    go_ret
    exact ⟨⟨_, rfl, rfl⟩, by (with_reducible repeat (first | exact Below.refl _ _ | apply below_alloc | apply below_dN | apply below_d | refine below_setCell ?_ (by dsimp only; omega) | refine below_call (by assumption) ?_))⟩
  · rw [hq] at hs
    have HS := Lib.hid hs
    have hW : 2 ≤ W ∧ W ≤ 16 ∧ 2 ≤ H ∧ H ≤ 16 := by
      unfold sidesOk at hq
      simp only [Bool.and_eq_true, decide_eq_true_eq] at hq
      omega
    obtain ⟨M, hM⟩ : ∃ M, W * H = M := ⟨_, rfl⟩
    have hMb : 0 ≤ M ∧ M ≤ 256 := by
      obtain ⟨h1, h2, h3, h4⟩ := hW
      rw [← hM]
      exact ⟨Int.mul_nonneg (by omega) (by omega), Int.le_trans (Int.mul_le_mul h2 h4 (by omega) (by omega)) (by decide)⟩
    have hwm : IntKind.i64.wrap (W * H) = M := by rw [hM, IntKind.wrap_i64]; omega
    rw [hM]
    clear hq hs
    by_cases en : (n : Int) = M
    · rw [decide_eq_true en]
      generalize allF X n = B at hf
      have HF := Lib.hid hf
      clear hf hX hW
      go_enter Try.func49, Try.ntmps49
      go_wp2
      (refine region_below (by kernel_rfl) (by kernel_rfl) ?_; (repeat (first | go_big_quiet_step ((first | (go_at_call 91; exact regrown_same (HS.out _)) | (go_at_call 92; exact Calls.regrown_of (HF.out _ (below_regrown _ _ _))))) | quiet_step ((first | (go_at_call 91; exact regrown_same (HS.out _)) | (go_at_call 92; exact Calls.regrown_of (HF.out _ (below_regrown _ _ _))))))); refine wpQuiet_nil ?_; intro w1 hb; obtain ⟨hc, hfz⟩ := bcell hb; (try simp only [World.heap_drewN] at hc hfz); have hz := hb.size)
      go_wp2
      go_ret
      exact ⟨⟨_, rfl, by simp [RV]⟩, by (with_reducible repeat (first | exact Below.refl _ _ | apply below_alloc | apply below_dN | apply below_d | refine below_setCell ?_ (by dsimp only; omega) | refine below_call (by assumption) ?_))⟩
    · rw [decide_eq_false en]
      clear hf hX hW
      go_enter Try.func49, Try.ntmps49
      go_wp2
      (refine region_below (by kernel_rfl) (by kernel_rfl) ?_; (repeat (first | go_big_quiet_step ((go_at_call 91; exact regrown_same (HS.out _))) | quiet_step ((go_at_call 91; exact regrown_same (HS.out _))))); refine wpQuiet_nil ?_; intro w1 hb; obtain ⟨hc, hfz⟩ := bcell hb; (try simp only [World.heap_drewN] at hc hfz); have hz := hb.size)
      go_wp2
      go_ret
      exact ⟨⟨_, rfl, by simp [RV]⟩, by (with_reducible repeat (first | exact Below.refl _ _ | apply below_alloc | apply below_dN | apply below_d | refine below_setCell ?_ (by dsimp only; omega) | refine below_call (by assumption) ?_))⟩
set_option maxRecDepth 100000 in
set_option maxHeartbeats 2000000 in
theorem iValidGrid_c (b n c : Nat) (W H : Int) (X : Nat → Nat) (w : World) (hn : n ≤ 1048576) (hb : b < w.heap.size) (hX : FlCells w b n X) :
    Calls Try.prog 54 #[.agg #[.int .i64 W, .int .i64 H, .slice (some ⟨b, 0, none⟩) n c]] w (Ret (RV (.bool (gridOk W H n X))) w) := by
  have hs := areSides_c W H
  unfold gridOk
  have hb0 : Below w.heap.size w (w.alloc (.cells #[.int .i64 W, .int .i64 H, .slice (some ⟨b, 0, none⟩) n c] 30)) := by (with_reducible repeat (first | exact Below.refl _ _ | apply below_alloc | apply below_dN | apply below_d | refine below_setCell ?_ (by dsimp only; omega) | refine below_call (by assumption) ?_))
  cases hq : sidesOk W H
  · rw [hq] at hs
    have HS := Lib.hid hs
    clear hs hX hq
    go_enter Try.func54, Try.ntmps54
    go_wp2
    (refine region_below (by kernel_rfl) (by kernel_rfl) ?_; (repeat (first | go_big_quiet_step ((go_at_call 75; exact regrown_same (HS.out _))) | quiet_step ((go_at_call 75; exact regrown_same (HS.out _))))); refine wpQuiet_nil ?_; intro w1 hb; obtain ⟨hc, hfz⟩ := bcell hb; (try simp only [World.heap_drewN] at hc hfz); have hz := hb.size)
    go_wp2
    go_ret
    exact ⟨⟨_, rfl, rfl⟩, by (with_reducible repeat (first | exact Below.refl _ _ | apply below_alloc | apply below_dN | apply below_d | refine below_setCell ?_ (by dsimp only; omega) | refine below_call (by assumption) ?_))⟩
  · rw [hq] at hs
    have HS := Lib.hid hs
    have hW : 2 ≤ W ∧ W ≤ 16 ∧ 2 ≤ H ∧ H ≤ 16 := by
      unfold sidesOk at hq
      simp only [Bool.and_eq_true, decide_eq_true_eq] at hq
      omega
    obtain ⟨M, hM⟩ : ∃ M, W * H = M := ⟨_, rfl⟩
    have hMb : 0 ≤ M ∧ M ≤ 256 := by
      obtain ⟨h1, h2, h3, h4⟩ := hW
      rw [← hM]
      exact ⟨Int.mul_nonneg (by omega) (by omega), Int.le_trans (Int.mul_le_mul h2 h4 (by omega) (by omega)) (by decide)⟩
    have hwm : IntKind.i64.wrap (W * H) = M := by rw [hM, IntKind.wrap_i64]; omega
    rw [hM]
    have HLEN : ∀ w' : World, Calls Try.prog 56 #[.slice (some ⟨b, 0, none⟩) n c] w' fun e w'' => e = .returned (.int .i64 n) ∧ w' = w'' := fun w' => by
      go_enter Try.func56, Try.ntmps56
      go_wp2
      go_ret
      exact ⟨rfl, rfl⟩
    have HLEN := Lib.hid HLEN
    clear hq hs
    by_cases en : (n : Int) = M
    · rw [decide_eq_true en]
      have hf : ∀ w', Below w.heap.size w w' → _ := fun w' hB => Ret.plain (areFinite_c b n c X w' (Nat.lt_of_lt_of_le hb hB.size) (by omega) (hX.dn hb hB))
      generalize allF X n = B at hf
      have HF := Lib.hid hf
      clear hf hX hW
      go_enter Try.func54, Try.ntmps54
      go_wp2
      (refine region_below (by kernel_rfl) (by kernel_rfl) ?_; (repeat (first | go_big_quiet_step ((first | (go_at_call 75; exact regrown_same (HS.out _)) | (go_at_call 56; exact regrown_same (HLEN.out _)) | (go_at_call 79; exact Calls.regrown_of (HF.out _ (hb0.trans ((below_regrown _ _ _).mono (by simp))))))) | quiet_step ((first | (go_at_call 75; exact regrown_same (HS.out _)) | (go_at_call 56; exact regrown_same (HLEN.out _)) | (go_at_call 79; exact Calls.regrown_of (HF.out _ (hb0.trans ((below_regrown _ _ _).mono (by simp))))))))); refine wpQuiet_nil ?_; intro w1 hb; obtain ⟨hc, hfz⟩ := bcell hb; (try simp only [World.heap_drewN] at hc hfz); have hz := hb.size)
      go_wp2
      go_ret
      exact ⟨⟨_, rfl, by simp [RV]⟩, by (with_reducible repeat (first | exact Below.refl _ _ | apply below_alloc | apply below_dN | apply below_d | refine below_setCell ?_ (by dsimp only; omega) | refine below_call (by assumption) ?_))⟩
    · rw [decide_eq_false en]
      clear hX hW
      go_enter Try.func54, Try.ntmps54
      go_wp2
      (refine region_below (by kernel_rfl) (by kernel_rfl) ?_; (repeat (first | go_big_quiet_step ((first | (go_at_call 75; exact regrown_same (HS.out _)) | (go_at_call 56; exact regrown_same (HLEN.out _)))) | quiet_step ((first | (go_at_call 75; exact regrown_same (HS.out _)) | (go_at_call 56; exact regrown_same (HLEN.out _)))))); refine wpQuiet_nil ?_; intro w1 hb; obtain ⟨hc, hfz⟩ := bcell hb; (try simp only [World.heap_drewN] at hc hfz); have hz := hb.size)
      go_wp2
      go_ret
      exact ⟨⟨_, rfl, by simp [RV]⟩, by (with_reducible repeat (first | exact Below.refl _ _ | apply below_alloc | apply below_dN | apply below_d | refine below_setCell ?_ (by dsimp only; omega) | refine below_call (by assumption) ?_))⟩
end Go.Proofs.Ytpajakindpbepaa
