/- Contracts of ValidMap and SameMap, and the laws of them. No condition. -/
import Derived.Test.YtodgjomnfpaebaaSame2
namespace Go.Proofs.Ytodgjomnfpaebaa
open Go.RowKit

set_option maxHeartbeats 400000 in
theorem toMap_any (k : Int) (n e f : Nat) (w : World) :
    Calls Try.prog 15 #[.agg #[.int .i64 k, .float .f32 n, .float .f32 e, .float .f32 f]] w fun en w' => en = .returned (.agg #[.int .i64 k, .float .f32 n, .float .f32 e, .float .f32 f]) ∧ Below w.heap.size w w' := by
  go_enter Try.func15, Try.ntmps15
  go_wp2_with ((go_at_call 10; refine (toPlace_any _ _ _).mono ?_; rintro e w1 ⟨rfl, hb⟩; obtain ⟨hc, hf⟩ := bcell hb; have hz : w.heap.size + 3 ≤ w1.heap.size := (by (have hz_ := hb.size; (try simp at hz_); omega)); have hz0 : w.heap.size < w1.heap.size := (by omega); have hz1 : w.heap.size + 1 < w1.heap.size := (by omega); have hz2 : w.heap.size + 2 < w1.heap.size := (by omega)))
  refine bodyPost_ret (v := .agg #[.int .i64 k, .float .f32 n, .float .f32 e, .float .f32 f]) (by simp [results, Try.results15, go_sem, hc]) rfl ?_
  exact ⟨rfl, by (with_reducible repeat (first | exact Below.refl _ _ | apply below_alloc | apply below_dN | apply below_d | refine below_setCell ?_ (by dsimp only; omega) | refine below_call (by assumption) ?_))⟩

/-- A valid map. -/
def vmap (k : Int) (n e f : Nat) : Bool := decide (0 ≤ k) && (decide (k ≤ 6) && (vplace n e && (fge .f32 f 3195388559 && fle .f32 f 1047904911)))

set_option maxHeartbeats 400000 in
theorem l00In_any (a b c : Int) (w : World) :
    Calls Try.prog 30 #[.int .i64 a, .int .i64 b, .int .i64 c] w fun e w' => e = .returned (.bool (decide (b ≤ a) && decide (a ≤ c))) ∧ w = w' := by
  by_cases h : b ≤ a
  · go_enter Try.func30, Try.ntmps30
    go_wp2
    go_ret
    exact ⟨by simp [h], rfl⟩
  · have h' : decide (b ≤ a) = false := by simpa using h
    go_enter Try.func30, Try.ntmps30
    go_wp2
    go_ret
    exact ⟨by simp, rfl⟩

set_option maxHeartbeats 400000 in
theorem within_any (a b c : Int) (w : World) :
    Calls Try.prog 28 #[.int .i64 a, .int .i64 b, .int .i64 c] w fun e w' => e = .returned (.bool (decide (b ≤ a) && decide (a ≤ c))) ∧ w = w' := by
  by_cases h : b ≤ a
  · go_enter Try.func28, Try.ntmps28
    go_wp2
    go_ret
    exact ⟨by simp [h], rfl⟩
  · have h' : decide (b ≤ a) = false := by simpa using h
    go_enter Try.func28, Try.ntmps28
    go_wp2
    go_ret
    exact ⟨by simp, rfl⟩


set_option maxHeartbeats 400000 in
theorem l03Is_any (k : Int) (n e f b : Nat) (w : World) (h0 : w.cell? ⟨b, 0, none⟩ = some (.int .i64 k)) (h1 : w.cell? ⟨b, 1, none⟩ = some (.float .f32 n)) (h2 : w.cell? ⟨b, 2, none⟩ = some (.float .f32 e)) (h3 : w.cell? ⟨b, 3, none⟩ = some (.float .f32 f)) :
    Calls Try.prog 27 #[.pointer (some ⟨b, 0, none⟩)] w fun en w' => en = .returned (.bool (vmap k n e f)) ∧ w = w' := by
  by_cases c1 : (decide (0 ≤ k) && decide (k ≤ 6)) = true
  · by_cases c2 : vplace n e = true
    · by_cases c3 : fge .f32 f 3195388559 = true
      · go_enter Try.func27, Try.ntmps27
        go_wp2_with (first | (go_at_call 30; refine (l00In_any _ _ _ _).mono ?_; rintro e w' ⟨rfl, rfl⟩) | (go_at_call 23; refine (l02Is_any n e _ _ _ h1 h2).mono ?_; rintro e w' ⟨rfl, rfl⟩))
        go_ret
        exact ⟨by simp only [vmap, ← Bool.and_assoc, c1, c2, c3]; rfl, rfl⟩
      · have c3 : fge .f32 f 3195388559 = false := by simpa using c3
        go_enter Try.func27, Try.ntmps27
        go_wp2_with (first | (go_at_call 30; refine (l00In_any _ _ _ _).mono ?_; rintro e w' ⟨rfl, rfl⟩) | (go_at_call 23; refine (l02Is_any n e _ _ _ h1 h2).mono ?_; rintro e w' ⟨rfl, rfl⟩))
        go_ret
        exact ⟨by simp only [vmap, ← Bool.and_assoc, c1, c2, c3]; rfl, rfl⟩
    · have c2 : vplace n e = false := by simpa using c2
      go_enter Try.func27, Try.ntmps27
      go_wp2_with (first | (go_at_call 30; refine (l00In_any _ _ _ _).mono ?_; rintro e w' ⟨rfl, rfl⟩) | (go_at_call 23; refine (l02Is_any n e _ _ _ h1 h2).mono ?_; rintro e w' ⟨rfl, rfl⟩))
      go_ret
      exact ⟨by simp only [vmap, ← Bool.and_assoc, c1, c2]; rfl, rfl⟩
  · have c1 : (decide (0 ≤ k) && decide (k ≤ 6)) = false := by simpa using c1
    go_enter Try.func27, Try.ntmps27
    go_wp2_with (first | (go_at_call 30; refine (l00In_any _ _ _ _).mono ?_; rintro e w' ⟨rfl, rfl⟩) | (go_at_call 23; refine (l02Is_any n e _ _ _ h1 h2).mono ?_; rintro e w' ⟨rfl, rfl⟩))
    go_ret
    exact ⟨by simp only [vmap, ← Bool.and_assoc, c1]; rfl, rfl⟩

set_option maxHeartbeats 400000 in
theorem sValidMap_any (k : Int) (n e f : Nat) (w : World) :
    Calls Try.prog 14 #[.agg #[.int .i64 k, .float .f32 n, .float .f32 e, .float .f32 f]] w fun en w' => en = .returned (.bool (vmap k n e f)) ∧ Below w.heap.size w w' := by
  go_enter Try.func14, Try.ntmps14
  go_wp2_with (go_at_call 27; refine (l03Is_any k n e f _ _ (by simp) (by simp) (by simp) (by simp)).mono ?_; rintro en w' ⟨rfl, rfl⟩)
  go_ret
  exact ⟨rfl, by (with_reducible repeat (first | exact Below.refl _ _ | apply below_alloc | apply below_dN | apply below_d | refine below_setCell ?_ (by dsimp only; omega) | refine below_call (by assumption) ?_))⟩

set_option maxHeartbeats 400000 in
theorem iValidMap_any (k : Int) (n e f : Nat) (w : World) :
    Calls Try.prog 16 #[.agg #[.int .i64 k, .float .f32 n, .float .f32 e, .float .f32 f]] w fun en w' => en = .returned (.bool (vmap k n e f)) ∧ Below w.heap.size w w' := by
  by_cases c1 : (decide (0 ≤ k) && decide (k ≤ 6)) = true
  · by_cases c2 : vplace n e = true
    · go_enter Try.func16, Try.ntmps16
      go_wp2_with (first | (go_at_call 28; refine (within_any _ _ _ _).mono ?_; rintro e w' ⟨rfl, rfl⟩) | (go_at_call 24; refine (inside_any _ _ _ _).mono ?_; rintro e w' ⟨rfl, rfl⟩) | (go_at_call 11; refine (iValidPlace_any _ _ _).mono ?_; rintro e w1 ⟨rfl, hb⟩; obtain ⟨hc, hf⟩ := bcell hb; have hz : w.heap.size + 1 ≤ w1.heap.size := (by (have hz_ := hb.size; (try simp at hz_); omega)); have hz0 : w.heap.size < w1.heap.size := (by omega)))
      go_ret
      exact ⟨by simp only [vmap, ← Bool.and_assoc, c1, c2]; rfl, by (with_reducible repeat (first | exact Below.refl _ _ | apply below_alloc | apply below_dN | apply below_d | refine below_setCell ?_ (by dsimp only; omega) | refine below_call (by assumption) ?_))⟩
    · have c2 : vplace n e = false := by simpa using c2
      go_enter Try.func16, Try.ntmps16
      go_wp2_with (first | (go_at_call 28; refine (within_any _ _ _ _).mono ?_; rintro e w' ⟨rfl, rfl⟩) | (go_at_call 24; refine (inside_any _ _ _ _).mono ?_; rintro e w' ⟨rfl, rfl⟩) | (go_at_call 11; refine (iValidPlace_any _ _ _).mono ?_; rintro e w1 ⟨rfl, hb⟩; obtain ⟨hc, hf⟩ := bcell hb; have hz : w.heap.size + 1 ≤ w1.heap.size := (by (have hz_ := hb.size; (try simp at hz_); omega)); have hz0 : w.heap.size < w1.heap.size := (by omega)))
      go_ret
      exact ⟨by simp only [vmap, ← Bool.and_assoc, c1, c2]; rfl, by (with_reducible repeat (first | exact Below.refl _ _ | apply below_alloc | apply below_dN | apply below_d | refine below_setCell ?_ (by dsimp only; omega) | refine below_call (by assumption) ?_))⟩
  · have c1 : (decide (0 ≤ k) && decide (k ≤ 6)) = false := by simpa using c1
    go_enter Try.func16, Try.ntmps16
    go_wp2_with (first | (go_at_call 28; refine (within_any _ _ _ _).mono ?_; rintro e w' ⟨rfl, rfl⟩) | (go_at_call 24; refine (inside_any _ _ _ _).mono ?_; rintro e w' ⟨rfl, rfl⟩) | (go_at_call 11; refine (iValidPlace_any _ _ _).mono ?_; rintro e w1 ⟨rfl, hb⟩; obtain ⟨hc, hf⟩ := bcell hb; have hz : w.heap.size + 1 ≤ w1.heap.size := (by (have hz_ := hb.size; (try simp at hz_); omega)); have hz0 : w.heap.size < w1.heap.size := (by omega)))
    go_ret
    exact ⟨by simp only [vmap, ← Bool.and_assoc, c1]; rfl, by (with_reducible repeat (first | exact Below.refl _ _ | apply below_alloc | apply below_dN | apply below_d | refine below_setCell ?_ (by dsimp only; omega) | refine below_call (by assumption) ?_))⟩

set_option maxHeartbeats 400000 in
theorem lawValidMap (k : Int) (n e f : Nat) (w : World) :
    Calls Try.prog 5 #[.agg #[.int .i64 k, .float .f32 n, .float .f32 e, .float .f32 f]] w fun e w' => e = .returned (.bool true) ∧ Below w.heap.size w w' := by
  go_enter Try.func5, Try.ntmps5
  go_wp2_with (first | (go_at_call 15; refine (toMap_any _ _ _ _ _).mono ?_; rintro e w1 ⟨rfl, hb⟩; obtain ⟨hc, hf⟩ := bcell hb; have hz : w.heap.size + 1 ≤ w1.heap.size := (by (have hz_ := hb.size; (try simp at hz_); omega)); have hz0 : w.heap.size < w1.heap.size := (by omega)) | (go_at_call 14; refine (sValidMap_any _ _ _ _ _).mono ?_; rintro e w1 ⟨rfl, hb⟩; obtain ⟨hc, hf⟩ := bcell hb; have hz : w.heap.size + 1 ≤ w1.heap.size := (by (have hz_ := hb.size; (try simp at hz_); omega)); have hz0 : w.heap.size < w1.heap.size := (by omega)) | (go_at_call 16; refine (iValidMap_any _ _ _ _ _).mono ?_; rintro e w1 ⟨rfl, hb⟩; obtain ⟨hc, hf⟩ := bcell hb; have hz : w.heap.size + 1 ≤ w1.heap.size := (by (have hz_ := hb.size; (try simp at hz_); omega)); have hz0 : w.heap.size < w1.heap.size := (by omega)))
  go_ret
  exact ⟨rfl, by (with_reducible repeat (first | exact Below.refl _ _ | apply below_alloc | apply below_dN | apply below_d | refine below_setCell ?_ (by dsimp only; omega) | refine below_call (by assumption) ?_))⟩
end Go.Proofs.Ytodgjomnfpaebaa
