/- Contracts of SameMap, and its law. No condition. -/
import Derived.Test.YtodgjomnfpaebaaMap
namespace Go.Proofs.Ytodgjomnfpaebaa
open Go.RowKit

/-- The same map. -/
def smap (k k' : Int) (n e f n' e' f' : Nat) : Bool := (k == k') && (fsm n n' && fsm e e' && fsm f f')

set_option maxHeartbeats 400000 in
theorem sSameMap_any (k k' : Int) (n e f n' e' f' : Nat) (w : World) (hn : (Lit.float .f32 n).wf = true) (he : (Lit.float .f32 e).wf = true) (hf : (Lit.float .f32 f).wf = true) (hn' : (Lit.float .f32 n').wf = true) (he' : (Lit.float .f32 e').wf = true) (hf' : (Lit.float .f32 f').wf = true) :
    Calls Try.prog 19 #[.agg #[.int .i64 k, .float .f32 n, .float .f32 e, .float .f32 f], .agg #[.int .i64 k', .float .f32 n', .float .f32 e', .float .f32 f']] w fun en w' => en = .returned (.bool (smap k k' n e f n' e' f')) ∧ Below w.heap.size w w' := by
  by_cases c1 : (k == k') = true
  · by_cases c2 : (fsm n n' && fsm e e') = true
    · go_enter Try.func19, Try.ntmps19
      go_wp2_with (first | (go_at_call 34; ((with_reducible refine (sSame_any _ _ _ (by assumption) (by assumption)).mono ?_); rintro en w' ⟨rfl, rfl⟩)) | (go_at_call 25; ((with_reducible refine (l02Same_any n e n' e' _ _ _ _ _ (by simp) (by simp) (by simp) (by simp) (by simp; omega) (by simp) hn he hn' he').mono ?_); rintro en w1 ⟨rfl, hb⟩; obtain ⟨hc, hfz⟩ := bcell hb; have hz : w.heap.size + 2 ≤ w1.heap.size := (by (have hz_ := hb.size; (try simp at hz_); omega)); have hz0 : w.heap.size < w1.heap.size := (by omega); have hz1 : w.heap.size + 1 < w1.heap.size := (by omega))))
      go_ret
      exact ⟨by simp only [smap, c1, c2]; rfl, by (with_reducible repeat (first | exact Below.refl _ _ | apply below_alloc | apply below_dN | apply below_d | refine below_setCell ?_ (by dsimp only; omega) | refine below_call (by assumption) ?_))⟩
    · have c2 : (fsm n n' && fsm e e') = false := by simpa using c2
      go_enter Try.func19, Try.ntmps19
      go_wp2_with (first | (go_at_call 34; ((with_reducible refine (sSame_any _ _ _ (by assumption) (by assumption)).mono ?_); rintro en w' ⟨rfl, rfl⟩)) | (go_at_call 25; ((with_reducible refine (l02Same_any n e n' e' _ _ _ _ _ (by simp) (by simp) (by simp) (by simp) (by simp; omega) (by simp) hn he hn' he').mono ?_); rintro en w1 ⟨rfl, hb⟩; obtain ⟨hc, hfz⟩ := bcell hb; have hz : w.heap.size + 2 ≤ w1.heap.size := (by (have hz_ := hb.size; (try simp at hz_); omega)); have hz0 : w.heap.size < w1.heap.size := (by omega); have hz1 : w.heap.size + 1 < w1.heap.size := (by omega))))
      go_ret
      exact ⟨by simp only [smap, c1, c2]; rfl, by (with_reducible repeat (first | exact Below.refl _ _ | apply below_alloc | apply below_dN | apply below_d | refine below_setCell ?_ (by dsimp only; omega) | refine below_call (by assumption) ?_))⟩
  · have c1 : (k == k') = false := by simpa using c1
    go_enter Try.func19, Try.ntmps19
    go_wp2_with (first | (go_at_call 34; ((with_reducible refine (sSame_any _ _ _ (by assumption) (by assumption)).mono ?_); rintro en w' ⟨rfl, rfl⟩)) | (go_at_call 25; ((with_reducible refine (l02Same_any n e n' e' _ _ _ _ _ (by simp) (by simp) (by simp) (by simp) (by simp; omega) (by simp) hn he hn' he').mono ?_); rintro en w1 ⟨rfl, hb⟩; obtain ⟨hc, hfz⟩ := bcell hb; have hz : w.heap.size + 2 ≤ w1.heap.size := (by (have hz_ := hb.size; (try simp at hz_); omega)); have hz0 : w.heap.size < w1.heap.size := (by omega); have hz1 : w.heap.size + 1 < w1.heap.size := (by omega))))
    go_ret
    exact ⟨by simp only [smap, c1]; rfl, by (with_reducible repeat (first | exact Below.refl _ _ | apply below_alloc | apply below_dN | apply below_d | refine below_setCell ?_ (by dsimp only; omega) | refine below_call (by assumption) ?_))⟩

set_option maxHeartbeats 400000 in
theorem iSameMap_any (k k' : Int) (n e f n' e' f' : Nat) (w : World) (hn : (Lit.float .f32 n).wf = true) (he : (Lit.float .f32 e).wf = true) (hf : (Lit.float .f32 f).wf = true) (hn' : (Lit.float .f32 n').wf = true) (he' : (Lit.float .f32 e').wf = true) (hf' : (Lit.float .f32 f').wf = true) :
    Calls Try.prog 20 #[.agg #[.int .i64 k, .float .f32 n, .float .f32 e, .float .f32 f], .agg #[.int .i64 k', .float .f32 n', .float .f32 e', .float .f32 f']] w fun en w' => en = .returned (.bool (smap k k' n e f n' e' f')) ∧ Below w.heap.size w w' := by
  by_cases c1 : (k == k') = true
  · by_cases c2 : (fsm n n' && fsm e e') = true
    · go_enter Try.func20, Try.ntmps20
      go_wp2_with (first | (go_at_call 26; ((with_reducible refine (iSameNumber_any _ _ _ (by assumption) (by assumption)).mono ?_); rintro en w' ⟨rfl, rfl⟩)) | (go_at_call 13; ((with_reducible refine (iSamePlace_any n e n' e' _ hn he hn' he').mono ?_); rintro en w1 ⟨rfl, hb⟩; obtain ⟨hc, hfz⟩ := bcell hb; have hz : w.heap.size + 2 ≤ w1.heap.size := (by (have hz_ := hb.size; (try simp at hz_); omega)); have hz0 : w.heap.size < w1.heap.size := (by omega); have hz1 : w.heap.size + 1 < w1.heap.size := (by omega))))
      go_ret
      exact ⟨by simp only [smap, c1, c2]; rfl, by (with_reducible repeat (first | exact Below.refl _ _ | apply below_alloc | apply below_dN | apply below_d | refine below_setCell ?_ (by dsimp only; omega) | refine below_call (by assumption) ?_))⟩
    · have c2 : (fsm n n' && fsm e e') = false := by simpa using c2
      go_enter Try.func20, Try.ntmps20
      go_wp2_with (first | (go_at_call 26; ((with_reducible refine (iSameNumber_any _ _ _ (by assumption) (by assumption)).mono ?_); rintro en w' ⟨rfl, rfl⟩)) | (go_at_call 13; ((with_reducible refine (iSamePlace_any n e n' e' _ hn he hn' he').mono ?_); rintro en w1 ⟨rfl, hb⟩; obtain ⟨hc, hfz⟩ := bcell hb; have hz : w.heap.size + 2 ≤ w1.heap.size := (by (have hz_ := hb.size; (try simp at hz_); omega)); have hz0 : w.heap.size < w1.heap.size := (by omega); have hz1 : w.heap.size + 1 < w1.heap.size := (by omega))))
      go_ret
      exact ⟨by simp only [smap, c1, c2]; rfl, by (with_reducible repeat (first | exact Below.refl _ _ | apply below_alloc | apply below_dN | apply below_d | refine below_setCell ?_ (by dsimp only; omega) | refine below_call (by assumption) ?_))⟩
  · have c1 : (k == k') = false := by simpa using c1
    go_enter Try.func20, Try.ntmps20
    go_wp2_with (first | (go_at_call 26; ((with_reducible refine (iSameNumber_any _ _ _ (by assumption) (by assumption)).mono ?_); rintro en w' ⟨rfl, rfl⟩)) | (go_at_call 13; ((with_reducible refine (iSamePlace_any n e n' e' _ hn he hn' he').mono ?_); rintro en w1 ⟨rfl, hb⟩; obtain ⟨hc, hfz⟩ := bcell hb; have hz : w.heap.size + 2 ≤ w1.heap.size := (by (have hz_ := hb.size; (try simp at hz_); omega)); have hz0 : w.heap.size < w1.heap.size := (by omega); have hz1 : w.heap.size + 1 < w1.heap.size := (by omega))))
    go_ret
    exact ⟨by simp only [smap, c1]; rfl, by (with_reducible repeat (first | exact Below.refl _ _ | apply below_alloc | apply below_dN | apply below_d | refine below_setCell ?_ (by dsimp only; omega) | refine below_call (by assumption) ?_))⟩

set_option maxHeartbeats 400000 in
theorem lawSameMap (k k' : Int) (n e f n' e' f' : Nat) (w : World) (hn : (Lit.float .f32 n).wf = true) (he : (Lit.float .f32 e).wf = true) (hf : (Lit.float .f32 f).wf = true) (hn' : (Lit.float .f32 n').wf = true) (he' : (Lit.float .f32 e').wf = true) (hf' : (Lit.float .f32 f').wf = true) :
    Calls Try.prog 7 #[.agg #[.int .i64 k, .float .f32 n, .float .f32 e, .float .f32 f], .agg #[.int .i64 k', .float .f32 n', .float .f32 e', .float .f32 f']] w fun en w' => en = .returned (.bool true) ∧ Below w.heap.size w w' := by
  go_enter Try.func7, Try.ntmps7
  go_wp2
  (refine region_below (by kernel_rfl) (by kernel_rfl) ?_; (repeat (first | go_big_quiet_step ((first | (go_at_call 15; exact Calls.regrown_of (toMap_any _ _ _ _ _)) | (go_at_call 19; exact Calls.regrown_of (sSameMap_any _ _ _ _ _ _ _ _ _ hn he hf hn' he' hf')))) | quiet_step ((first | (go_at_call 15; exact Calls.regrown_of (toMap_any _ _ _ _ _)) | (go_at_call 19; exact Calls.regrown_of (sSameMap_any _ _ _ _ _ _ _ _ _ hn he hf hn' he' hf')))))); refine wpQuiet_nil ?_; intro w1 hb; obtain ⟨hc, hfz⟩ := bcell hb; have hz : w.heap.size + 2 ≤ w1.heap.size := (by (have hz_ := hb.size; (try simp at hz_); omega)); have hz0 : w.heap.size < w1.heap.size := (by omega); have hz1 : w.heap.size + 1 < w1.heap.size := (by omega))
  go_wp2
  (refine region_below (by kernel_rfl) (by kernel_rfl) ?_; (repeat (first | go_big_quiet_step ((first | (go_at_call 15; exact Calls.regrown_of (toMap_any _ _ _ _ _)) | (go_at_call 20; exact Calls.regrown_of (iSameMap_any _ _ _ _ _ _ _ _ _ hn he hf hn' he' hf')))) | quiet_step ((first | (go_at_call 15; exact Calls.regrown_of (toMap_any _ _ _ _ _)) | (go_at_call 20; exact Calls.regrown_of (iSameMap_any _ _ _ _ _ _ _ _ _ hn he hf hn' he' hf')))))); refine wpQuiet_nil ?_; intro w1 hb; obtain ⟨hc, hfz⟩ := bcell hb; have hz : w.heap.size + 2 ≤ w1.heap.size := (by (have hz_ := hb.size; (try simp at hz_); omega)); have hz0 : w.heap.size < w1.heap.size := (by omega); have hz1 : w.heap.size + 1 < w1.heap.size := (by omega))
  go_wp2
  go_ret
  exact ⟨rfl, by (with_reducible repeat (first | exact Below.refl _ _ | apply below_alloc | apply below_dN | apply below_d | refine below_setCell ?_ (by dsimp only; omega) | refine below_call (by assumption) ?_))⟩
end Go.Proofs.Ytodgjomnfpaebaa
