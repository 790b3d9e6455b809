/- Contracts of the functions about places that only compare. No condition. -/
import Derived.Test.YtodgjomnfpaebaaBase
namespace Go.Proofs.Ytodgjomnfpaebaa
open Go.RowKit

/-- North and East of a valid place. -/
def vplace (x y : Nat) : Bool := fge .f32 x 3196059648 && (fle .f32 x 1048576000 && (fge .f32 y 3204448256 && flt .f32 y 1056964608))

set_option maxHeartbeats 400000 in
theorem inside_any (x a b : Nat) (w : World) :
    Calls Try.prog 24 #[.float .f32 x, .float .f32 a, .float .f32 b] w fun e w' => e = .returned (.bool (fge .f32 x a && fle .f32 x b)) ∧ w = w' := by
  by_cases h : fge .f32 x a = true
  · go_enter Try.func24, Try.ntmps24
    go_wp2
    go_ret
    simp [h]
  · have h : fge .f32 x a = false := by simpa using h
    go_enter Try.func24, Try.ntmps24
    go_wp2
    go_ret
    simp [h]

set_option maxHeartbeats 400000 in
theorem toPlace_any (x a : Nat) (w : World) :
    Calls Try.prog 10 #[.agg #[.float .f32 x, .float .f32 a]] w fun e w' => e = .returned (.agg #[.float .f32 x, .float .f32 a]) ∧ Below w.heap.size w w' := by
  go_enter Try.func10, Try.ntmps10
  go_wp2
  go_returns
  exact ⟨rfl, by (with_reducible repeat (first | exact Below.refl _ _ | apply below_alloc | apply below_dN | apply below_d | refine below_setCell ?_ (by dsimp only; omega) | refine below_call (by assumption) ?_))⟩

set_option maxHeartbeats 400000 in
theorem l02Is_any (x y b o : Nat) (w : World) (h0 : w.cell? ⟨b, o, none⟩ = some (.float .f32 x)) (h1 : w.cell? ⟨b, o + 1, none⟩ = some (.float .f32 y)) :
    Calls Try.prog 23 #[.pointer (some ⟨b, o, none⟩)] w fun e w' => e = .returned (.bool (vplace x y)) ∧ w = w' := by
  by_cases c1 : fge .f32 x 3196059648 = true
  · by_cases c2 : fle .f32 x 1048576000 = true
    · by_cases c3 : fge .f32 y 3204448256 = true
      · go_enter Try.func23, Try.ntmps23
        go_wp2
        go_ret
        simp [vplace, c1, c2, c3]
      · have c3 : fge .f32 y 3204448256 = false := by simpa using c3
        go_enter Try.func23, Try.ntmps23
        go_wp2
        go_ret
        simp [vplace, c1, c2, c3]
    · have c2 : fle .f32 x 1048576000 = false := by simpa using c2
      go_enter Try.func23, Try.ntmps23
      go_wp2
      go_ret
      simp [vplace, c1, c2]
  · have c1 : fge .f32 x 3196059648 = false := by simpa using c1
    go_enter Try.func23, Try.ntmps23
    go_wp2
    go_ret
    simp [vplace, c1]

set_option maxHeartbeats 400000 in
theorem sValidPlace_any (x y : Nat) (w : World) :
    Calls Try.prog 9 #[.agg #[.float .f32 x, .float .f32 y]] w fun e w' => e = .returned (.bool (vplace x y)) ∧ Below w.heap.size w w' := by
  go_enter Try.func9, Try.ntmps9
  go_wp2_with (go_at_call 23; refine (l02Is_any x y _ _ _ (by simp) (by simp)).mono ?_; rintro e w' ⟨rfl, rfl⟩)
  go_ret
  exact ⟨rfl, by (with_reducible repeat (first | exact Below.refl _ _ | apply below_alloc | apply below_dN | apply below_d | refine below_setCell ?_ (by dsimp only; omega) | refine below_call (by assumption) ?_))⟩

set_option maxHeartbeats 400000 in
theorem iValidPlace_any (x y : Nat) (w : World) :
    Calls Try.prog 11 #[.agg #[.float .f32 x, .float .f32 y]] w fun e w' => e = .returned (.bool (vplace x y)) ∧ Below w.heap.size w w' := by
  by_cases c1 : (fge .f32 x 3196059648 && fle .f32 x 1048576000) = true
  · by_cases c3 : fge .f32 y 3204448256 = true
    · go_enter Try.func11, Try.ntmps11
      go_wp2_with (go_at_call 24; refine (inside_any _ _ _ _).mono ?_; rintro e w' ⟨rfl, rfl⟩)
      go_ret
      exact ⟨by simp only [vplace, ← Bool.and_assoc, c1, c3]; rfl, by (with_reducible repeat (first | exact Below.refl _ _ | apply below_alloc | apply below_dN | apply below_d | refine below_setCell ?_ (by dsimp only; omega) | refine below_call (by assumption) ?_))⟩
    · have c3 : fge .f32 y 3204448256 = false := by simpa using c3
      go_enter Try.func11, Try.ntmps11
      go_wp2_with (go_at_call 24; refine (inside_any _ _ _ _).mono ?_; rintro e w' ⟨rfl, rfl⟩)
      go_ret
      exact ⟨by simp only [vplace, ← Bool.and_assoc, c1, c3]; rfl, by (with_reducible repeat (first | exact Below.refl _ _ | apply below_alloc | apply below_dN | apply below_d | refine below_setCell ?_ (by dsimp only; omega) | refine below_call (by assumption) ?_))⟩
  · have c1 : (fge .f32 x 3196059648 && fle .f32 x 1048576000) = false := by simpa using c1
    go_enter Try.func11, Try.ntmps11
    go_wp2_with (go_at_call 24; refine (inside_any _ _ _ _).mono ?_; rintro e w' ⟨rfl, rfl⟩)
    go_ret
    exact ⟨by simp only [vplace, ← Bool.and_assoc, c1]; rfl, by (with_reducible repeat (first | exact Below.refl _ _ | apply below_alloc | apply below_dN | apply below_d | refine below_setCell ?_ (by dsimp only; omega) | refine below_call (by assumption) ?_))⟩

set_option maxHeartbeats 400000 in
theorem lawValidPlace (x y : Nat) (w : World) :
    Calls Try.prog 3 #[.agg #[.float .f32 x, .float .f32 y]] w fun e w' => e = .returned (.bool true) ∧ Below w.heap.size w w' := by
  go_enter Try.func3, Try.ntmps3
  go_wp2_with (first | (go_at_call 10; refine (toPlace_any _ _ _).mono ?_; rintro e w1 ⟨rfl, hb⟩; obtain ⟨hc, hf⟩ := bcell hb; have hz : w.heap.size + 1 ≤ w1.heap.size := (by (have hz_ := hb.size; (try simp at hz_); omega)); have hz0 : w.heap.size < w1.heap.size := (by omega)) | (go_at_call 9; refine (sValidPlace_any _ _ _).mono ?_; rintro e w1 ⟨rfl, hb⟩; obtain ⟨hc, hf⟩ := bcell hb; have hz : w.heap.size + 1 ≤ w1.heap.size := (by (have hz_ := hb.size; (try simp at hz_); omega)); have hz0 : w.heap.size < w1.heap.size := (by omega)) | (go_at_call 11; refine (iValidPlace_any _ _ _).mono ?_; rintro e w1 ⟨rfl, hb⟩; obtain ⟨hc, hf⟩ := bcell hb; have hz : w.heap.size + 1 ≤ w1.heap.size := (by (have hz_ := hb.size; (try simp at hz_); omega)); have hz0 : w.heap.size < w1.heap.size := (by omega)))
  go_ret
  exact ⟨rfl, by (with_reducible repeat (first | exact Below.refl _ _ | apply below_alloc | apply below_dN | apply below_d | refine below_setCell ?_ (by dsimp only; omega) | refine below_call (by assumption) ?_))⟩
end Go.Proofs.Ytodgjomnfpaebaa
