/- Contracts of SamePlace, ValidMap and SameMap, and the laws of them. No condition. -/
import Derived.Test.YtodgjomnfpaebaaSame
namespace Go.Proofs.Ytodgjomnfpaebaa
open Go.RowKit

/-- The same canonical bits. -/
abbrev fsm (x y : Nat) : Bool := ((cn .f32 x : Nat) : Int) == ((cn .f32 y : Nat) : Int)

set_option maxHeartbeats 400000 in
theorem l02Same_any (x y u v b o c q : Nat) (w : World) (h0 : w.cell? ⟨b, o, none⟩ = some (.float .f32 x)) (h1 : w.cell? ⟨b, o + 1, none⟩ = some (.float .f32 y))
    (h2 : w.cell? ⟨c, q, none⟩ = some (.float .f32 u)) (h3 : w.cell? ⟨c, q + 1, none⟩ = some (.float .f32 v)) (hb : b < w.heap.size) (hc : c < w.heap.size)
    (hx : (Lit.float .f32 x).wf = true) (hy : (Lit.float .f32 y).wf = true) (hu : (Lit.float .f32 u).wf = true) (hv : (Lit.float .f32 v).wf = true) :
    Calls Try.prog 25 #[.pointer (some ⟨b, o, none⟩), .pointer (some ⟨c, q, none⟩)] w fun e w' => e = .returned (.bool (fsm x u && fsm y v)) ∧ Below w.heap.size w w' := by
  by_cases c1 : fsm x u = true
  · go_enter Try.func25, Try.ntmps25
    go_wp2
    (refine region_below (by kernel_rfl) (by kernel_rfl) ?_; (repeat (first | go_big_quiet_step ((go_at_call 34; exact regrown_same (sSame_any _ _ _ (by assumption) (by assumption)))) | quiet_step ((go_at_call 34; exact regrown_same (sSame_any _ _ _ (by assumption) (by assumption)))))); refine wpQuiet_nil ?_; intro w1 hb; obtain ⟨hc, hf⟩ := bcell hb; have hz := hb.size)
    go_wp2
    go_ret
    exact ⟨by simp [c1], by (with_reducible repeat (first | exact Below.refl _ _ | apply below_alloc | apply below_dN | apply below_d | refine below_setCell ?_ (by dsimp only; omega) | refine below_call (by assumption) ?_))⟩
  · have c1 : fsm x u = false := by simpa using c1
    go_enter Try.func25, Try.ntmps25
    go_wp2
    (refine region_below (by kernel_rfl) (by kernel_rfl) ?_; (repeat (first | go_big_quiet_step ((go_at_call 34; exact regrown_same (sSame_any _ _ _ (by assumption) (by assumption)))) | quiet_step ((go_at_call 34; exact regrown_same (sSame_any _ _ _ (by assumption) (by assumption)))))); refine wpQuiet_nil ?_; intro w1 hb; obtain ⟨hc, hf⟩ := bcell hb; have hz := hb.size)
    go_wp2
    go_ret
    exact ⟨by simp [c1], by (with_reducible repeat (first | exact Below.refl _ _ | apply below_alloc | apply below_dN | apply below_d | refine below_setCell ?_ (by dsimp only; omega) | refine below_call (by assumption) ?_))⟩

set_option maxHeartbeats 400000 in
theorem sSamePlace_any (x y u v : Nat) (w : World)
    (hx : (Lit.float .f32 x).wf = true) (hy : (Lit.float .f32 y).wf = true) (hu : (Lit.float .f32 u).wf = true) (hv : (Lit.float .f32 v).wf = true) :
    Calls Try.prog 12 #[.agg #[.float .f32 x, .float .f32 y], .agg #[.float .f32 u, .float .f32 v]] w fun e w' => e = .returned (.bool (fsm x u && fsm y v)) ∧ Below w.heap.size w w' := by
  go_enter Try.func12, Try.ntmps12
  go_wp2_with (go_at_call 25; ((with_reducible refine (l02Same_any x y u v _ _ _ _ _ (by simp) (by simp) (by simp) (by simp) (by simp; omega) (by simp) hx hy hu hv).mono ?_); rintro e w1 ⟨rfl, hb⟩))
  go_ret
  exact ⟨rfl, by (with_reducible repeat (first | exact Below.refl _ _ | apply below_alloc | apply below_dN | apply below_d | refine below_setCell ?_ (by dsimp only; omega) | refine below_call (by assumption) ?_))⟩

set_option maxHeartbeats 400000 in
theorem iSamePlace_any (x y u v : Nat) (w : World)
    (hx : (Lit.float .f32 x).wf = true) (hy : (Lit.float .f32 y).wf = true) (hu : (Lit.float .f32 u).wf = true) (hv : (Lit.float .f32 v).wf = true) :
    Calls Try.prog 13 #[.agg #[.float .f32 x, .float .f32 y], .agg #[.float .f32 u, .float .f32 v]] w fun e w' => e = .returned (.bool (fsm x u && fsm y v)) ∧ Below w.heap.size w w' := by
  by_cases c1 : fsm x u = true
  · go_enter Try.func13, Try.ntmps13
    go_wp2_with (go_at_call 26; ((with_reducible refine (iSameNumber_any _ _ _ (by assumption) (by assumption)).mono ?_); rintro e w' ⟨rfl, rfl⟩))
    go_ret
    exact ⟨by simp [c1], by (with_reducible repeat (first | exact Below.refl _ _ | apply below_alloc | apply below_dN | apply below_d | refine below_setCell ?_ (by dsimp only; omega) | refine below_call (by assumption) ?_))⟩
  · have c1 : fsm x u = false := by simpa using c1
    go_enter Try.func13, Try.ntmps13
    go_wp2_with (go_at_call 26; ((with_reducible refine (iSameNumber_any _ _ _ (by assumption) (by assumption)).mono ?_); rintro e w' ⟨rfl, rfl⟩))
    go_ret
    exact ⟨by simp [c1], by (with_reducible repeat (first | exact Below.refl _ _ | apply below_alloc | apply below_dN | apply below_d | refine below_setCell ?_ (by dsimp only; omega) | refine below_call (by assumption) ?_))⟩

set_option maxHeartbeats 400000 in
theorem lawSamePlace (x y u v : Nat) (w : World)
    (hx : (Lit.float .f32 x).wf = true) (hy : (Lit.float .f32 y).wf = true) (hu : (Lit.float .f32 u).wf = true) (hv : (Lit.float .f32 v).wf = true) :
    Calls Try.prog 4 #[.agg #[.float .f32 x, .float .f32 y], .agg #[.float .f32 u, .float .f32 v]] w fun e w' => e = .returned (.bool true) ∧ Below w.heap.size w w' := by
  go_enter Try.func4, Try.ntmps4
  go_wp2
  (refine region_below (by kernel_rfl) (by kernel_rfl) ?_; (repeat (first | go_big_quiet_step ((first | (go_at_call 10; exact Calls.regrown_of (toPlace_any _ _ _)) | (go_at_call 12; exact Calls.regrown_of (sSamePlace_any _ _ _ _ _ (by assumption) (by assumption) (by assumption) (by assumption))))) | quiet_step ((first | (go_at_call 10; exact Calls.regrown_of (toPlace_any _ _ _)) | (go_at_call 12; exact Calls.regrown_of (sSamePlace_any _ _ _ _ _ (by assumption) (by assumption) (by assumption) (by assumption))))))); refine wpQuiet_nil ?_; intro w1 hb; obtain ⟨hc, hf⟩ := bcell hb; have hz : w.heap.size + 2 ≤ w1.heap.size := (by (have hz_ := hb.size; (try simp at hz_); omega)); have hz0 : w.heap.size < w1.heap.size := (by omega); have hz1 : w.heap.size + 1 < w1.heap.size := (by omega))
  go_wp2
  (refine region_below (by kernel_rfl) (by kernel_rfl) ?_; (repeat (first | go_big_quiet_step ((first | (go_at_call 10; exact Calls.regrown_of (toPlace_any _ _ _)) | (go_at_call 13; exact Calls.regrown_of (iSamePlace_any _ _ _ _ _ (by assumption) (by assumption) (by assumption) (by assumption))))) | quiet_step ((first | (go_at_call 10; exact Calls.regrown_of (toPlace_any _ _ _)) | (go_at_call 13; exact Calls.regrown_of (iSamePlace_any _ _ _ _ _ (by assumption) (by assumption) (by assumption) (by assumption))))))); refine wpQuiet_nil ?_; intro w1 hb; obtain ⟨hc, hf⟩ := bcell hb; have hz : w.heap.size + 2 ≤ w1.heap.size := (by (have hz_ := hb.size; (try simp at hz_); omega)); have hz0 : w.heap.size < w1.heap.size := (by omega); have hz1 : w.heap.size + 1 < w1.heap.size := (by omega))
  go_wp2
  go_ret
  exact ⟨rfl, by (with_reducible repeat (first | exact Below.refl _ _ | apply below_alloc | apply below_dN | apply below_d | refine below_setCell ?_ (by dsimp only; omega) | refine below_call (by assumption) ?_))⟩
end Go.Proofs.Ytodgjomnfpaebaa
