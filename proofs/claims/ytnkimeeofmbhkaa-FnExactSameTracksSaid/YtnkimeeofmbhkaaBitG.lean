/- Contracts of the bits of numbers, and of numbers and places that are the same. No condition. -/
import Derived.Test.YtnkimeeofmbhkaaGPl
namespace Go.Proofs.Ytnkimeeofmbhkaa
open Go.RowKit
set_option linter.unusedSimpArgs false

theorem lt_of_wf32 {b : Nat} (h : (Lit.float .f32 b).wf = true) : b < 4294967296 := by simpa [Lit.wf] using h

set_option maxHeartbeats 400000 in
theorem iBitsOf_any (x : Nat) (w : World) (hx : (Lit.float .f32 x).wf = true) :
    Calls Try.prog 99 #[.float .f32 x] w fun e w' => e = .returned (.int .i64 (cn .f32 x)) ∧ w = w' := by
  have hs : feq .f32 (cn .f32 x) (cn .f32 x) = !nanB .f32 x := by rw [feq_self, nanB_cn]
  have hb := lt_of_wf32 hx
  cases h : nanB .f32 x
  · have hc : cn .f32 x = x := cn_of h
    rw [h] at hs
    rw [hc]
    clear hc h hx
    go_enter Try.func99, Try.ntmps99
    go_wp2
    go_ret
    exact ⟨by simp, rfl⟩
  · have hc : cn .f32 x = qn .f32 := cn_nan h
    rw [h] at hs
    rw [hc]
    clear hc h hx
    go_enter Try.func99, Try.ntmps99
    go_wp2
    go_ret
    exact ⟨rfl, rfl⟩

set_option maxHeartbeats 400000 in
theorem sBits_any (x : Nat) (w : World) (hx : (Lit.float .f32 x).wf = true) :
    Calls Try.prog 98 #[.float .f32 x] w fun e w' => e = .returned (.int .i64 (cn .f32 x)) ∧ w = w' := by
  have hs : feq .f32 (cn .f32 x) (cn .f32 x) = !nanB .f32 x := by rw [feq_self, nanB_cn]
  have hb := lt_of_wf32 hx
  cases h : nanB .f32 x
  · have hc : cn .f32 x = x := cn_of h
    rw [h] at hs
    rw [hc]
    clear hc h hx
    go_enter Try.func98, Try.ntmps98
    go_wp2
    go_ret
    exact ⟨by simp, rfl⟩
  · have hc : cn .f32 x = qn .f32 := cn_nan h
    rw [h] at hs
    rw [hc]
    clear hc h hx
    go_enter Try.func98, Try.ntmps98
    go_wp2
    go_ret
    exact ⟨rfl, rfl⟩


set_option maxHeartbeats 400000 in
theorem iSameNumber_any (x y : Nat) (w : World) (hx : (Lit.float .f32 x).wf = true) (hy : (Lit.float .f32 y).wf = true) :
    Calls Try.prog 80 #[.float .f32 x, .float .f32 y] w fun e w' => e = .returned (.bool (((cn .f32 x : Nat) : Int) == ((cn .f32 y : Nat) : Int))) ∧ w = w' := by
  go_enter Try.func80, Try.ntmps80
  go_wp2_with (go_at_call 99; ((with_reducible refine (iBitsOf_any _ _ (by assumption)).mono ?_); rintro e w' ⟨rfl, rfl⟩))
  go_ret
  exact ⟨rfl, rfl⟩

set_option maxHeartbeats 400000 in
theorem sSame_any (x y : Nat) (w : World) (hx : (Lit.float .f32 x).wf = true) (hy : (Lit.float .f32 y).wf = true) :
    Calls Try.prog 79 #[.float .f32 x, .float .f32 y] w fun e w' => e = .returned (.bool (((cn .f32 x : Nat) : Int) == ((cn .f32 y : Nat) : Int))) ∧ w = w' := by
  go_enter Try.func79, Try.ntmps79
  go_wp2_with (go_at_call 98; ((with_reducible refine (sBits_any _ _ (by assumption)).mono ?_); rintro e w' ⟨rfl, rfl⟩))
  go_ret
  exact ⟨rfl, rfl⟩
abbrev fsm (x y : Nat) : Bool := ((cn .f32 x : Nat) : Int) == ((cn .f32 y : Nat) : Int)

set_option maxHeartbeats 400000 in
theorem l02Same_any (x y u v b o c q : Nat) (w : World) (h0 : w.cell? ⟨b, o, none⟩ = some (.float .f32 x)) (h1 : w.cell? ⟨b, o + 1, none⟩ = some (.float .f32 y))
    (h2 : w.cell? ⟨c, q, none⟩ = some (.float .f32 u)) (h3 : w.cell? ⟨c, q + 1, none⟩ = some (.float .f32 v)) (hb : b < w.heap.size) (hc : c < w.heap.size)
    (hx : (Lit.float .f32 x).wf = true) (hy : (Lit.float .f32 y).wf = true) (hu : (Lit.float .f32 u).wf = true) (hv : (Lit.float .f32 v).wf = true) :
    Calls Try.prog 47 #[.pointer (some ⟨b, o, none⟩), .pointer (some ⟨c, q, none⟩)] w fun e w' => e = .returned (.bool (fsm x u && fsm y v)) ∧ Below w.heap.size w w' := by
  by_cases c1 : fsm x u = true
  · go_enter Try.func47, Try.ntmps47
    go_wp2
    (refine region_below (by kernel_rfl) (by kernel_rfl) ?_; (repeat (first | go_big_quiet_step ((go_at_call 79; exact regrown_same (sSame_any _ _ _ (by assumption) (by assumption)))) | quiet_step ((go_at_call 79; exact regrown_same (sSame_any _ _ _ (by assumption) (by assumption)))))); refine wpQuiet_nil ?_; intro w1 hb; obtain ⟨hc, hfz⟩ := bcell hb; (try simp only [World.heap_drewN] at hc hfz); have hz := hb.size)
    go_wp2
    go_ret
    exact ⟨by simp [c1], by (with_reducible repeat (first | exact Below.refl _ _ | apply below_alloc | apply below_dN | apply below_d | refine below_setCell ?_ (by dsimp only; omega) | refine below_call (by assumption) ?_))⟩
  · have c1 : fsm x u = false := by simpa using c1
    go_enter Try.func47, Try.ntmps47
    go_wp2
    (refine region_below (by kernel_rfl) (by kernel_rfl) ?_; (repeat (first | go_big_quiet_step ((go_at_call 79; exact regrown_same (sSame_any _ _ _ (by assumption) (by assumption)))) | quiet_step ((go_at_call 79; exact regrown_same (sSame_any _ _ _ (by assumption) (by assumption)))))); refine wpQuiet_nil ?_; intro w1 hb; obtain ⟨hc, hfz⟩ := bcell hb; (try simp only [World.heap_drewN] at hc hfz); have hz := hb.size)
    go_wp2
    go_ret
    exact ⟨by simp [c1], by (with_reducible repeat (first | exact Below.refl _ _ | apply below_alloc | apply below_dN | apply below_d | refine below_setCell ?_ (by dsimp only; omega) | refine below_call (by assumption) ?_))⟩

-- left out here: loop.example/g01341/spec.SamePlace

set_option maxHeartbeats 400000 in
theorem iSamePlace_any (x y u v : Nat) (w : World)
    (hx : (Lit.float .f32 x).wf = true) (hy : (Lit.float .f32 y).wf = true) (hu : (Lit.float .f32 u).wf = true) (hv : (Lit.float .f32 v).wf = true) :
    Calls Try.prog 52 #[.agg #[.float .f32 x, .float .f32 y], .agg #[.float .f32 u, .float .f32 v]] w fun e w' => e = .returned (.bool (fsm x u && fsm y v)) ∧ Below w.heap.size w w' := by
  by_cases c1 : fsm x u = true
  · go_enter Try.func52, Try.ntmps52
    go_wp2_with (go_at_call 80; ((with_reducible refine (iSameNumber_any _ _ _ (by assumption) (by assumption)).mono ?_); rintro e w' ⟨rfl, rfl⟩))
    go_ret
    exact ⟨by simp [c1], by (with_reducible repeat (first | exact Below.refl _ _ | apply below_alloc | apply below_dN | apply below_d | refine below_setCell ?_ (by dsimp only; omega) | refine below_call (by assumption) ?_))⟩
  · have c1 : fsm x u = false := by simpa using c1
    go_enter Try.func52, Try.ntmps52
    go_wp2_with (go_at_call 80; ((with_reducible refine (iSameNumber_any _ _ _ (by assumption) (by assumption)).mono ?_); rintro e w' ⟨rfl, rfl⟩))
    go_ret
    exact ⟨by simp [c1], by (with_reducible repeat (first | exact Below.refl _ _ | apply below_alloc | apply below_dN | apply below_d | refine below_setCell ?_ (by dsimp only; omega) | refine below_call (by assumption) ?_))⟩

end Go.Proofs.Ytnkimeeofmbhkaa
