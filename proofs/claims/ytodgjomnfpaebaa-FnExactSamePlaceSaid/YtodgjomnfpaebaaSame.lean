/- Contracts of SameNumber, SamePlace and what they call. No condition. -/
import Derived.Test.YtodgjomnfpaebaaFloat
import Derived.Test.YtodgjomnfpaebaaPlace
namespace Go.Proofs.Ytodgjomnfpaebaa
open Go.RowKit

theorem feq_self (k : FloatKind) (x : Nat) : feq k x x = !nanB k x := by
  unfold feq nanB Ieee.Format.order
  cases e : k.format.read x with
  | nan s f => rfl
  | infinity s => cases s <;> rfl
  | number s m p => simp [Ieee.Datum.order, Ieee.Datum.isNaN]

@[go_sem] theorem call_f32bits (b : Nat) (w : World) : (callFunc 44 #[.float .f32 b]).run Try.prog w = .ok (.value (.int .u32 b)) w := by kernel_rfl

theorem lt_of_wf32 {b : Nat} (h : (Lit.float .f32 b).wf = true) : b < 4294967296 := by simpa [Lit.wf] using h

set_option maxHeartbeats 400000 in
theorem iBitsOf_any (x : Nat) (w : World) (hx : (Lit.float .f32 x).wf = true) :
    Calls Try.prog 38 #[.float .f32 x] w fun e w' => e = .returned (.int .i64 (cn .f32 x)) ∧ w = w' := by
  have hs := feq_self .f32 x
  have hb := lt_of_wf32 hx
  cases h : nanB .f32 x
  · have hc : cn .f32 x = x := cn_of h
    rw [h] at hs
    rw [hc]
    clear hc h hx
    go_enter Try.func38, Try.ntmps38
    go_wp2
    go_ret
    exact ⟨by simp, rfl⟩
  · have hc : cn .f32 x = qn .f32 := cn_nan h
    rw [h] at hs
    rw [hc]
    clear hc h hx
    go_enter Try.func38, Try.ntmps38
    go_wp2
    go_ret
    exact ⟨rfl, rfl⟩

set_option maxHeartbeats 400000 in
theorem sBits_any (x : Nat) (w : World) (hx : (Lit.float .f32 x).wf = true) :
    Calls Try.prog 39 #[.float .f32 x] w fun e w' => e = .returned (.int .i64 (cn .f32 x)) ∧ w = w' := by
  have hs := feq_self .f32 x
  have hb := lt_of_wf32 hx
  cases h : nanB .f32 x
  · have hc : cn .f32 x = x := cn_of h
    rw [h] at hs
    rw [hc]
    clear hc h hx
    go_enter Try.func39, Try.ntmps39
    go_wp2
    go_ret
    exact ⟨by simp, rfl⟩
  · have hc : cn .f32 x = qn .f32 := cn_nan h
    rw [h] at hs
    rw [hc]
    clear hc h hx
    go_enter Try.func39, Try.ntmps39
    go_wp2
    go_ret
    exact ⟨rfl, rfl⟩


set_option maxHeartbeats 400000 in
theorem iSameNumber_any (x y : Nat) (w : World) (hx : (Lit.float .f32 x).wf = true) (hy : (Lit.float .f32 y).wf = true) :
    Calls Try.prog 26 #[.float .f32 x, .float .f32 y] w fun e w' => e = .returned (.bool (((cn .f32 x : Nat) : Int) == ((cn .f32 y : Nat) : Int))) ∧ w = w' := by
  go_enter Try.func26, Try.ntmps26
  go_wp2_with (go_at_call 38; ((with_reducible refine (iBitsOf_any _ _ (by assumption)).mono ?_); rintro e w' ⟨rfl, rfl⟩))
  go_ret
  exact ⟨rfl, rfl⟩

set_option maxHeartbeats 400000 in
theorem sSame_any (x y : Nat) (w : World) (hx : (Lit.float .f32 x).wf = true) (hy : (Lit.float .f32 y).wf = true) :
    Calls Try.prog 34 #[.float .f32 x, .float .f32 y] w fun e w' => e = .returned (.bool (((cn .f32 x : Nat) : Int) == ((cn .f32 y : Nat) : Int))) ∧ w = w' := by
  go_enter Try.func34, Try.ntmps34
  go_wp2_with (go_at_call 39; ((with_reducible refine (sBits_any _ _ (by assumption)).mono ?_); rintro e w' ⟨rfl, rfl⟩))
  go_ret
  exact ⟨rfl, rfl⟩
end Go.Proofs.Ytodgjomnfpaebaa
