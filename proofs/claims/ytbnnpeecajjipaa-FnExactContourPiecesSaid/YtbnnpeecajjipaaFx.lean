/- Whether complex numbers are finite: contracts in both spellings. No condition. -/
import Derived.Test.YtbnnpeecajjipaaMt
namespace Go.Proofs.Ytbnnpeecajjipaa
open Go.RowKit
set_option linter.unusedSimpArgs false
def finC (X Y : Nat) : Bool := fin .f32 X && fin .f32 Y
set_option maxHeartbeats 1000000 in
theorem l01CFinite_c (a b X Y : Nat) (ha : cn .f32 a = X) (hb : cn .f32 b = Y) (w : World) : Calls Try.prog 62 #[.complex .f32 a b] w (Ret (RV (.bool (finC X Y))) w) := by
  have h1 := fun w => sFinite_c a X ha w
  have h2 := fun w => sFinite_c b Y hb w
  unfold finC
  generalize fin .f32 X = p at h1
  generalize fin .f32 Y = q at h2
  have H1 := Lib.hid h1
  have H2 := Lib.hid h2
  clear h1 h2
  cases p
  · go_enter Try.func62, Try.ntmps62
    go_wp2_with (go_at_call 36; ((with_reducible refine (H1.out _).mono ?_); rintro e w1 ⟨⟨v, rfl, rfl⟩, hb1⟩))
    go_ret
    exact ⟨⟨_, rfl, rfl⟩, hb1⟩
  · go_enter Try.func62, Try.ntmps62
    go_wp2_with (first | (go_at_call 36; ((with_reducible refine (H1.out _).mono ?_); rintro e w1 ⟨⟨v, rfl, rfl⟩, hb1⟩)) | (go_at_call 36; ((with_reducible refine (H2.out _).mono ?_); rintro e w2 ⟨⟨v, rfl, rfl⟩, hb2⟩)))
    go_ret
    exact ⟨⟨_, rfl, by simp [RV]⟩, hb1.trans (hb2.mono hb1.size)⟩
set_option maxHeartbeats 1000000 in
theorem iCFinite_c (a b X Y : Nat) (ha : cn .f32 a = X) (hb : cn .f32 b = Y) (w : World) : Calls Try.prog 91 #[.complex .f32 a b] w (Ret (RV (.bool (finC X Y))) w) := by
  have h1 := fun w => iFinite_c a X ha w
  have h2 := fun w => iFinite_c b Y hb w
  unfold finC
  generalize fin .f32 X = p at h1
  generalize fin .f32 Y = q at h2
  have H1 := Lib.hid h1
  have H2 := Lib.hid h2
  clear h1 h2
  cases p
  · go_enter Try.func91, Try.ntmps91
    go_wp2_with (go_at_call 41; ((with_reducible refine (H1.out _).mono ?_); rintro e w1 ⟨⟨v, rfl, rfl⟩, hb1⟩))
    go_ret
    exact ⟨⟨_, rfl, rfl⟩, hb1⟩
  · go_enter Try.func91, Try.ntmps91
    go_wp2_with (first | (go_at_call 41; ((with_reducible refine (H1.out _).mono ?_); rintro e w1 ⟨⟨v, rfl, rfl⟩, hb1⟩)) | (go_at_call 41; ((with_reducible refine (H2.out _).mono ?_); rintro e w2 ⟨⟨v, rfl, rfl⟩, hb2⟩)))
    go_ret
    exact ⟨⟨_, rfl, by simp [RV]⟩, hb1.trans (hb2.mono hb1.size)⟩
set_option maxHeartbeats 400000 in
theorem notFin_c (a b X Y : Nat) (ha : cn .f32 a = X) (hb : cn .f32 b = Y) (w : World) : Calls Try.prog 90 #[.complex .f32 a b] w (Ret (RV (.bool (!finC X Y))) w) := by
  have H := Lib.hid (fun w => iCFinite_c a b X Y ha hb w)
  go_enter Try.func90, Try.ntmps90
  go_wp2_with (go_at_call 91; ((with_reducible refine (H.out _).mono ?_); rintro e w1 ⟨⟨v, rfl, rfl⟩, hb1⟩))
  go_ret
  exact ⟨⟨_, rfl, rfl⟩, hb1⟩
def allC (X Y : Nat → Nat) (n : Nat) : Bool := allB (fun j => finC (X j) (Y j)) n
set_option maxRecDepth 100000 in
set_option maxHeartbeats 2000000 in
theorem l02CFinite_c (A : Option Addr) (n c : Nat) (X Y : Nat → Nat) (w : World) (hn : n ≤ 1048576) (hA : CxArg w A n X Y) : Calls Try.prog 38 #[.slice A n c] w (Ret (RV (.bool (allC X Y n))) w) := by
  go_enter Try.func38, Try.ntmps38
  go_wp2
  go_loopw [3] (fun k wr => ∃ m : Nat, m ≤ n ∧ k = .int .i64 m ∧ (∀ j, j < m → finC (X j) (Y j) = true) ∧ Below w.heap.size w wr) (fun k _ => n - (intOf k).toNat)
  case atStart => exact ⟨0, by omega, rfl, by omega, Below.refl _ _⟩
  case round =>
    obtain ⟨m, hm, rfl, hall, hB⟩ := hrel
    have HL := Lib.hid hall
    clear hall
    by_cases hlt : m < n
    · obtain ⟨g, rfl, hg, p, q, h0, hp, hq⟩ := hA.below hB m hlt
      have HA := Lib.hid hA
      have HB := Lib.hid hB
      have hBs := hB.size
      have hmi : (m : Int) < (n : Int) := by omega
      have HF := Lib.hid (fun w => l01CFinite_c p q _ _ hp hq w)
      clear hA hB
      cases c : finC (X m) (Y m)
      · rw [c] at HF
        go_wp2_with (go_at_call 62; ((with_reducible refine (HF.out _).mono ?_); rintro e w1 ⟨⟨v, rfl, rfl⟩, hb1⟩))
        go_ret
        exact ⟨⟨_, rfl, congrArg Value.bool (allB_false (f := fun j => finC (X j) (Y j)) hlt c).symm⟩, HB.out.trans (hb1.mono hBs)⟩
      · rw [c] at HF
        go_wp2_with (go_at_call 62; ((with_reducible refine (HF.out _).mono ?_); rintro e w1 ⟨⟨v, rfl, rfl⟩, hb1⟩))
        go_roundw
        case rel => exact ⟨m + 1, by omega, by go_num, fun j hj => by
          by_cases e : j = m
          · rw [e]; exact c
          · exact HL.out j (by omega), HB.out.trans (hb1.mono hBs)⟩
        case measure => first | (simp [intOf]; done) | (simp [intOf]; omega)
    · obtain rfl : m = n := by omega
      have hmi : ¬ ((m : Int) < (m : Int)) := by omega
      go_wp2
      go_ret
      exact ⟨⟨_, rfl, congrArg Value.bool (allB_true (f := fun j => finC (X j) (Y j)) HL.out).symm⟩, hB⟩
set_option maxRecDepth 100000 in
set_option maxHeartbeats 2000000 in
theorem indexC_c (A : Option Addr) (n c : Nat) (X Y : Nat → Nat) (w : World) (hn : n ≤ 1048576) (hA : CxArg w A n X Y) : Calls Try.prog 100 #[.slice A n c, .func (.func 90) #[] #[]] w fun e w' => ∃ r : Int, e = .returned (.int .i64 r) ∧ (allC X Y n = true → r = -1) ∧ (allC X Y n = false → 0 ≤ r) ∧ Below w.heap.size w w' := by
  go_enter Try.func100, Try.ntmps100
  go_wp2
  go_loopw [8] (fun k wr => ∃ m : Nat, m ≤ n ∧ k = .int .i64 m ∧ (∀ j, j < m → finC (X j) (Y j) = true) ∧ Below w.heap.size w wr) (fun k _ => n - (intOf k).toNat)
  case atStart => exact ⟨0, by omega, rfl, by omega, Below.refl _ _⟩
  case round =>
    obtain ⟨m, hm, rfl, hall, hB⟩ := hrel
    have HL := Lib.hid hall
    clear hall
    by_cases hlt : m < n
    · obtain ⟨g, rfl, hg, p, q, h0, hp, hq⟩ := hA.below hB m hlt
      have HA := Lib.hid hA
      have HB := Lib.hid hB
      have hBs := hB.size
      have hmi : (m : Int) < (n : Int) := by omega
      have HF := Lib.hid (fun w => notFin_c p q _ _ hp hq w)
      clear hA hB
      cases c : finC (X m) (Y m)
      · rw [c] at HF
        go_wp2_with (go_at_call 90; ((with_reducible refine (HF.out _).mono ?_); rintro e w1 ⟨⟨v, rfl, rfl⟩, hb1⟩))
        have hf : allC X Y n = false := allB_false (f := fun j => finC (X j) (Y j)) hlt c
        go_ret
        exact ⟨(m : Int), rfl, fun h => absurd (hf.symm.trans h) (by decide), fun _ => by omega, HB.out.trans (hb1.mono hBs)⟩
      · rw [c] at HF
        go_wp2_with (go_at_call 90; ((with_reducible refine (HF.out _).mono ?_); rintro e w1 ⟨⟨v, rfl, rfl⟩, hb1⟩))
        go_roundw
        case rel => exact ⟨m + 1, by omega, by go_num, fun j hj => by
          by_cases e : j = m
          · rw [e]; exact c
          · exact HL.out j (by omega), HB.out.trans (hb1.mono hBs)⟩
        case measure => first | (simp [intOf]; done) | (simp [intOf]; omega)
    · obtain rfl : m = n := by omega
      have hmi : ¬ ((m : Int) < (m : Int)) := by omega
      have hf : allC X Y m = true := allB_true (f := fun j => finC (X j) (Y j)) HL.out
      go_wp2
      go_ret
      exact ⟨-1, rfl, rfl, hB⟩
set_option maxRecDepth 100000 in
set_option maxHeartbeats 1000000 in
theorem arePoints_c (A : Option Addr) (n c : Nat) (X Y : Nat → Nat) (w : World) (hn : n ≤ 1048576) (hA : CxArg w A n X Y) : Calls Try.prog 67 #[.slice A n c] w (Ret (RV (.bool (allC X Y n))) w) := by
  have HC := Lib.hid (show Calls Try.prog 89 #[.slice A n c, .func (.func 90) #[] #[]] w (Ret (RV (.bool (!allC X Y n))) w) by
    have H := Lib.hid (indexC_c A n c X Y w hn hA)
    clear hA
    cases hk : allC X Y n
    · rw [hk] at H
      go_enter Try.func89, Try.ntmps89
      go_wp2_with (go_at_call 100; ((with_reducible refine (H.out).mono ?_); rintro e w1 ⟨r, rfl, hr1, hr2, hb1⟩; have hr := hr2 rfl))
      go_ret
      exact ⟨⟨_, rfl, by simp [RV, hr]⟩, hb1⟩
    · rw [hk] at H
      go_enter Try.func89, Try.ntmps89
      go_wp2_with (go_at_call 100; ((with_reducible refine (H.out).mono ?_); rintro e w1 ⟨r, rfl, hr1, hr2, hb1⟩; obtain rfl := hr1 rfl))
      go_ret
      exact ⟨⟨_, rfl, by simp [RV]⟩, hb1⟩)
  clear hA
  go_enter Try.func67, Try.ntmps67
  go_wp2_with (go_at_call 89; ((with_reducible refine (HC.out).mono ?_); rintro e w1 ⟨⟨v, rfl, rfl⟩, hb1⟩))
  go_ret
  exact ⟨⟨_, rfl, by simp [RV]⟩, hb1⟩
/-- What a slice of complex numbers and a word are returned as. -/
def CRes (K : Bool) (N : Nat) (X Y : Nat → Nat) (w : World) (e : Ending) (w' : World) : Prop := ∃ v, e = .returned (.tuple #[v, .bool K]) ∧ CArr w' w.heap.size v N X Y ∧ Below w.heap.size w w'
end Go.Proofs.Ytbnnpeecajjipaa
