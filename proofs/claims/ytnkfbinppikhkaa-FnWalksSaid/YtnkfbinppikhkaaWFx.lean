/- Whether complex numbers are finite: contracts in both spellings. No condition. -/
import Derived.Test.YtnkfbinppikhkaaWGX
namespace Go.Proofs.Ytnkfbinppikhkaa
open Go.RowKit
set_option linter.unusedSimpArgs false
def allB (f : Nat → Bool) (n : Nat) : Bool := (List.range n).all f
theorem allB_true {f : Nat → Bool} {n : Nat} (h : ∀ j, j < n → f j = true) : allB f n = true := by simpa [allB] using h
theorem allB_of {f : Nat → Bool} {n : Nat} (h : allB f n = true) : ∀ j, j < n → f j = true := by simpa [allB] using h
theorem allB_false {f : Nat → Bool} {n m : Nat} (hm : m < n) (h : f m = false) : allB f n = false := by
  unfold allB
  rw [Bool.eq_false_iff]
  intro e
  rw [List.all_eq_true] at e
  rw [e m (List.mem_range.2 hm)] at h
  exact absurd h (by decide)
def finC (X Y : Nat) : Bool := fin .f32 X && fin .f32 Y
-- left out here: l01CFinite_c
set_option maxHeartbeats 1000000 in
theorem iCFinite_c (a b X Y : Nat) (ha : cn .f32 a = X) (hb : cn .f32 b = Y) (w : World) : Calls Try.prog 21 #[.complex .f32 a b] w (Ret (RV (.bool (finC X Y))) w) := by
  have h1 := fun w => iFinite_c a X ha w
  have h2 := fun w => iFinite_c b Y hb w
  unfold finC
  generalize fin .f32 X = p at h1
  generalize fin .f32 Y = q at h2
  have H1 := Lib.hid h1
  have H2 := Lib.hid h2
  clear h1 h2
  cases p
  · go_enter Try.func21, Try.ntmps21
    go_wp2_with (go_at_call 37; ((with_reducible refine (H1.out _).mono ?_); rintro e w1 ⟨⟨v, rfl, rfl⟩, hb1⟩))
    go_ret
    exact ⟨⟨_, rfl, rfl⟩, hb1⟩
  · go_enter Try.func21, Try.ntmps21
    go_wp2_with (first | (go_at_call 37; ((with_reducible refine (H1.out _).mono ?_); rintro e w1 ⟨⟨v, rfl, rfl⟩, hb1⟩)) | (go_at_call 37; ((with_reducible refine (H2.out _).mono ?_); rintro e w2 ⟨⟨v, rfl, rfl⟩, hb2⟩)))
    go_ret
    exact ⟨⟨_, rfl, by simp [RV]⟩, hb1.trans (hb2.mono hb1.size)⟩
set_option maxHeartbeats 400000 in
theorem notFin_c (a b X Y : Nat) (ha : cn .f32 a = X) (hb : cn .f32 b = Y) (w : World) : Calls Try.prog 40 #[.complex .f32 a b] w (Ret (RV (.bool (!finC X Y))) w) := by
  have H := Lib.hid (fun w => iCFinite_c a b X Y ha hb w)
  go_enter Try.func40, Try.ntmps40
  go_wp2_with (go_at_call 21; ((with_reducible refine (H.out _).mono ?_); rintro e w1 ⟨⟨v, rfl, rfl⟩, hb1⟩))
  go_ret
  exact ⟨⟨_, rfl, rfl⟩, hb1⟩
def allC (X Y : Nat → Nat) (n : Nat) : Bool := allB (fun j => finC (X j) (Y j)) n
-- left out here: l02CFinite_c
set_option maxRecDepth 100000 in
set_option maxHeartbeats 2000000 in
theorem indexC_c (A : Option Addr) (n c : Nat) (X Y : Nat → Nat) (w : World) (hn : n ≤ 1048576) (hA : CxArg w A n X Y) : Calls Try.prog 52 #[.slice A n c, .func (.func 40) #[] #[]] w fun e w' => ∃ r : Int, e = .returned (.int .i64 r) ∧ (allC X Y n = true → r = -1) ∧ (allC X Y n = false → 0 ≤ r) ∧ Below w.heap.size w w' := by
  go_enter Try.func52, Try.ntmps52
  go_wp2
  go_loopw [8] (fun k wr => ∃ m : Nat, m ≤ n ∧ k = .int .i64 m ∧ (∀ j, j < m → finC (X j) (Y j) = true) ∧ Below w.heap.size w wr) (fun k _ => n - (intOf k).toNat)
  case atStart => exact ⟨0, by omega, rfl, by omega, Below.refl _ _⟩
  case round =>
    obtain ⟨m, hm, rfl, hall, hB⟩ := hrel
    have HL := Lib.hid hall
    clear hall
    by_cases hlt : m < n
    · obtain ⟨g, rfl, hg, p, q, h0, hp, hq⟩ := hA.below hB m hlt
      have HA := Lib.hid hA
      have HB := Lib.hid hB
      have hBs := hB.size
      have hmi : (m : Int) < (n : Int) := by omega
      have HF := Lib.hid (fun w => notFin_c p q _ _ hp hq w)
      clear hA hB
      cases c : finC (X m) (Y m)
      · rw [c] at HF
        go_wp2_with (go_at_call 40; ((with_reducible refine (HF.out _).mono ?_); rintro e w1 ⟨⟨v, rfl, rfl⟩, hb1⟩))
        have hf : allC X Y n = false := allB_false (f := fun j => finC (X j) (Y j)) hlt c
        go_ret
        exact ⟨(m : Int), rfl, fun h => absurd (hf.symm.trans h) (by decide), fun _ => by omega, HB.out.trans (hb1.mono hBs)⟩
      · rw [c] at HF
        go_wp2_with (go_at_call 40; ((with_reducible refine (HF.out _).mono ?_); rintro e w1 ⟨⟨v, rfl, rfl⟩, hb1⟩))
        go_roundw
        case rel => exact ⟨m + 1, by omega, by go_num, fun j hj => by
          by_cases e : j = m
          · rw [e]; exact c
          · exact HL.out j (by omega), HB.out.trans (hb1.mono hBs)⟩
        case measure => first | (simp [intOf]; done) | (simp [intOf]; omega)
    · obtain rfl : m = n := by omega
      have hmi : ¬ ((m : Int) < (m : Int)) := by omega
      have hf : allC X Y m = true := allB_true (f := fun j => finC (X j) (Y j)) HL.out
      go_wp2
      go_ret
      exact ⟨-1, rfl, rfl, hB⟩
set_option maxRecDepth 100000 in
set_option maxHeartbeats 1000000 in
theorem arePoints_c (A : Option Addr) (n c : Nat) (X Y : Nat → Nat) (w : World) (hn : n ≤ 1048576) (hA : CxArg w A n X Y) : Calls Try.prog 28 #[.slice A n c] w (Ret (RV (.bool (allC X Y n))) w) := by
  have HC := Lib.hid (show Calls Try.prog 39 #[.slice A n c, .func (.func 40) #[] #[]] w (Ret (RV (.bool (!allC X Y n))) w) by
    have H := Lib.hid (indexC_c A n c X Y w hn hA)
    clear hA
    cases hk : allC X Y n
    · rw [hk] at H
      go_enter Try.func39, Try.ntmps39
      go_wp2_with (go_at_call 52; ((with_reducible refine (H.out).mono ?_); rintro e w1 ⟨r, rfl, hr1, hr2, hb1⟩; have hr := hr2 rfl))
      go_ret
      exact ⟨⟨_, rfl, by simp [RV, hr]⟩, hb1⟩
    · rw [hk] at H
      go_enter Try.func39, Try.ntmps39
      go_wp2_with (go_at_call 52; ((with_reducible refine (H.out).mono ?_); rintro e w1 ⟨r, rfl, hr1, hr2, hb1⟩; obtain rfl := hr1 rfl))
      go_ret
      exact ⟨⟨_, rfl, by simp [RV]⟩, hb1⟩)
  clear hA
  go_enter Try.func28, Try.ntmps28
  go_wp2_with (go_at_call 39; ((with_reducible refine (HC.out).mono ?_); rintro e w1 ⟨⟨v, rfl, rfl⟩, hb1⟩))
  go_ret
  exact ⟨⟨_, rfl, by simp [RV]⟩, hb1⟩
/-- What a slice of complex numbers and a word are returned as. -/
def CRes (K : Bool) (N : Nat) (X Y : Nat → Nat) (w : World) (e : Ending) (w' : World) : Prop := ∃ v, e = .returned (.tuple #[v, .bool K]) ∧ CArr w' w.heap.size v N X Y ∧ Below w.heap.size w w'
end Go.Proofs.Ytnkfbinppikhkaa
