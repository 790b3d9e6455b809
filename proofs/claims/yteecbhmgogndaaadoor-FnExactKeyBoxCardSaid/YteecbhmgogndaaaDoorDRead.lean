/- Contracts of reading a key, in both spellings. No condition. -/
import Derived.Test.YteecbhmgogndaaaDoorDKey
namespace Go.Proofs.YteecbhmgogndaaaDoor
open Go.RowKit
set_option linter.unusedSimpArgs false

/-- The digit at a place of a key; the columns and rows that its first digits name. -/
def dg (s : ByteArray) (i : Nat) : Nat := if h : i < s.size then s[i].toNat - 48 else 0
def kx (s : ByteArray) : Nat → Nat
  | 0 => 0
  | m + 1 => 2 * kx s m + dg s m % 2
def ky (s : ByteArray) : Nat → Nat
  | 0 => 0
  | m + 1 => 2 * ky s m + dg s m / 2
theorem kx_lt (s : ByteArray) : ∀ m, kx s m < 2 ^ m
  | 0 => by show 0 < 1; decide
  | m + 1 => by have := kx_lt s m; rw [Nat.pow_succ]; unfold kx; omega
theorem ky_lt (s : ByteArray) (h : keyB s = true) : ∀ m, ky s m < 2 ^ m
  | 0 => by show 0 < 1; decide
  | m + 1 => by
    have := ky_lt s h m
    have hd : dg s m < 4 := by
      unfold dg
      split
      · rename_i hm
        have := (keyB_iff s).1 h m hm
        omega
      · omega
    rw [Nat.pow_succ]; unfold ky; omega
theorem pow20 {m : Nat} (h : m ≤ 20) : 2 ^ m ≤ 1048576 := Nat.le_trans (Nat.pow_le_pow_right (by decide) h) (by decide)
def readV (s : ByteArray) : Value := .tuple #[.int .i64 (kx s s.size), .int .i64 (ky s s.size)]
set_option maxRecDepth 100000 in
set_option maxHeartbeats 2000000 in
theorem l07Read_c (s : ByteArray) (hs : s.size ≤ 20) (hb : keyB s = true) (w : World) : Calls Tryd.prog 29 #[.string s] w (Ret (RV (readV s)) w) := by
  unfold readV
  go_enter Tryd.func29, Tryd.ntmps29
  go_wp2
  go_loopw [4, 5, 6] (fun x y k wr => ∃ m : Nat, m ≤ s.size ∧ k = .int .i64 m ∧ x = .int .i64 (kx s m : Int) ∧ y = .int .i64 (ky s m : Int) ∧ Below w.heap.size w wr) (fun _ _ k _ => s.size - (intOf k).toNat)
  case atStart => exact ⟨0, by omega, rfl, rfl, rfl, by (with_reducible repeat (first | exact Below.refl _ _ | apply below_alloc | apply below_dN | apply below_d | refine below_setCell ?_ (by dsimp only; omega) | refine below_call (by assumption) ?_))⟩
  case round =>
    obtain ⟨m, hm, rfl, rfl, rfl, hB⟩ := hrel
    have HB := Lib.hid hB
    clear hB
    by_cases hlt : m < s.size
    · (have h48 := (keyB_iff s).1 hb m hlt; have hx1 := kx_lt s m; have hy1 := ky_lt s hb m; have hp := pow20 (m := m) (by omega); have e1 : kx s (m + 1) = 2 * kx s m + dg s m % 2 := rfl; have e2 : ky s (m + 1) = 2 * ky s m + dg s m / 2 := rfl; have e3 : dg s m = s[m].toNat - 48 := by unfold dg; rw [dif_pos hlt])
      generalize kx s m = p at hx1 e1
      generalize ky s m = q at hy1 e2
      have hc : s[m].toNat = 48 ∨ s[m].toNat = 49 ∨ s[m].toNat = 50 ∨ s[m].toNat = 51 := by omega
      rcases hc with hc | hc | hc | hc <;>
        (rw [hc] at e3
         have f1 : kx s (m + 1) = 2 * p + dg s m % 2 := e1
         have f2 : ky s (m + 1) = 2 * q + dg s m / 2 := e2
         rw [e3] at f1 f2
         have F1 := Lib.hid f1
         have F2 := Lib.hid f2
         clear e1 e2 e3 f1 f2 hb
         go_wp2
         go_roundw
         case rel => exact ⟨m + 1, by omega, by go_num, by rw [F1.out]; go_num, by rw [F2.out]; go_num, by have := HB.out; (with_reducible repeat (first | exact Below.refl _ _ | apply below_alloc | apply below_dN | apply below_d | refine below_setCell ?_ (by dsimp only; omega) | refine below_call (by assumption) ?_))⟩
         case measure => first | (simp [intOf]; done) | (simp [intOf]; omega))
    · obtain rfl : m = s.size := by omega
      go_wp2
      go_ret2
      exact ⟨⟨_, rfl, rfl⟩, by have := HB.out; (with_reducible repeat (first | exact Below.refl _ _ | apply below_alloc | apply below_dN | apply below_d | refine below_setCell ?_ (by dsimp only; omega) | refine below_call (by assumption) ?_))⟩
set_option maxRecDepth 100000 in
set_option maxHeartbeats 2000000 in
theorem keyTile_c (s : ByteArray) (hs : s.size ≤ 20) (hb : keyB s = true) (w : World) : Calls Tryd.prog 30 #[.string s] w (Ret (RV (readV s)) w) := by
  unfold readV
  go_enter Tryd.func30, Tryd.ntmps30
  go_wp2
  go_loopw [4, 5, 10] (fun x y k wr => ∃ m : Nat, m ≤ s.size ∧ k = .int .i64 m ∧ x = .int .i64 (kx s m : Int) ∧ y = .int .i64 (ky s m : Int) ∧ Below w.heap.size w wr) (fun _ _ k _ => s.size - (intOf k).toNat)
  case atStart => exact ⟨0, by omega, rfl, rfl, rfl, by (with_reducible repeat (first | exact Below.refl _ _ | apply below_alloc | apply below_dN | apply below_d | refine below_setCell ?_ (by dsimp only; omega) | refine below_call (by assumption) ?_))⟩
  case round =>
    obtain ⟨m, hm, rfl, rfl, rfl, hB⟩ := hrel
    have HB := Lib.hid hB
    clear hB
    by_cases hlt : m < s.size
    · (have h48 := (keyB_iff s).1 hb m hlt; have hx1 := kx_lt s m; have hy1 := ky_lt s hb m; have hp := pow20 (m := m) (by omega); have e1 : kx s (m + 1) = 2 * kx s m + dg s m % 2 := rfl; have e2 : ky s (m + 1) = 2 * ky s m + dg s m / 2 := rfl; have e3 : dg s m = s[m].toNat - 48 := by unfold dg; rw [dif_pos hlt])
      generalize kx s m = p at hx1 e1
      generalize ky s m = q at hy1 e2
      have hc : s[m].toNat = 48 ∨ s[m].toNat = 49 ∨ s[m].toNat = 50 ∨ s[m].toNat = 51 := by omega
      rcases hc with hc | hc | hc | hc <;>
        (rw [hc] at e3
         have f1 : kx s (m + 1) = 2 * p + dg s m % 2 := e1
         have f2 : ky s (m + 1) = 2 * q + dg s m / 2 := e2
         rw [e3] at f1 f2
         have F1 := Lib.hid f1
         have F2 := Lib.hid f2
         have b0 : bits .and .i64 0 1 = 0 := by decide
         have b1 : bits .and .i64 1 1 = 1 := by decide
         have b2 : bits .and .i64 2 1 = 0 := by decide
         have b3 : bits .and .i64 3 1 = 1 := by decide
         clear e1 e2 e3 f1 f2 hb
         go_wp2
         go_roundw
         case rel => exact ⟨m + 1, by omega, by go_num, by rw [F1.out]; go_num, by rw [F2.out]; go_num, by have := HB.out; (with_reducible repeat (first | exact Below.refl _ _ | apply below_alloc | apply below_dN | apply below_d | refine below_setCell ?_ (by dsimp only; omega) | refine below_call (by assumption) ?_))⟩
         case measure => first | (simp [intOf]; done) | (simp [intOf]; omega))
    · obtain rfl : m = s.size := by omega
      go_wp2
      go_ret2
      exact ⟨⟨_, rfl, rfl⟩, by have := HB.out; (with_reducible repeat (first | exact Below.refl _ _ | apply below_alloc | apply below_dN | apply below_d | refine below_setCell ?_ (by dsimp only; omega) | refine below_call (by assumption) ?_))⟩
end Go.Proofs.YteecbhmgogndaaaDoor
