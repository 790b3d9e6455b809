/- Contracts of the key of a tile in both spellings. No condition. -/
import Derived.Test.YteecbhmgogndaaaMem
namespace Go.Proofs.Yteecbhmgogndaaa
open Go.RowKit
set_option linter.unusedSimpArgs false

def keyD (z x y k : Nat) : Nat := 48 + 2 * (y / 2 ^ (z - 1 - k) % 2) + x / 2 ^ (z - 1 - k) % 2
def keyS (z x y : Nat) : ByteArray := strOf z (keyD z x y)
theorem keyD_lt (z x y k : Nat) : keyD z x y k < 52 := by unfold keyD; omega
def krow (z x y m i : Nat) : Value := .int .u8 (if i < m then keyD z x y i else 0)

set_option maxRecDepth 100000 in
set_option maxHeartbeats 1000000 in
theorem iKey_c (z x y : Nat) (hz : z ≤ 20) (hx : x < 9223372036854775808) (hy : y < 9223372036854775808) (w : World) : Calls Try.prog 35 #[.int .i64 z, .int .i64 x, .int .i64 y] w (Ret (RV (.string (keyS z x y))) w) := by
  have hmk := run_make_row' (P := Try.prog) 67 5 (.int .u8 0) 1 (by kernel_rfl) (by kernel_rfl) rfl .i64 .i64 z (by omega) (by omega)
  go_enter Try.func35, Try.ntmps35
  go_wp2
  go_loopw [14] (fun k wr => ∃ m : Nat, m ≤ z ∧ k = .int .i64 m ∧ wr.rowIs w.heap.size 5 z (krow z x y m) ∧ Below w.heap.size w wr) (fun k _ => z - (intOf k).toNat)
  case atStart => exact ⟨0, by omega, rfl, (World.rowIs_made w _ z _).congr (fun i _ => by simp [krow]), by (with_reducible repeat (first | exact Below.refl _ _ | apply below_alloc | apply below_dN | apply below_d | refine below_setCell ?_ (by dsimp only; omega) | refine below_call (by assumption) ?_))⟩
  case round =>
    obtain ⟨m, hm, rfl, hrow, hB⟩ := hrel
    clear hmk
    by_cases hlt : m < z
    · have hd : y / 2 ^ (z - 1 - m) < 9223372036854775808 := Nat.lt_of_le_of_lt (Nat.div_le_self _ _) hy
      have hd' : x / 2 ^ (z - 1 - m) < 9223372036854775808 := Nat.lt_of_le_of_lt (Nat.div_le_self _ _) hx
      have hc0 := hrow.cell (i := m) hlt
      have hf0 := hrow.frozen m
      have hl := hrow.lt
      obtain ⟨s, hs⟩ : ∃ s, s = z - 1 - m := ⟨_, rfl⟩
      rw [← hs] at hd hd'
      have hE : (z : Int) - 1 - m = (s : Int) := by omega
      have hs1 : s ≤ 64 := by omega
      have hs2 : (0 : Int) ≤ s := by omega
      have hs3 : (s : Int) ≤ 64 := by omega
      have hA := and_shr y s hd
      have hA' := and_shr x s hd'
      have HS := Lib.hid hs
      have hr1 : y / 2 ^ s % 2 < 2 := Nat.mod_lt _ (by decide)
      have hr2 : x / 2 ^ s % 2 < 2 := Nat.mod_lt _ (by decide)
      clear hs
      go_wp2
      (apply region_looseK (k := 15); (kernel_rfl); (kernel_rfl); intro opsL KL hopsL hKL; (dsimp only [List.take]))
      iterate 15 (apply rel_val; (rfl); (intro wq hbq; have hcq := (bcell hbq).1; (go_simp; first | done | rfl | exact ⟨rfl, rfl⟩)); (try go_simp))
      (refine wpRel_nil ?_; refine hKL _ _ ?_; clear hKL hopsL opsL KL; intro w1 hb hnews; obtain ⟨hc, hfz⟩ := bcell hb; (try simp only [World.heap_drewN] at hc hfz); have hz := hb.size; (dsimp only [List.drop]))
      go_wp2
      go_roundw
      case rel => exact ⟨m + 1, by omega, by go_num, ((row_below hrow hb hl).set m _).congr (fun i _ => by
        by_cases hi : i = m
        · subst hi
          rw [if_pos rfl]
          unfold krow keyD
          rw [if_pos (by omega), ← HS.out]
          have e1 : ((x : Int) / 2 ^ s % 2) = ((x / 2 ^ s % 2 : Nat) : Int) := by simp
          have e2 : ((y : Int) / 2 ^ s % 2) = ((y / 2 ^ s % 2 : Nat) : Int) := by simp
          congr 1
          all_goals (simp only [e1, e2, IntKind.wrap_i64, IntKind.wrap_u8]; omega)
        · rw [if_neg hi]
          unfold krow
          by_cases h : i < m
          · rw [if_pos h, if_pos (by omega)]
          · rw [if_neg h, if_neg (by omega)]), by (with_reducible repeat (first | exact Below.refl _ _ | apply below_alloc | apply below_dN | apply below_d | refine below_setCell ?_ (by dsimp only; omega) | refine below_call (by assumption) ?_))⟩
      case measure => first | (simp [intOf]; done) | (simp [intOf]; omega)
    · obtain rfl : m = z := by omega
      have hcv := bytes_string (P := Try.prog) (c := m) 67 9 5 (by kernel_rfl) (by kernel_rfl) (by kernel_rfl) (hrow.congr (g := fun i => .int .u8 (keyD m x y i)) (fun i hi => by unfold krow; rw [if_pos hi]))
      go_wp2
      go_ret
      exact ⟨⟨_, rfl, rfl⟩, by (with_reducible repeat (first | exact Below.refl _ _ | apply below_alloc | apply below_dN | apply below_d | refine below_setCell ?_ (by dsimp only; omega) | refine below_call (by assumption) ?_))⟩

def krow2 (z x y m i : Nat) : Value := .int .u8 (if z ≤ i + m then keyD z x y i else 0)
set_option maxRecDepth 100000 in
set_option maxHeartbeats 1000000 in
theorem sKey_c (z x y : Nat) (hz : z ≤ 20) (hx : x < 9223372036854775808) (hy : y < 9223372036854775808) (w : World) : Calls Try.prog 32 #[.int .i64 z, .int .i64 x, .int .i64 y] w (Ret (RV (.string (keyS z x y))) w) := by
  have hmk := run_make_row' (P := Try.prog) 67 5 (.int .u8 0) 1 (by kernel_rfl) (by kernel_rfl) rfl .i64 .i64 z (by omega) (by omega)
  go_enter Try.func32, Try.ntmps32
  go_wp2
  go_loopw [1, 2, 8] (fun a b k wr => ∃ m : Nat, m ≤ z ∧ k = .int .i64 ((z : Int) - 1 - m) ∧ a = .int .i64 ((x / 2 ^ m : Nat) : Int) ∧ b = .int .i64 ((y / 2 ^ m : Nat) : Int) ∧ wr.rowIs w.heap.size 5 z (krow2 z x y m) ∧ Below w.heap.size w wr) (fun _ _ k _ => (intOf k + 1).toNat)
  case atStart => exact ⟨0, by omega, by go_num, by simp, by simp, (World.rowIs_made w _ z _).congr (fun i hi => by unfold krow2; rw [if_neg (by omega)]), by (with_reducible repeat (first | exact Below.refl _ _ | apply below_alloc | apply below_dN | apply below_d | refine below_setCell ?_ (by dsimp only; omega) | refine below_call (by assumption) ?_))⟩
  case round =>
    obtain ⟨m, hm, hk, ha, hb, hrow, hB⟩ := hrel
    clear hmk
    by_cases hlt : m < z
    · obtain ⟨s, hs⟩ : ∃ s, z = m + 1 + s := ⟨z - 1 - m, by omega⟩
      rw [show (z : Int) - 1 - m = (s : Int) by omega] at hk
      obtain ⟨A, hA⟩ : ∃ A, x / 2 ^ m = A := ⟨_, rfl⟩
      obtain ⟨B, hBB⟩ : ∃ B, y / 2 ^ m = B := ⟨_, rfl⟩
      have hA1 : A < 9223372036854775808 := hA ▸ Nat.lt_of_le_of_lt (Nat.div_le_self _ _) hx
      have hB1 : B < 9223372036854775808 := hBB ▸ Nat.lt_of_le_of_lt (Nat.div_le_self _ _) hy
      rw [hA] at ha
      rw [hBB] at hb
      subst hk ha hb
      have HA := Lib.hid hA
      have HB := Lib.hid hBB
      have HS := Lib.hid hs
      have hc0 := hrow.cell (i := s) (by omega)
      have hf0 := hrow.frozen s
      have hl := hrow.lt
      have hsz : s < z := by omega
      have hs20 : s ≤ 20 := by omega
      have hA2 : (0 : Int) ≤ A := by omega
      have hB2 : (0 : Int) ≤ B := by omega
      clear hA hBB hs
      go_wp2
      go_roundw
      case rel => exact ⟨m + 1, by omega, by have := HS.out; congr 1; omega, by rw [Nat.pow_succ, ← Nat.div_div_eq_div_mul, HA.out]; simp, by rw [Nat.pow_succ, ← Nat.div_div_eq_div_mul, HB.out]; simp, (hrow.set s _).congr (fun i _ => by
        have hs := HS.out
        by_cases hi : i = s
        · subst hi
          rw [if_pos rfl]
          unfold krow2 keyD
          rw [if_pos (by omega), show z - 1 - i = m by omega, HA.out, HB.out]
          congr 1
          all_goals (simp only [IntKind.wrap_i64, IntKind.wrap_u8]; omega)
        · rw [if_neg hi]
          unfold krow2
          by_cases h : z ≤ i + m
          · rw [if_pos h, if_pos (by omega)]
          · rw [if_neg h, if_neg (by omega)]), by (with_reducible repeat (first | exact Below.refl _ _ | apply below_alloc | apply below_dN | apply below_d | refine below_setCell ?_ (by dsimp only; omega) | refine below_call (by assumption) ?_))⟩
      case measure => first | (simp [intOf]; done) | (simp [intOf]; omega)
    · obtain rfl : m = z := by omega
      rw [show (m : Int) - 1 - m = -1 by omega] at hk
      subst hk ha hb
      have hcv := bytes_string (P := Try.prog) (c := m) 67 9 5 (by kernel_rfl) (by kernel_rfl) (by kernel_rfl) (hrow.congr (g := fun i => .int .u8 (keyD m x y i)) (fun i hi => by unfold krow2; rw [if_pos (by omega)]))
      go_wp2
      go_ret
      exact ⟨⟨_, rfl, rfl⟩, by (with_reducible repeat (first | exact Below.refl _ _ | apply below_alloc | apply below_dN | apply below_d | refine below_setCell ?_ (by dsimp only; omega) | refine below_call (by assumption) ?_))⟩

end Go.Proofs.Yteecbhmgogndaaa
