/- Contract of impl.unpackNumber. No condition. -/
import Derived.Test.YteecbhmgogndaaaUnp
namespace Go.Proofs.Yteecbhmgogndaaa
open Go.RowKit
set_option linter.unusedSimpArgs false
theorem tup3 {a b c d : Int} {e f : Bool} (h1 : a = c) (h2 : b = d) (h3 : e = f) : Value.tuple #[.int .i64 a, .int .i64 b, .bool e] = .tuple #[.int .i64 c, .int .i64 d, .bool f] := by rw [h1, h2, h3]
set_option maxRecDepth 100000 in
set_option maxHeartbeats 4000000 in
theorem unpackNumber_c (s : ByteArray) (w : World) : Calls Try.prog 50 #[.string s] w (Ret (RV (.tuple #[.int .i64 (nd s), .int .i64 (nk s), .bool (decide (0 < nk s))])) w) := by
  go_enter Try.func50, Try.ntmps50
  go_wp2
  · go_loopw [5, 11] (fun n k wr => ∃ m : Nat, m ≤ 5 ∧ m ≤ s.size ∧ k = .int .i64 m ∧ n = .int .u64 (bv s m) ∧ nk s = nkA s (5 - m) m ∧ Below w.heap.size w wr) (fun _ k _ => 5 - (intOf k).toNat)
    case atStart => exact ⟨0, by omega, by omega, rfl, rfl, rfl, by (with_reducible repeat (first | exact Below.refl _ _ | apply below_alloc | apply below_dN | apply below_d | refine below_setCell ?_ (by dsimp only; omega) | refine below_call (by assumption) ?_))⟩
    case round =>
      obtain ⟨m, hm, hms, rfl, rfl, hK, hB⟩ := hrel
      have HB := Lib.hid hB
      clear hB
      by_cases hlt : m < s.size ∧ m < 5
      · obtain ⟨hl, h5⟩ := hlt
        have hv := bv_lt s m
        have hbt := bt_lt s m
        have hat := bt_at hl
        have h127 := and127 hbt
        have e1 : bv s (m + 1) = bv s m + bt s m % 128 * 2 ^ (7 * m) := rfl
        have hvr : bv s (m + 1) < 2 ^ (7 * (m + 1)) := bv_lt s (m + 1)
        have hK2 : nk s = if bt s m < 128 then m + 1 else nkA s (5 - (m + 1)) (m + 1) := by
          rw [hK, show 5 - m = (5 - (m + 1)) + 1 by omega]
          show (if m < s.size then _ else _) = _
          rw [if_pos hl]
        have hor : bits .or .u64 (bv s m : Int) ((bt s m % 128 * 2 ^ (7 * m) : Nat) : Int) = ((bv s (m + 1) : Nat) : Int) := by
          rw [e1]
          refine or_add hv ?_
          rw [← e1]
          have : 2 ^ (7 * (m + 1)) ≤ 2 ^ 35 := Nat.pow_le_pow_right (by decide) (by omega)
          omega
        have hN : nd s = if nk s = 0 then 0 else un (bv s (nk s)) := rfl
        clear hK e1
        have hp35 : 2 ^ (7 * (m + 1)) ≤ 2 ^ 35 := Nat.pow_le_pow_right (by decide) (by omega)
        obtain ⟨C, hC⟩ : ∃ C, bt s m % 128 * 2 ^ (7 * m) = C := ⟨_, rfl⟩
        have hsl : IntKind.u64.wrap ((bt s m : Int) % 128 * 2 ^ (7 * m)) = (C : Int) := by
          have h1 : bt s m % 128 * 2 ^ (7 * m) ≤ 127 * 2 ^ (7 * m) := Nat.mul_le_mul_right _ (by omega)
          have h2 : 2 ^ (7 * m) ≤ 2 ^ 28 := Nat.pow_le_pow_right (by decide) (by omega)
          have h3 : (bt s m : Int) % 128 * 2 ^ (7 * m) = (C : Int) := by rw [← hC]; push_cast; rfl
          rw [h3, IntKind.wrap_u64]
          omega
        rw [hC] at hor
        clear hC
        obtain ⟨r, hr⟩ : ∃ r, bv s (m + 1) = r := ⟨_, rfl⟩
        rw [hr] at hvr hor
        have hrb : r < 34359738368 := by omega
        clear hvr hp35
        generalize bt s m = b at hbt hat hK2 h127 hsl
        generalize bv s m = v at hv hor
        clear hv
        by_cases hb : b < 128
        · rw [if_pos hb] at hK2
          rw [hK2, if_neg (by omega), hr] at hN
          have hKd : true = decide (0 < nk s) := by rw [hK2]; exact (decide_eq_true (by omega)).symm
          have HK := Lib.hid hK2
          have HN := Lib.hid hN
          have HD := Lib.hid hKd
          clear hK2 hN hr hKd
          by_cases ho : r % 2 = 1
          · have hU : un r = -((r / 2 : Nat) : Int) - 1 := by unfold un; rw [if_pos ho]
            have HU := Lib.hid hU
            have ho' : (r : Int) % 2 = 1 := by omega
            clear hU
            go_wp2
            (go_ret3; exact ⟨⟨_, rfl, tup3 (by rw [HN.out, HU.out]; omega) (by rw [HK.out] <;> rfl) HD.out⟩, by have := HB.out; (with_reducible repeat (first | exact Below.refl _ _ | apply below_alloc | apply below_dN | apply below_d | refine below_setCell ?_ (by dsimp only; omega) | refine below_call (by assumption) ?_))⟩)
          · have hU : un r = ((r / 2 : Nat) : Int) := by unfold un; rw [if_neg ho]
            have HU := Lib.hid hU
            have ho' : (r : Int) % 2 = 0 := by omega
            clear hU
            go_wp2
            (go_ret3; exact ⟨⟨_, rfl, tup3 (by rw [HN.out, HU.out]; omega) (by rw [HK.out] <;> rfl) HD.out⟩, by have := HB.out; (with_reducible repeat (first | exact Below.refl _ _ | apply below_alloc | apply below_dN | apply below_d | refine below_setCell ?_ (by dsimp only; omega) | refine below_call (by assumption) ?_))⟩)
        · rw [if_neg hb] at hK2
          clear hN
          have HK := Lib.hid hK2
          have HR := Lib.hid hr
          clear hK2 hr
          go_wp2
          go_roundw
          case rel => exact ⟨m + 1, by omega, by omega, by go_num, by rw [HR.out], HK.out, by have := HB.out; (with_reducible repeat (first | exact Below.refl _ _ | apply below_alloc | apply below_dN | apply below_d | refine below_setCell ?_ (by dsimp only; omega) | refine below_call (by assumption) ?_))⟩
          case measure => first | (simp [intOf]; done) | (simp [intOf]; omega)
      · have hz : nk s = 0 := by rw [hK]; exact nkA_end hlt
        have hn : nd s = 0 := by unfold nd; rw [if_pos hz]
        have hd : false = decide (0 < nk s) := by rw [hz]; rfl
        have HZ := Lib.hid hz
        have HN := Lib.hid hn
        have HD := Lib.hid hd
        clear hz hn hK hd
        have h5 : ¬ ((m : Int) < 5) := by omega
        go_wp2
        go_ret3
        exact ⟨⟨_, rfl, tup3 (by rw [HN.out]) (by rw [HZ.out] <;> rfl) HD.out⟩, by have := HB.out; (with_reducible repeat (first | exact Below.refl _ _ | apply below_alloc | apply below_dN | apply below_d | refine below_setCell ?_ (by dsimp only; omega) | refine below_call (by assumption) ?_))⟩
  · go_loopw [5, 11] (fun n k wr => ∃ m : Nat, m ≤ 5 ∧ m ≤ s.size ∧ k = .int .i64 m ∧ n = .int .u64 (bv s m) ∧ nk s = nkA s (5 - m) m ∧ Below w.heap.size w wr) (fun _ k _ => 5 - (intOf k).toNat)
    case atStart => exact ⟨0, by omega, by omega, rfl, rfl, rfl, by (with_reducible repeat (first | exact Below.refl _ _ | apply below_alloc | apply below_dN | apply below_d | refine below_setCell ?_ (by dsimp only; omega) | refine below_call (by assumption) ?_))⟩
    case round =>
      obtain ⟨m, hm, hms, rfl, rfl, hK, hB⟩ := hrel
      have HB := Lib.hid hB
      clear hB
      by_cases hlt : m < s.size ∧ m < 5
      · obtain ⟨hl, h5⟩ := hlt
        have hv := bv_lt s m
        have hbt := bt_lt s m
        have hat := bt_at hl
        have h127 := and127 hbt
        have e1 : bv s (m + 1) = bv s m + bt s m % 128 * 2 ^ (7 * m) := rfl
        have hvr : bv s (m + 1) < 2 ^ (7 * (m + 1)) := bv_lt s (m + 1)
        have hK2 : nk s = if bt s m < 128 then m + 1 else nkA s (5 - (m + 1)) (m + 1) := by
          rw [hK, show 5 - m = (5 - (m + 1)) + 1 by omega]
          show (if m < s.size then _ else _) = _
          rw [if_pos hl]
        have hor : bits .or .u64 (bv s m : Int) ((bt s m % 128 * 2 ^ (7 * m) : Nat) : Int) = ((bv s (m + 1) : Nat) : Int) := by
          rw [e1]
          refine or_add hv ?_
          rw [← e1]
          have : 2 ^ (7 * (m + 1)) ≤ 2 ^ 35 := Nat.pow_le_pow_right (by decide) (by omega)
          omega
        have hN : nd s = if nk s = 0 then 0 else un (bv s (nk s)) := rfl
        clear hK e1
        have hp35 : 2 ^ (7 * (m + 1)) ≤ 2 ^ 35 := Nat.pow_le_pow_right (by decide) (by omega)
        obtain ⟨C, hC⟩ : ∃ C, bt s m % 128 * 2 ^ (7 * m) = C := ⟨_, rfl⟩
        have hsl : IntKind.u64.wrap ((bt s m : Int) % 128 * 2 ^ (7 * m)) = (C : Int) := by
          have h1 : bt s m % 128 * 2 ^ (7 * m) ≤ 127 * 2 ^ (7 * m) := Nat.mul_le_mul_right _ (by omega)
          have h2 : 2 ^ (7 * m) ≤ 2 ^ 28 := Nat.pow_le_pow_right (by decide) (by omega)
          have h3 : (bt s m : Int) % 128 * 2 ^ (7 * m) = (C : Int) := by rw [← hC]; push_cast; rfl
          rw [h3, IntKind.wrap_u64]
          omega
        rw [hC] at hor
        clear hC
        obtain ⟨r, hr⟩ : ∃ r, bv s (m + 1) = r := ⟨_, rfl⟩
        rw [hr] at hvr hor
        have hrb : r < 34359738368 := by omega
        clear hvr hp35
        generalize bt s m = b at hbt hat hK2 h127 hsl
        generalize bv s m = v at hv hor
        clear hv
        by_cases hb : b < 128
        · rw [if_pos hb] at hK2
          rw [hK2, if_neg (by omega), hr] at hN
          have hKd : true = decide (0 < nk s) := by rw [hK2]; exact (decide_eq_true (by omega)).symm
          have HK := Lib.hid hK2
          have HN := Lib.hid hN
          have HD := Lib.hid hKd
          clear hK2 hN hr hKd
          by_cases ho : r % 2 = 1
          · have hU : un r = -((r / 2 : Nat) : Int) - 1 := by unfold un; rw [if_pos ho]
            have HU := Lib.hid hU
            have ho' : (r : Int) % 2 = 1 := by omega
            clear hU
            go_wp2
            (go_ret3; exact ⟨⟨_, rfl, tup3 (by rw [HN.out, HU.out]; omega) (by rw [HK.out] <;> rfl) HD.out⟩, by have := HB.out; (with_reducible repeat (first | exact Below.refl _ _ | apply below_alloc | apply below_dN | apply below_d | refine below_setCell ?_ (by dsimp only; omega) | refine below_call (by assumption) ?_))⟩)
          · have hU : un r = ((r / 2 : Nat) : Int) := by unfold un; rw [if_neg ho]
            have HU := Lib.hid hU
            have ho' : (r : Int) % 2 = 0 := by omega
            clear hU
            go_wp2
            (go_ret3; exact ⟨⟨_, rfl, tup3 (by rw [HN.out, HU.out]; omega) (by rw [HK.out] <;> rfl) HD.out⟩, by have := HB.out; (with_reducible repeat (first | exact Below.refl _ _ | apply below_alloc | apply below_dN | apply below_d | refine below_setCell ?_ (by dsimp only; omega) | refine below_call (by assumption) ?_))⟩)
        · rw [if_neg hb] at hK2
          clear hN
          have HK := Lib.hid hK2
          have HR := Lib.hid hr
          clear hK2 hr
          go_wp2
          go_roundw
          case rel => exact ⟨m + 1, by omega, by omega, by go_num, by rw [HR.out], HK.out, by have := HB.out; (with_reducible repeat (first | exact Below.refl _ _ | apply below_alloc | apply below_dN | apply below_d | refine below_setCell ?_ (by dsimp only; omega) | refine below_call (by assumption) ?_))⟩
          case measure => first | (simp [intOf]; done) | (simp [intOf]; omega)
      · have hz : nk s = 0 := by rw [hK]; exact nkA_end hlt
        have hn : nd s = 0 := by unfold nd; rw [if_pos hz]
        have hd : false = decide (0 < nk s) := by rw [hz]; rfl
        have HZ := Lib.hid hz
        have HN := Lib.hid hn
        have HD := Lib.hid hd
        clear hz hn hK hd
        have h5 : ¬ ((m : Int) < (s.size : Int)) := by omega
        go_wp2
        go_ret3
        exact ⟨⟨_, rfl, tup3 (by rw [HN.out]) (by rw [HZ.out] <;> rfl) HD.out⟩, by have := HB.out; (with_reducible repeat (first | exact Below.refl _ _ | apply below_alloc | apply below_dN | apply below_d | refine below_setCell ?_ (by dsimp only; omega) | refine below_call (by assumption) ?_))⟩
end Go.Proofs.Yteecbhmgogndaaa
