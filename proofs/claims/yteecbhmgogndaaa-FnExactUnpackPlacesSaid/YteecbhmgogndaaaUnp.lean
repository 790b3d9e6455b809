/- Contracts of reading a packed number, in both spellings. No condition. -/
import Derived.Test.YteecbhmgogndaaaPack
namespace Go.Proofs.Yteecbhmgogndaaa
open Go.RowKit
set_option linter.unusedSimpArgs false

/-- The byte at a place of a text; the value of its first bytes; how many a number takes; the number. -/
def bt (s : ByteArray) (i : Nat) : Nat := if h : i < s.size then s[i].toNat else 0
def bv (s : ByteArray) : Nat → Nat
  | 0 => 0
  | k + 1 => bv s k + bt s k % 128 * 2 ^ (7 * k)
def nkA (s : ByteArray) : Nat → Nat → Nat
  | 0, _ => 0
  | f + 1, k => if k < s.size then if bt s k < 128 then k + 1 else nkA s f (k + 1) else 0
def nk (s : ByteArray) : Nat := nkA s 5 0
def un (n : Nat) : Int := if n % 2 = 1 then -((n / 2 : Nat) : Int) - 1 else ((n / 2 : Nat) : Int)
def nd (s : ByteArray) : Int := if nk s = 0 then 0 else un (bv s (nk s))
theorem bt_at {s : ByteArray} {i : Nat} (h : i < s.size) : s[i].toNat = bt s i := by unfold bt; rw [dif_pos h]
theorem bt_lt (s : ByteArray) (i : Nat) : bt s i < 256 := by
  unfold bt
  split
  · exact UInt8.toNat_lt _
  · omega
theorem bv_lt (s : ByteArray) : ∀ k, bv s k < 2 ^ (7 * k)
  | 0 => by show 0 < 1; omega
  | k + 1 => by
    have h := bv_lt s k
    have hb : bt s k % 128 ≤ 127 := by omega
    have h2 : bt s k % 128 * 2 ^ (7 * k) ≤ 127 * 2 ^ (7 * k) := Nat.mul_le_mul_right _ hb
    rw [show 7 * (k + 1) = 7 * k + 7 by omega, Nat.pow_add]
    unfold bv
    omega
theorem and127_all : ∀ r : Fin 256, bits .and .u8 ((r.val : Nat) : Int) 127 = ((r.val % 128 : Nat) : Int) := by decide +kernel
theorem and127 {b : Nat} (h : b < 256) : bits .and .u8 (b : Int) 127 = ((b % 128 : Nat) : Int) := and127_all ⟨b, h⟩
theorem or_add {n c k : Nat} (hn : n < 2 ^ k) (hc : n + c * 2 ^ k < 18446744073709551616) : bits .or .u64 (n : Int) ((c * 2 ^ k : Nat) : Int) = ((n + c * 2 ^ k : Nat) : Int) := by
  have h1 : (BitVec.ofInt 64 (n : Int)).toNat = n := by rw [BitVec.ofInt_natCast, BitVec.toNat_ofNat]; exact Nat.mod_eq_of_lt (by omega)
  have h2 : (BitVec.ofInt 64 ((c * 2 ^ k : Nat) : Int)).toNat = c * 2 ^ k := by rw [BitVec.ofInt_natCast, BitVec.toNat_ofNat]; exact Nat.mod_eq_of_lt (by omega)
  show IntKind.u64.wrap ((BitVec.ofInt 64 (n : Int) ||| BitVec.ofInt 64 ((c * 2 ^ k : Nat) : Int)).toNat : Int) = _
  rw [BitVec.toNat_or, h1, h2, Nat.or_comm, Nat.mul_comm c, ← Nat.two_pow_add_eq_or_of_lt hn, IntKind.wrap_u64, Nat.mul_comm _ c]
  generalize c * 2 ^ k = q at hc ⊢
  omega
theorem tup2 {a b c d : Int} (h1 : a = c) (h2 : b = d) : Value.tuple #[.int .i64 a, .int .i64 b] = .tuple #[.int .i64 c, .int .i64 d] := by rw [h1, h2]
theorem oddV {x : Int} {r : Nat} (h : x = (r : Int)) (ho : r % 2 = 1) (hr : r < 1099511627776) : wrap64 (-(x + 1).tdiv 2) = -((r / 2 : Nat) : Int) - 1 := by
  rw [Int.tdiv_eq_ediv_of_nonneg (by omega)]
  unfold wrap64
  omega
theorem nkA_end {s : ByteArray} {m : Nat} (h : ¬ (m < s.size ∧ m < 5)) : nkA s (5 - m) m = 0 := by
  by_cases h5 : m < 5
  · rw [show 5 - m = (5 - (m + 1)) + 1 by omega]
    show (if m < s.size then _ else _) = _
    rw [if_neg (fun h2 => h ⟨h2, h5⟩)]
  · rw [show 5 - m = 0 by omega]; rfl
set_option maxRecDepth 100000 in
set_option maxHeartbeats 4000000 in
theorem l07Number_c (s : ByteArray) (w : World) : Calls Try.prog 67 #[.string s] w (Ret (RV (.tuple #[.int .i64 (nd s), .int .i64 (nk s)])) w) := by
  go_enter Try.func67, Try.ntmps67
  go_wp2
  go_loopw [4, 5, 6] (fun n c k wr => ∃ m : Nat, m ≤ 5 ∧ m ≤ s.size ∧ k = .int .i64 m ∧ n = .int .i64 (bv s m) ∧ c = .int .i64 ((2 ^ (7 * m) : Nat) : Int) ∧ nk s = nkA s (5 - m) m ∧ Below w.heap.size w wr) (fun _ _ k _ => 5 - (intOf k).toNat)
  case atStart => exact ⟨0, by omega, by omega, rfl, rfl, rfl, rfl, by (with_reducible repeat (first | exact Below.refl _ _ | apply below_alloc | apply below_dN | apply below_d | refine below_setCell ?_ (by dsimp only; omega) | refine below_call (by assumption) ?_))⟩
  case round =>
    obtain ⟨m, hm, hms, rfl, rfl, rfl, hK, hB⟩ := hrel
    have HB := Lib.hid hB
    clear hB
    by_cases hlt : m < s.size ∧ m < 5
    · obtain ⟨hl, h5⟩ := hlt
      have hv := bv_lt s m
      have hbt := bt_lt s m
      have hat := bt_at hl
      have e1 : bv s (m + 1) = bv s m + bt s m % 128 * 2 ^ (7 * m) := rfl
      have hK2 : nk s = if bt s m < 128 then m + 1 else nkA s (5 - (m + 1)) (m + 1) := by
        rw [hK, show 5 - m = (5 - (m + 1)) + 1 by omega]
        show (if m < s.size then _ else _) = _
        rw [if_pos hl]
      have hN : nd s = if nk s = 0 then 0 else un (bv s (nk s)) := rfl
      clear hK
      generalize bt s m = b at hbt hat e1 hK2
      by_cases hb : b < 128
      · rw [if_pos hb] at hK2
        rw [hK2, if_neg (by omega)] at hN
        generalize bv s (m + 1) = r at e1 hN
        generalize bv s m = v at hv e1
        have HK := Lib.hid hK2
        have HN := Lib.hid hN
        clear hK2 hN
        by_cases ho : r % 2 = 1
        · have hU : un r = -((r / 2 : Nat) : Int) - 1 := by unfold un; rw [if_pos ho]
          have HU := Lib.hid hU
          clear hU
          obtain rfl | rfl | rfl | rfl | rfl : m = 0 ∨ m = 1 ∨ m = 2 ∨ m = 3 ∨ m = 4 := by omega
          all_goals simp only [Nat.reduceMul, Nat.reducePow, Nat.mul_one] at e1 hv
          all_goals go_wp2
          all_goals (go_ret2; exact ⟨⟨_, rfl, tup2 (by rw [HN.out, HU.out]; refine oddV ?_ ho ?_ <;> omega) (by rw [HK.out] <;> rfl)⟩, by have := HB.out; (with_reducible repeat (first | exact Below.refl _ _ | apply below_alloc | apply below_dN | apply below_d | refine below_setCell ?_ (by dsimp only; omega) | refine below_call (by assumption) ?_))⟩)
        · have hU : un r = ((r / 2 : Nat) : Int) := by unfold un; rw [if_neg ho]
          have HU := Lib.hid hU
          clear hU
          obtain rfl | rfl | rfl | rfl | rfl : m = 0 ∨ m = 1 ∨ m = 2 ∨ m = 3 ∨ m = 4 := by omega
          all_goals simp only [Nat.reduceMul, Nat.reducePow, Nat.mul_one] at e1 hv
          all_goals go_wp2
          all_goals (go_ret2; exact ⟨⟨_, rfl, tup2 (by rw [HN.out, HU.out]; omega) (by rw [HK.out] <;> rfl)⟩, by have := HB.out; (with_reducible repeat (first | exact Below.refl _ _ | apply below_alloc | apply below_dN | apply below_d | refine below_setCell ?_ (by dsimp only; omega) | refine below_call (by assumption) ?_))⟩)
      · rw [if_neg hb] at hK2
        clear hN
        have hvr : bv s (m + 1) < 2 ^ (7 * (m + 1)) := bv_lt s (m + 1)
        obtain ⟨r, hr⟩ : ∃ r, bv s (m + 1) = r := ⟨_, rfl⟩
        rw [hr] at e1 hvr
        generalize bv s m = v at hv e1
        have HK := Lib.hid hK2
        have HR := Lib.hid hr
        clear hK2 hr
        obtain rfl | rfl | rfl | rfl | rfl : m = 0 ∨ m = 1 ∨ m = 2 ∨ m = 3 ∨ m = 4 := by omega
        · simp only [Nat.reduceMul, Nat.reducePow, Nat.mul_one, Nat.reduceAdd] at e1 hv hvr
          go_wp2
          go_roundw
          case rel => exact ⟨1, by omega, by omega, by go_num, by rw [HR.out]; go_num, by go_num, HK.out, by have := HB.out; (with_reducible repeat (first | exact Below.refl _ _ | apply below_alloc | apply below_dN | apply below_d | refine below_setCell ?_ (by dsimp only; omega) | refine below_call (by assumption) ?_))⟩
          case measure => first | (simp [intOf]; done) | (simp [intOf]; omega)
        · simp only [Nat.reduceMul, Nat.reducePow, Nat.mul_one, Nat.reduceAdd] at e1 hv hvr
          go_wp2
          go_roundw
          case rel => exact ⟨2, by omega, by omega, by go_num, by rw [HR.out]; go_num, by go_num, HK.out, by have := HB.out; (with_reducible repeat (first | exact Below.refl _ _ | apply below_alloc | apply below_dN | apply below_d | refine below_setCell ?_ (by dsimp only; omega) | refine below_call (by assumption) ?_))⟩
          case measure => first | (simp [intOf]; done) | (simp [intOf]; omega)
        · simp only [Nat.reduceMul, Nat.reducePow, Nat.mul_one, Nat.reduceAdd] at e1 hv hvr
          go_wp2
          go_roundw
          case rel => exact ⟨3, by omega, by omega, by go_num, by rw [HR.out]; go_num, by go_num, HK.out, by have := HB.out; (with_reducible repeat (first | exact Below.refl _ _ | apply below_alloc | apply below_dN | apply below_d | refine below_setCell ?_ (by dsimp only; omega) | refine below_call (by assumption) ?_))⟩
          case measure => first | (simp [intOf]; done) | (simp [intOf]; omega)
        · simp only [Nat.reduceMul, Nat.reducePow, Nat.mul_one, Nat.reduceAdd] at e1 hv hvr
          go_wp2
          go_roundw
          case rel => exact ⟨4, by omega, by omega, by go_num, by rw [HR.out]; go_num, by go_num, HK.out, by have := HB.out; (with_reducible repeat (first | exact Below.refl _ _ | apply below_alloc | apply below_dN | apply below_d | refine below_setCell ?_ (by dsimp only; omega) | refine below_call (by assumption) ?_))⟩
          case measure => first | (simp [intOf]; done) | (simp [intOf]; omega)
        · simp only [Nat.reduceMul, Nat.reducePow, Nat.mul_one, Nat.reduceAdd] at e1 hv hvr
          go_wp2
          go_roundw
          case rel => exact ⟨5, by omega, by omega, by go_num, by rw [HR.out]; go_num, by go_num, HK.out, by have := HB.out; (with_reducible repeat (first | exact Below.refl _ _ | apply below_alloc | apply below_dN | apply below_d | refine below_setCell ?_ (by dsimp only; omega) | refine below_call (by assumption) ?_))⟩
          case measure => first | (simp [intOf]; done) | (simp [intOf]; omega)
    · have hz : nk s = 0 := by rw [hK]; exact nkA_end hlt
      have hn : nd s = 0 := by unfold nd; rw [if_pos hz]
      have HZ := Lib.hid hz
      have HN := Lib.hid hn
      clear hz hn hK
      by_cases hl : m < s.size
      · have h5 : ¬ ((m : Int) < 5) := by omega
        go_wp2
        go_ret2
        exact ⟨⟨_, rfl, tup2 (by rw [HN.out]) (by rw [HZ.out]; rfl)⟩, by have := HB.out; (with_reducible repeat (first | exact Below.refl _ _ | apply below_alloc | apply below_dN | apply below_d | refine below_setCell ?_ (by dsimp only; omega) | refine below_call (by assumption) ?_))⟩
      · go_wp2
        go_ret2
        exact ⟨⟨_, rfl, tup2 (by rw [HN.out]) (by rw [HZ.out]; rfl)⟩, by have := HB.out; (with_reducible repeat (first | exact Below.refl _ _ | apply below_alloc | apply below_dN | apply below_d | refine below_setCell ?_ (by dsimp only; omega) | refine below_call (by assumption) ?_))⟩
end Go.Proofs.Yteecbhmgogndaaa
