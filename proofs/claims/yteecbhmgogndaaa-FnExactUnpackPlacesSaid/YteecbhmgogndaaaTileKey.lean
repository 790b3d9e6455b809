/- Contracts of TileKey in both spellings; its law. No condition. -/
import Derived.Test.YteecbhmgogndaaaKey
import Derived.Test.YteecbhmgogndaaaBas2
namespace Go.Proofs.Yteecbhmgogndaaa
open Go.RowKit
set_option linter.unusedSimpArgs false

def zoomOk (z : Int) : Bool := decide (0 ≤ z) && decide (z ≤ 20)
set_option maxHeartbeats 400000 in
theorem isZoom_c (z : Int) (w : World) : Calls Try.prog 33 #[.int .i64 z] w fun e w' => e = .returned (.bool (zoomOk z)) ∧ w = w' := by
  go_enter Try.func33, Try.ntmps33
  go_wp2_with (go_at_call 34; refine (within_c _ _ _ _).mono ?_; rintro e w' ⟨rfl, rfl⟩)
  go_ret
  exact ⟨rfl, rfl⟩
set_option maxHeartbeats 400000 in
theorem l07Zoom_c (z : Int) (w : World) : Calls Try.prog 30 #[.int .i64 z] w fun e w' => e = .returned (.bool (zoomOk z)) ∧ w = w' := by
  go_enter Try.func30, Try.ntmps30
  go_wp2_with (go_at_call 31; refine (l00In_c _ _ _ _).mono ?_; rintro e w' ⟨rfl, rfl⟩)
  go_ret
  exact ⟨rfl, rfl⟩

def tileOk (z : Nat) (n : Int) : Bool := decide (0 ≤ n) && decide (n ≤ ((2 ^ z : Nat) : Int) - 1)
/-- What TileKey returns. -/
def tkV (z x y : Int) : Value := if zoomOk z && (tileOk z.toNat x && tileOk z.toNat y) then .tuple #[.string (keyS z.toNat x.toNat y.toNat), .bool true] else .tuple #[.string ⟨#[]⟩, .bool false]
theorem pow_le_20 {z : Nat} (hz : z ≤ 20) : 2 ^ z ≤ 1048576 := Nat.le_trans (Nat.pow_le_pow_right (by decide) hz) (by decide)


set_option maxRecDepth 100000 in
set_option maxHeartbeats 2000000 in
theorem iTileKey_c (z x y : Int) (w : World) : Calls Try.prog 10 #[.int .i64 z, .int .i64 x, .int .i64 y] w (Ret (RV (tkV z x y)) w) := by
  cases hz : zoomOk z
  · have HV : tkV z x y = .tuple #[.string ⟨#[]⟩, .bool false] := by unfold tkV; rw [hz]; rfl
    rw [HV]
    clear HV
    go_enter Try.func10, Try.ntmps10
    go_wp2_with (go_at_call 33; refine (isZoom_c _ _).mono ?_; rintro e w' ⟨rfl, rfl⟩)
    go_ret2
    exact ⟨⟨_, rfl, rfl⟩, by (with_reducible repeat (first | exact Below.refl _ _ | apply below_alloc | apply below_dN | apply below_d | refine below_setCell ?_ (by dsimp only; omega) | refine below_call (by assumption) ?_))⟩
  · have hz' := hz
    simp only [zoomOk, Bool.and_eq_true, decide_eq_true_eq] at hz'
    obtain ⟨m, rfl⟩ : ∃ m : Nat, z = m := ⟨z.toNat, by omega⟩
    have hm : m ≤ 20 := by omega
    have hp := pow_le_20 hm
    have hp1 : 1 ≤ 2 ^ m := Nat.two_pow_pos m
    obtain ⟨N, hN⟩ : ∃ N : Nat, 2 ^ m = N := ⟨_, rfl⟩
    have hsh : IntKind.i64.wrap ((2 : Int) ^ m) = (N : Int) := by
      have e : ((2 : Int) ^ m) = ((2 ^ m : Nat) : Int) := by simp
      rw [e, hN, IntKind.wrap_i64]; omega
    have hm0 : (0 : Int) ≤ m := by omega
    have hm1 : (m : Int) ≤ 64 := by omega
    have HN := Lib.hid hN
    rw [hN] at hp hp1
    have ht : ∀ n : Int, tileOk m n = (decide (0 ≤ n) && decide (n ≤ (N : Int) - 1)) := fun n => by unfold tileOk; rw [hN]
    have HT := Lib.hid ht
    cases h1 : tileOk m x
    · have HV : tkV m x y = .tuple #[.string ⟨#[]⟩, .bool false] := by unfold tkV; rw [hz, Int.toNat_natCast, h1]; rfl
      rw [HV]
      rw [ht] at h1
      clear HV hz' hN ht HT HN
      go_enter Try.func10, Try.ntmps10
      go_wp2_with (first | (go_at_call 33; refine (isZoom_c _ _).mono ?_; rintro e w' ⟨rfl, rfl⟩) | (go_at_call 34; refine (within_c _ _ _ _).mono ?_; rintro e w' ⟨rfl, rfl⟩))
      go_ret2
      exact ⟨⟨_, rfl, rfl⟩, by (with_reducible repeat (first | exact Below.refl _ _ | apply below_alloc | apply below_dN | apply below_d | refine below_setCell ?_ (by dsimp only; omega) | refine below_call (by assumption) ?_))⟩
    · cases h2 : tileOk m y
      · have HV : tkV m x y = .tuple #[.string ⟨#[]⟩, .bool false] := by unfold tkV; rw [hz, Int.toNat_natCast, h1, h2]; rfl
        rw [HV]
        rw [ht] at h1 h2
        clear HV hz' hN ht HT HN
        go_enter Try.func10, Try.ntmps10
        go_wp2_with (first | (go_at_call 33; refine (isZoom_c _ _).mono ?_; rintro e w' ⟨rfl, rfl⟩) | (go_at_call 34; refine (within_c _ _ _ _).mono ?_; rintro e w' ⟨rfl, rfl⟩))
        go_ret2
        exact ⟨⟨_, rfl, rfl⟩, by (with_reducible repeat (first | exact Below.refl _ _ | apply below_alloc | apply below_dN | apply below_d | refine below_setCell ?_ (by dsimp only; omega) | refine below_call (by assumption) ?_))⟩
      · have HV : tkV m x y = .tuple #[.string (keyS m x.toNat y.toNat), .bool true] := by unfold tkV; rw [hz, Int.toNat_natCast, h1, h2]; rfl
        rw [HV]
        rw [ht] at h1 h2
        have g1 := h1
        have g2 := h2
        simp only [Bool.and_eq_true, decide_eq_true_eq] at g1 g2
        obtain ⟨a, rfl⟩ : ∃ a : Nat, x = a := ⟨x.toNat, by omega⟩
        obtain ⟨b, rfl⟩ : ∃ b : Nat, y = b := ⟨y.toNat, by omega⟩
        have ha : a < 9223372036854775808 := by omega
        have hb : b < 9223372036854775808 := by omega
        have k1 : (decide ((0 : Int) ≤ (a : Int)) && decide ((a : Int) ≤ (N : Int) - 1)) = true := h1
        have k2 : (decide ((0 : Int) ≤ (b : Int)) && decide ((b : Int) ≤ (N : Int) - 1)) = true := h2
        have k3 : decide ((a : Int) ≤ (N : Int) - 1) = true := by simp only [decide_eq_true_eq]; omega
        have k4 : decide ((b : Int) ≤ (N : Int) - 1) = true := by simp only [decide_eq_true_eq]; omega
        clear h1 h2
        rw [Int.toNat_natCast, Int.toNat_natCast]
        clear HV hz' hN ht HT HN g1 g2
        go_enter Try.func10, Try.ntmps10
        go_wp2_with (first | (go_at_call 33; refine (isZoom_c _ _).mono ?_; rintro e w' ⟨rfl, rfl⟩) | (go_at_call 34; refine (within_c _ _ _ _).mono ?_; rintro e w' ⟨rfl, rfl⟩) | (go_at_call 35; ((with_reducible refine (iKey_c _ _ _ hm ha hb _).mono ?_); rintro e w1 ⟨⟨v, rfl, rfl⟩, hb⟩)))
        go_ret2
        exact ⟨⟨_, rfl, rfl⟩, by (with_reducible repeat (first | exact Below.refl _ _ | apply below_alloc | apply below_dN | apply below_d | refine below_setCell ?_ (by dsimp only; omega) | refine below_call (by assumption) ?_))⟩

set_option maxRecDepth 100000 in
set_option maxHeartbeats 2000000 in
theorem sTileKey_c (z x y : Int) (w : World) : Calls Try.prog 9 #[.int .i64 z, .int .i64 x, .int .i64 y] w (Ret (RV (tkV z x y)) w) := by
  cases hz : zoomOk z
  · have HV : tkV z x y = .tuple #[.string ⟨#[]⟩, .bool false] := by unfold tkV; rw [hz]; rfl
    rw [HV]
    clear HV
    go_enter Try.func9, Try.ntmps9
    go_wp2_with (go_at_call 30; refine (l07Zoom_c _ _).mono ?_; rintro e w' ⟨rfl, rfl⟩)
    go_ret2
    exact ⟨⟨_, rfl, rfl⟩, by (with_reducible repeat (first | exact Below.refl _ _ | apply below_alloc | apply below_dN | apply below_d | refine below_setCell ?_ (by dsimp only; omega) | refine below_call (by assumption) ?_))⟩
  · have hz' := hz
    simp only [zoomOk, Bool.and_eq_true, decide_eq_true_eq] at hz'
    obtain ⟨m, rfl⟩ : ∃ m : Nat, z = m := ⟨z.toNat, by omega⟩
    have hm : m ≤ 20 := by omega
    have hp := pow_le_20 hm
    have hp1 : 1 ≤ 2 ^ m := Nat.two_pow_pos m
    obtain ⟨N, hN⟩ : ∃ N : Nat, 2 ^ m = N := ⟨_, rfl⟩
    have hsh : IntKind.i64.wrap ((2 : Int) ^ m) = (N : Int) := by
      have e : ((2 : Int) ^ m) = ((2 ^ m : Nat) : Int) := by simp
      rw [e, hN, IntKind.wrap_i64]; omega
    have hm0 : (0 : Int) ≤ m := by omega
    have hm1 : (m : Int) ≤ 64 := by omega
    have HN := Lib.hid hN
    rw [hN] at hp hp1
    have ht : ∀ n : Int, tileOk m n = (decide (0 ≤ n) && decide (n ≤ (N : Int) - 1)) := fun n => by unfold tileOk; rw [hN]
    have HT := Lib.hid ht
    cases h1 : tileOk m x
    · have HV : tkV m x y = .tuple #[.string ⟨#[]⟩, .bool false] := by unfold tkV; rw [hz, Int.toNat_natCast, h1]; rfl
      rw [HV]
      rw [ht] at h1
      clear HV hz' hN ht HT HN
      go_enter Try.func9, Try.ntmps9
      go_wp2_with (first | (go_at_call 30; refine (l07Zoom_c _ _).mono ?_; rintro e w' ⟨rfl, rfl⟩) | (go_at_call 31; refine (l00In_c _ _ _ _).mono ?_; rintro e w' ⟨rfl, rfl⟩))
      go_ret2
      exact ⟨⟨_, rfl, rfl⟩, by (with_reducible repeat (first | exact Below.refl _ _ | apply below_alloc | apply below_dN | apply below_d | refine below_setCell ?_ (by dsimp only; omega) | refine below_call (by assumption) ?_))⟩
    · cases h2 : tileOk m y
      · have HV : tkV m x y = .tuple #[.string ⟨#[]⟩, .bool false] := by unfold tkV; rw [hz, Int.toNat_natCast, h1, h2]; rfl
        rw [HV]
        rw [ht] at h1 h2
        clear HV hz' hN ht HT HN
        go_enter Try.func9, Try.ntmps9
        go_wp2_with (first | (go_at_call 30; refine (l07Zoom_c _ _).mono ?_; rintro e w' ⟨rfl, rfl⟩) | (go_at_call 31; refine (l00In_c _ _ _ _).mono ?_; rintro e w' ⟨rfl, rfl⟩))
        go_ret2
        exact ⟨⟨_, rfl, rfl⟩, by (with_reducible repeat (first | exact Below.refl _ _ | apply below_alloc | apply below_dN | apply below_d | refine below_setCell ?_ (by dsimp only; omega) | refine below_call (by assumption) ?_))⟩
      · have HV : tkV m x y = .tuple #[.string (keyS m x.toNat y.toNat), .bool true] := by unfold tkV; rw [hz, Int.toNat_natCast, h1, h2]; rfl
        rw [HV]
        rw [ht] at h1 h2
        have g1 := h1
        have g2 := h2
        simp only [Bool.and_eq_true, decide_eq_true_eq] at g1 g2
        obtain ⟨a, rfl⟩ : ∃ a : Nat, x = a := ⟨x.toNat, by omega⟩
        obtain ⟨b, rfl⟩ : ∃ b : Nat, y = b := ⟨y.toNat, by omega⟩
        have ha : a < 9223372036854775808 := by omega
        have hb : b < 9223372036854775808 := by omega
        have k1 : (decide ((0 : Int) ≤ (a : Int)) && decide ((a : Int) ≤ (N : Int) - 1)) = true := h1
        have k2 : (decide ((0 : Int) ≤ (b : Int)) && decide ((b : Int) ≤ (N : Int) - 1)) = true := h2
        have k3 : decide ((a : Int) ≤ (N : Int) - 1) = true := by simp only [decide_eq_true_eq]; omega
        have k4 : decide ((b : Int) ≤ (N : Int) - 1) = true := by simp only [decide_eq_true_eq]; omega
        clear h1 h2
        rw [Int.toNat_natCast, Int.toNat_natCast]
        clear HV hz' hN ht HT HN g1 g2
        go_enter Try.func9, Try.ntmps9
        go_wp2_with (first | (go_at_call 30; refine (l07Zoom_c _ _).mono ?_; rintro e w' ⟨rfl, rfl⟩) | (go_at_call 31; refine (l00In_c _ _ _ _).mono ?_; rintro e w' ⟨rfl, rfl⟩) | (go_at_call 32; ((with_reducible refine (sKey_c _ _ _ hm ha hb _).mono ?_); rintro e w1 ⟨⟨v, rfl, rfl⟩, hb⟩)))
        go_ret2
        exact ⟨⟨_, rfl, rfl⟩, by (with_reducible repeat (first | exact Below.refl _ _ | apply below_alloc | apply below_dN | apply below_d | refine below_setCell ?_ (by dsimp only; omega) | refine below_call (by assumption) ?_))⟩

theorem tkV_tuple (z x y : Int) : ∃ s b, tkV z x y = .tuple #[.string s, .bool b] := by unfold tkV; split <;> exact ⟨_, _, rfl⟩
set_option maxHeartbeats 1000000 in
theorem lawTileKey (z x y : Int) (w : World) : Calls Try.prog 3 #[.int .i64 z, .int .i64 x, .int .i64 y] w fun e w' => e = .returned (.bool true) ∧ Below w.heap.size w w' := by
  have hs := sTileKey_c z x y
  have hi := iTileKey_c z x y
  obtain ⟨s, b, hv⟩ := tkV_tuple z x y
  rw [hv] at hs hi
  have HS := Lib.hid hs
  have HI := Lib.hid hi
  clear hs hi hv
  go_enter Try.func3, Try.ntmps3
  go_wp2_with (first | (go_at_call 9; ((with_reducible refine (HS.out _).mono ?_); rintro e w1 ⟨⟨v, rfl, rfl⟩, hb⟩)) | (go_at_call 10; ((with_reducible refine (HI.out _).mono ?_); rintro e w1 ⟨⟨v, rfl, rfl⟩, hb⟩)))
  go_ret
  exact ⟨rfl, by (with_reducible repeat (first | exact Below.refl _ _ | apply below_alloc | apply below_dN | apply below_d | refine below_setCell ?_ (by dsimp only; omega) | refine below_call (by assumption) ?_))⟩
end Go.Proofs.Yteecbhmgogndaaa
