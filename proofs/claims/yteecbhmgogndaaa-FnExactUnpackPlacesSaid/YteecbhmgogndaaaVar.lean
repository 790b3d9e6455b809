/- Contracts of numbers of a varying count of bytes, in both spellings. No condition. -/
import Derived.Test.YteecbhmgogndaaaPk
import Derived.Maps.AppendAt
import Derived.Deep.Onto
namespace Go.Proofs.Yteecbhmgogndaaa
open Go.RowKit
set_option linter.unusedSimpArgs false

/-- The bytes of a number. -/
def vb (n : Nat) : List Value := if h : n < 128 then [.int .u8 (n : Int)] else .int .u8 ((n % 128 + 128 : Nat) : Int) :: vb (n / 128)
termination_by n
decreasing_by omega
theorem vb_small {n : Nat} (h : n < 128) : vb n = [.int .u8 (n : Int)] := by rw [vb, dif_pos h]
theorem vb_big {n : Nat} (h : ¬ n < 128) : vb n = .int .u8 ((n % 128 + 128 : Nat) : Int) :: vb (n / 128) := by rw [vb, dif_neg h]
theorem vb_len (n : Nat) : (vb n).length ≤ n + 1 := by
  induction n using Nat.strongRecOn with
  | _ n ih =>
    by_cases h : n < 128
    · rw [vb_small h]; simp
    · rw [vb_big h]
      have := ih (n / 128) (by omega)
      simp only [List.length_cons]
      omega
/-- A whole number's place among the natural ones. -/
def zz (d : Int) : Nat := if d < 0 then (-2 * d - 1).toNat else (2 * d).toNat
theorem or128_all : ∀ r : Fin 256, bits .or .u8 ((r.val : Nat) : Int) 128 = ((r.val % 128 + 128 : Nat) : Int) := by decide +kernel
theorem or128 (m : Nat) : bits .or .u8 ((m : Int) % 256) 128 = ((m % 128 + 128 : Nat) : Int) := by
  have := or128_all ⟨m % 256, by omega⟩
  simp only [] at this
  rw [show ((m : Int) % 256) = ((m % 256 : Nat) : Int) by omega, this]
  omega
theorem info_u8 : (Try.prog.info? 5).map (fun i => (i.zero, i.size, i.bytes)) = some (some (.int .u8 0), 1, 1) := by kernel_rfl

set_option maxRecDepth 100000 in
set_option maxHeartbeats 1000000 in
theorem packNumber_c (d : Int) (h1 : -17179869184 ≤ d) (h2 : d ≤ 17179869184) (w : World) :
    Calls Try.prog 66 #[.int .i64 d] w fun e w' => ∃ v, e = .returned v ∧ w'.ownsRow w.heap.size 5 1 v (vb (zz d)).length (vb (zz d)) ∧ Below w.heap.size w w' := by
  obtain ⟨i0, hi, hz0, hz1, hz2⟩ := info_parts info_u8
  obtain ⟨N, hN⟩ : ∃ N, zz d = N := ⟨_, rfl⟩
  have hNb : N ≤ 34359738368 := by rw [← hN]; unfold zz; split <;> omega
  rw [hN]
  by_cases hd : d < 0
  · have hNd : -2 * d - 1 = (N : Int) := by rw [← hN]; unfold zz; rw [if_pos hd]; omega
    have hNd2 : -(2 * d) - 1 = (N : Int) := by omega
    go_enter Try.func66, Try.ntmps66
    go_wp2
    go_loopw [3, 4] (fun k v wr => ∃ m : Nat, ∃ xs : List Value, k = .int .u64 m ∧ m ≤ 34359738368 ∧ xs ++ vb m = vb N ∧ wr.ownsRow w.heap.size 5 1 v xs.length xs ∧ Below w.heap.size w wr) (fun k _ _ => (intOf k).toNat)
    case atStart => exact ⟨N, [], rfl, hNb, rfl, World.ownsRow_nil _ _ _ _, by (with_reducible repeat (first | exact Below.refl _ _ | apply below_alloc | apply below_dN | apply below_d | refine below_setCell ?_ (by dsimp only; omega) | refine below_call (by assumption) ?_))⟩
    case round =>
      obtain ⟨m, xs, rfl, hm, hxs, hown, hB⟩ := hrel
      have hxl : xs.length + 1 ≤ 34359738370 := by
        have := vb_len N
        rw [← hxs, List.length_append] at this
        omega
      have HX := Lib.hid hxs
      have HZ := Lib.hid hB
      have hsz := hB.size
      clear hxs hB
      by_cases hlt : m < 128
      · go_wp2_with (at_builtin; refine wpList_append_own _ rfl (.tmp 24) (.tmp 27) 67 rfl w.heap.size 5 i0 (.int .u8 0) 1 1 Try.underlying67 hi hz0 hz1 hz2 rfl (by decide) _ _ _ rfl ((hown).alloc _) ⟨wr.heap.size, 0, none⟩ 1 1 [.int .u8 (m : Int)] rfl rfl (cell_one_new _ _ _) (by intro u hu; simp at hu; subst hu; rfl) (by unfold maxLen; omega) (by omega) (by simp; omega) ?_; intro v1 w1 hown1 hgrow1 hnil1)
        go_ret
        have e : xs ++ [.int .u8 (m : Int)] = vb N := by have := HX.out; rw [vb_small hlt] at this; exact this
        have el : xs.length + 1 = (vb N).length := by rw [← e]; simp
        rw [e, el] at hown1
        exact ⟨v1, rfl, hown1, (HZ.out.alloc hsz _).grown hgrow1 (by simp; omega) (fun j hj => (hown.lt j hj).1)⟩
      · go_wp2_with (at_builtin; refine wpList_append_own _ rfl (.tmp 18) (.tmp 22) 67 rfl w.heap.size 5 i0 (.int .u8 0) 1 1 Try.underlying67 hi hz0 hz1 hz2 rfl (by decide) _ _ _ rfl ((hown).alloc _) ⟨wr.heap.size, 0, none⟩ 1 1 [.int .u8 (bits .or .u8 ((m : Int) % 256) 128)] rfl rfl (cell_one_new _ _ _) (by intro u hu; simp at hu; subst hu; rfl) (by unfold maxLen; omega) (by omega) (by simp; omega) ?_; intro v1 w1 hown1 hgrow1 hnil1)
        rw [or128] at hown1
        go_roundw
        case rel => exact ⟨m / 128, xs ++ [.int .u8 ((m % 128 + 128 : Nat) : Int)], by go_num, by omega, by rw [List.append_assoc]; have := HX.out; rw [vb_big hlt] at this; exact this, by simpa using hown1, (HZ.out.alloc hsz _).grown hgrow1 (by simp; omega) (fun j hj => (hown.lt j hj).1)⟩
        case measure => simp [intOf]; omega
  · have hNd : 2 * d = (N : Int) := by rw [← hN]; unfold zz; rw [if_neg hd]; omega
    go_enter Try.func66, Try.ntmps66
    go_wp2
    go_loopw [3, 4] (fun k v wr => ∃ m : Nat, ∃ xs : List Value, k = .int .u64 m ∧ m ≤ 34359738368 ∧ xs ++ vb m = vb N ∧ wr.ownsRow w.heap.size 5 1 v xs.length xs ∧ Below w.heap.size w wr) (fun k _ _ => (intOf k).toNat)
    case atStart => exact ⟨N, [], rfl, hNb, rfl, World.ownsRow_nil _ _ _ _, by (with_reducible repeat (first | exact Below.refl _ _ | apply below_alloc | apply below_dN | apply below_d | refine below_setCell ?_ (by dsimp only; omega) | refine below_call (by assumption) ?_))⟩
    case round =>
      obtain ⟨m, xs, rfl, hm, hxs, hown, hB⟩ := hrel
      have hxl : xs.length + 1 ≤ 34359738370 := by
        have := vb_len N
        rw [← hxs, List.length_append] at this
        omega
      have HX := Lib.hid hxs
      have HZ := Lib.hid hB
      have hsz := hB.size
      clear hxs hB
      by_cases hlt : m < 128
      · go_wp2_with (at_builtin; refine wpList_append_own _ rfl (.tmp 24) (.tmp 27) 67 rfl w.heap.size 5 i0 (.int .u8 0) 1 1 Try.underlying67 hi hz0 hz1 hz2 rfl (by decide) _ _ _ rfl ((hown).alloc _) ⟨wr.heap.size, 0, none⟩ 1 1 [.int .u8 (m : Int)] rfl rfl (cell_one_new _ _ _) (by intro u hu; simp at hu; subst hu; rfl) (by unfold maxLen; omega) (by omega) (by simp; omega) ?_; intro v1 w1 hown1 hgrow1 hnil1)
        go_ret
        have e : xs ++ [.int .u8 (m : Int)] = vb N := by have := HX.out; rw [vb_small hlt] at this; exact this
        have el : xs.length + 1 = (vb N).length := by rw [← e]; simp
        rw [e, el] at hown1
        exact ⟨v1, rfl, hown1, (HZ.out.alloc hsz _).grown hgrow1 (by simp; omega) (fun j hj => (hown.lt j hj).1)⟩
      · go_wp2_with (at_builtin; refine wpList_append_own _ rfl (.tmp 18) (.tmp 22) 67 rfl w.heap.size 5 i0 (.int .u8 0) 1 1 Try.underlying67 hi hz0 hz1 hz2 rfl (by decide) _ _ _ rfl ((hown).alloc _) ⟨wr.heap.size, 0, none⟩ 1 1 [.int .u8 (bits .or .u8 ((m : Int) % 256) 128)] rfl rfl (cell_one_new _ _ _) (by intro u hu; simp at hu; subst hu; rfl) (by unfold maxLen; omega) (by omega) (by simp; omega) ?_; intro v1 w1 hown1 hgrow1 hnil1)
        rw [or128] at hown1
        go_roundw
        case rel => exact ⟨m / 128, xs ++ [.int .u8 ((m % 128 + 128 : Nat) : Int)], by go_num, by omega, by rw [List.append_assoc]; have := HX.out; rw [vb_big hlt] at this; exact this, by simpa using hown1, (HZ.out.alloc hsz _).grown hgrow1 (by simp; omega) (fun j hj => (hown.lt j hj).1)⟩
        case measure => simp [intOf]; omega
set_option maxRecDepth 100000 in
set_option maxHeartbeats 1000000 in
theorem l07Bytes_c (v0 : Value) (ys : List Value) (B : Nat) (d : Int) (h1 : -17179869184 ≤ d) (h2 : d ≤ 17179869184) (hy : ys.length ≤ 34359738368) (w : World) (hBw : B ≤ w.heap.size) (hown0 : w.ownsRow B 5 1 v0 ys.length ys) :
    Calls Try.prog 65 #[v0, .int .i64 d] w fun e w' => ∃ v, e = .returned v ∧ w'.ownsRow B 5 1 v (ys ++ vb (zz d)).length (ys ++ vb (zz d)) ∧ Below B w w' := by
  obtain ⟨i0, hi, hz0, hz1, hz2⟩ := info_parts info_u8
  obtain ⟨N, hN⟩ : ∃ N, zz d = N := ⟨_, rfl⟩
  have hNb : N ≤ 34359738368 := by rw [← hN]; unfold zz; split <;> omega
  rw [hN]
  by_cases hd : d < 0
  · have hNd : -2 * d - 1 = (N : Int) := by rw [← hN]; unfold zz; rw [if_pos hd]; omega
    have hNd2 : -(2 * d) - 1 = (N : Int) := by omega
    go_enter Try.func65, Try.ntmps65
    go_wp2
    go_loopw [0, 5] (fun v k wr => ∃ m : Nat, ∃ xs : List Value, k = .int .i64 m ∧ m ≤ 34359738368 ∧ xs ++ vb m = ys ++ vb N ∧ wr.ownsRow B 5 1 v xs.length xs ∧ Below B w wr) (fun _ k _ => (intOf k).toNat)
    case atStart => exact ⟨N, ys, rfl, hNb, rfl, hown0, by (with_reducible repeat (first | exact Below.refl _ _ | apply below_alloc | apply below_dN | apply below_d | refine below_setCell ?_ (by dsimp only; omega) | refine below_call (by assumption) ?_))⟩
    case round =>
      obtain ⟨m, xs, rfl, hm, hxs, hown, hB⟩ := hrel
      have hxl : xs.length + 1 ≤ 34359738370 + 34359738368 := by
        have := vb_len N
        have h9 := congrArg List.length hxs
        rw [List.length_append, List.length_append] at h9
        have h8 : 1 ≤ (vb m).length := by unfold vb; split <;> simp
        omega
      have HX := Lib.hid hxs
      have HZ := Lib.hid hB
      have hsz := hB.size
      have hBr : B ≤ wr.heap.size := Nat.le_trans hBw hsz
      clear hxs hB
      by_cases hlt : m < 128
      · go_wp2_with (at_builtin; refine wpList_append_own _ rfl (.tmp 24) (.tmp 27) 67 rfl B 5 i0 (.int .u8 0) 1 1 Try.underlying67 hi hz0 hz1 hz2 rfl (by decide) _ _ _ rfl ((hown).alloc _) ⟨wr.heap.size, 0, none⟩ 1 1 [.int .u8 (m : Int)] rfl rfl (cell_one_new _ _ _) (by intro u hu; simp at hu; subst hu; rfl) (by unfold maxLen; omega) (by omega) (by simp; omega) ?_; intro v1 w1 hown1 hgrow1 hnil1)
        go_ret
        have e : xs ++ [.int .u8 (m : Int)] = ys ++ vb N := by have := HX.out; rw [vb_small hlt] at this; exact this
        have el : xs.length + 1 = (ys ++ vb N).length := by rw [← e]; simp
        rw [e, el] at hown1
        exact ⟨v1, rfl, hown1, (HZ.out.alloc (Nat.le_trans hBw hsz) _).grown hgrow1 (by simp; omega) (fun j hj => (hown.lt j hj).1)⟩
      · go_wp2_with (at_builtin; refine wpList_append_own _ rfl (.tmp 15) (.tmp 20) 67 rfl B 5 i0 (.int .u8 0) 1 1 Try.underlying67 hi hz0 hz1 hz2 rfl (by decide) _ _ _ rfl ((hown).alloc _) ⟨wr.heap.size, 0, none⟩ 1 1 [.int .u8 ((m : Int) % 128 + 128)] rfl rfl (cell_one_new _ _ _) (by intro u hu; simp at hu; subst hu; rfl) (by unfold maxLen; omega) (by omega) (by simp; omega) ?_; intro v1 w1 hown1 hgrow1 hnil1)
        rw [show ((m : Int) % 128 + 128) = ((m % 128 + 128 : Nat) : Int) by omega] at hown1
        go_roundw
        case rel => exact ⟨m / 128, xs ++ [.int .u8 ((m % 128 + 128 : Nat) : Int)], by go_num, by omega, by rw [List.append_assoc]; have := HX.out; rw [vb_big hlt] at this; exact this, by simpa using hown1, (HZ.out.alloc (Nat.le_trans hBw hsz) _).grown hgrow1 (by simp; omega) (fun j hj => (hown.lt j hj).1)⟩
        case measure => simp [intOf]; omega
  · have hNd : 2 * d = (N : Int) := by rw [← hN]; unfold zz; rw [if_neg hd]; omega
    go_enter Try.func65, Try.ntmps65
    go_wp2
    go_loopw [0, 5] (fun v k wr => ∃ m : Nat, ∃ xs : List Value, k = .int .i64 m ∧ m ≤ 34359738368 ∧ xs ++ vb m = ys ++ vb N ∧ wr.ownsRow B 5 1 v xs.length xs ∧ Below B w wr) (fun _ k _ => (intOf k).toNat)
    case atStart => exact ⟨N, ys, rfl, hNb, rfl, hown0, by (with_reducible repeat (first | exact Below.refl _ _ | apply below_alloc | apply below_dN | apply below_d | refine below_setCell ?_ (by dsimp only; omega) | refine below_call (by assumption) ?_))⟩
    case round =>
      obtain ⟨m, xs, rfl, hm, hxs, hown, hB⟩ := hrel
      have hxl : xs.length + 1 ≤ 34359738370 + 34359738368 := by
        have := vb_len N
        have h9 := congrArg List.length hxs
        rw [List.length_append, List.length_append] at h9
        have h8 : 1 ≤ (vb m).length := by unfold vb; split <;> simp
        omega
      have HX := Lib.hid hxs
      have HZ := Lib.hid hB
      have hsz := hB.size
      have hBr : B ≤ wr.heap.size := Nat.le_trans hBw hsz
      clear hxs hB
      by_cases hlt : m < 128
      · go_wp2_with (at_builtin; refine wpList_append_own _ rfl (.tmp 24) (.tmp 27) 67 rfl B 5 i0 (.int .u8 0) 1 1 Try.underlying67 hi hz0 hz1 hz2 rfl (by decide) _ _ _ rfl ((hown).alloc _) ⟨wr.heap.size, 0, none⟩ 1 1 [.int .u8 (m : Int)] rfl rfl (cell_one_new _ _ _) (by intro u hu; simp at hu; subst hu; rfl) (by unfold maxLen; omega) (by omega) (by simp; omega) ?_; intro v1 w1 hown1 hgrow1 hnil1)
        go_ret
        have e : xs ++ [.int .u8 (m : Int)] = ys ++ vb N := by have := HX.out; rw [vb_small hlt] at this; exact this
        have el : xs.length + 1 = (ys ++ vb N).length := by rw [← e]; simp
        rw [e, el] at hown1
        exact ⟨v1, rfl, hown1, (HZ.out.alloc (Nat.le_trans hBw hsz) _).grown hgrow1 (by simp; omega) (fun j hj => (hown.lt j hj).1)⟩
      · go_wp2_with (at_builtin; refine wpList_append_own _ rfl (.tmp 15) (.tmp 20) 67 rfl B 5 i0 (.int .u8 0) 1 1 Try.underlying67 hi hz0 hz1 hz2 rfl (by decide) _ _ _ rfl ((hown).alloc _) ⟨wr.heap.size, 0, none⟩ 1 1 [.int .u8 ((m : Int) % 128 + 128)] rfl rfl (cell_one_new _ _ _) (by intro u hu; simp at hu; subst hu; rfl) (by unfold maxLen; omega) (by omega) (by simp; omega) ?_; intro v1 w1 hown1 hgrow1 hnil1)
        rw [show ((m : Int) % 128 + 128) = ((m % 128 + 128 : Nat) : Int) by omega] at hown1
        go_roundw
        case rel => exact ⟨m / 128, xs ++ [.int .u8 ((m % 128 + 128 : Nat) : Int)], by go_num, by omega, by rw [List.append_assoc]; have := HX.out; rw [vb_big hlt] at this; exact this, by simpa using hown1, (HZ.out.alloc (Nat.le_trans hBw hsz) _).grown hgrow1 (by simp; omega) (fun j hj => (hown.lt j hj).1)⟩
        case measure => simp [intOf]; omega
end Go.Proofs.Yteecbhmgogndaaa
