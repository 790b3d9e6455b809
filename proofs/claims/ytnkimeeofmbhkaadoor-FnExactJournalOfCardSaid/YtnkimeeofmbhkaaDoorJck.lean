/- Check numbers of lines, in both spellings. No condition. -/
import Derived.Test.YtnkimeeofmbhkaaDoorRel
import Derived.Test.YtnkimeeofmbhkaaDoorBas2
namespace Go.Proofs.YtnkimeeofmbhkaaDoor
open Go.RowKit
set_option linter.unusedSimpArgs false
/-- The check number after i bytes. -/
def ckS (s : ByteArray) (n : Nat) : Nat → Nat
  | 0 => n
  | i + 1 => (877 * ckS s n i + (if h : i < s.size then s[i].toNat else 0) + 163) % 65003
theorem ckS_succ {s : ByteArray} {n i : Nat} (h : i < s.size) : ckS s n (i + 1) = (877 * ckS s n i + s[i].toNat + 163) % 65003 := by
  show (877 * ckS s n i + (if h : i < s.size then s[i].toNat else 0) + 163) % 65003 = _
  rw [dif_pos h]
theorem ckS_lt {s : ByteArray} {n : Nat} (hn : n < 65003) : ∀ i, ckS s n i < 65003
  | 0 => hn
  | i + 1 => Nat.mod_lt _ (by decide)
set_option maxRecDepth 100000 in
set_option maxHeartbeats 1000000 in
theorem l01Check_c (s : ByteArray) (n : Nat) (hs : s.size ≤ 1048576) (hn : n < 65003) (w : World) : Calls Tryd.prog 12 #[.int .i64 n, .string s] w fun e w' => e = .returned (.int .i64 (ckS s n s.size : Nat)) ∧ w = w' := by
  go_enter Tryd.func12, Tryd.ntmps12
  go_wp2
  go_loop [0, 5] (fun v k => ∃ i : Nat, i ≤ s.size ∧ k = .int .i64 i ∧ v = .int .i64 (ckS s n i : Nat)) (fun _ k => s.size - (intOf k).toNat)
  case atStart => exact ⟨0, by omega, rfl, rfl⟩
  case round =>
    obtain ⟨i, hi, rfl, rfl⟩ := hrel
    have hc := ckS_lt (s := s) hn i
    by_cases hlt : i < s.size
    · have hsu := ckS_succ (n := n) hlt
      have hb : s[i].toNat < 256 := s[i].toNat_lt
      obtain ⟨m, hm⟩ : ∃ m, ckS s n i = m := ⟨_, rfl⟩
      obtain ⟨m', hm'⟩ : ∃ m', ckS s n (i + 1) = m' := ⟨_, rfl⟩
      rw [hm, hm'] at hsu
      rw [hm] at hc ⊢
      have HM' := Lib.hid hm'
      have HSU := Lib.hid hsu
      clear hm hm' hsu
      go_wp2
      go_round
      case rel => exact ⟨i + 1, by omega, by go_num, by rw [HM'.out, HSU.out]; go_num⟩
      case measure => first | (simp [intOf]; done) | (simp [intOf]; omega)
    · obtain rfl : i = s.size := by omega
      go_wp2
      go_ret
      exact ⟨rfl, rfl⟩
theorem within_c' (n : Int) (h0 : 0 ≤ n) (h1 : n ≤ 65002) (w : World) : Calls Tryd.prog 18 #[.int .i64 n, .int .i64 0, .int .i64 65002] w fun e w' => e = .returned (.bool true) ∧ w = w' := by
  go_enter Tryd.func18, Tryd.ntmps18
  go_wp2
  go_ret
  exact ⟨rfl, rfl⟩
set_option maxRecDepth 100000 in
set_option maxHeartbeats 1000000 in
theorem checkOf_c (s : ByteArray) (n : Nat) (hs : s.size ≤ 1048576) (hn : n < 65003) (w : World) : Calls Tryd.prog 15 #[.int .i64 n, .string s] w fun e w' => e = .returned (.tuple #[.int .i64 (ckS s n s.size : Nat), .bool true]) ∧ w = w' := by
  have HW := Lib.hid (within_c' (n : Int) (by omega) (by omega))
  go_enter Tryd.func15, Tryd.ntmps15
  go_wp2_with (go_at_call 18; refine (HW.out _).mono ?_; rintro e w' ⟨rfl, rfl⟩)
  go_loop [0, 12] (fun v k => ∃ i : Nat, i ≤ s.size ∧ k = .int .i64 i ∧ v = .int .i64 (ckS s n i : Nat)) (fun _ k => s.size - (intOf k).toNat)
  case atStart => exact ⟨0, by omega, rfl, rfl⟩
  case round =>
    obtain ⟨i, hi, rfl, rfl⟩ := hrel
    have hc := ckS_lt (s := s) hn i
    by_cases hlt : i < s.size
    · have hsu := ckS_succ (n := n) hlt
      have hb : s[i].toNat < 256 := s[i].toNat_lt
      obtain ⟨m, hm⟩ : ∃ m, ckS s n i = m := ⟨_, rfl⟩
      obtain ⟨m', hm'⟩ : ∃ m', ckS s n (i + 1) = m' := ⟨_, rfl⟩
      rw [hm, hm'] at hsu
      rw [hm] at hc ⊢
      have HM' := Lib.hid hm'
      have HSU := Lib.hid hsu
      clear hm hm' hsu
      go_wp2
      go_round
      case rel => exact ⟨i + 1, by omega, by go_num, by rw [HM'.out, HSU.out]; go_num⟩
      case measure => first | (simp [intOf]; done) | (simp [intOf]; omega)
    · obtain rfl : i = s.size := by omega
      go_wp2
      go_ret2
      exact ⟨rfl, rfl⟩
end Go.Proofs.YtnkimeeofmbhkaaDoor
