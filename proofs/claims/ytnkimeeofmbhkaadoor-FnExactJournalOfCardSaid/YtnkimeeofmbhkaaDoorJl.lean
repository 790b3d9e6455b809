/- Lines of a journal, in both spellings. No condition. -/
import Derived.Test.YtnkimeeofmbhkaaDoorJp
import Derived.Test.YtnkimeeofmbhkaaDoorJfi
import Derived.Shelf.Lays
namespace Go.Proofs.YtnkimeeofmbhkaaDoor
open Go.RowKit
set_option linter.unusedSimpArgs false
set_option maxRecDepth 100000 in
set_option maxHeartbeats 1000000 in
theorem jIndexByte_c (s : ByteArray) (w : World) : Calls Tryd.prog 20 #[.string s, .int .u8 10] w fun e w' => e = .returned (.int .i64 (Lib.indexByte s.data.toList 10)) ∧ w = w' := by
  go_enter Tryd.func20, Tryd.ntmps20
  go_wp2
  rw [run_callFunc_extern Tryd.func25 (by kernel_rfl) (by kernel_rfl) (by kernel_rfl) (e := Extern.BytealgIndexByte.indexByte) (by kernel_rfl), Lib.run_indexByteString]
  simp only [Result.andThen]
  rw [Oper.upon_value]
  go_wp2
  go_ret
  exact ⟨rfl, rfl⟩
set_option maxRecDepth 100000 in
set_option maxHeartbeats 2000000 in
theorem jIndex_c (s : ByteArray) (w : World) : Calls Tryd.prog 17 #[.string s, .string ⟨#[10]⟩] w fun e w' => e = .returned (.int .i64 (Lib.indexByte s.data.toList 10)) ∧ w = w' := by
  have H := Lib.hid (jIndexByte_c s)
  cases h : (([10] : List UInt8) == s.toList)
  · go_enter Tryd.func17, Tryd.ntmps17
    go_wp2_with (go_at_call 20; refine (H.out _).mono ?_; rintro e w' ⟨rfl, rfl⟩)
    go_ret
    exact ⟨rfl, rfl⟩
  · have e : Lib.indexByte s.data.toList 10 = 0 := by
      have h2 : ([10] : List UInt8) = s.toList := by simpa using h
      rw [Lib.toList_data] at h2
      rw [← h2]
      decide
    rw [e]
    go_enter Tryd.func17, Tryd.ntmps17
    go_wp2
    go_ret
    exact ⟨rfl, rfl⟩
theorem jIndex2_c (s : ByteArray) (w : World) : Calls Tryd.prog 14 #[.string s, .string ⟨#[10]⟩] w fun e w' => e = .returned (.int .i64 (Lib.indexByte s.data.toList 10)) ∧ w = w' := by
  have H := Lib.hid (jIndex_c s)
  go_enter Tryd.func14, Tryd.ntmps14
  go_wp2_with (go_at_call 17; refine (H.out _).mono ?_; rintro e w' ⟨rfl, rfl⟩)
  go_ret
  exact ⟨rfl, rfl⟩
theorem contains_c (s : ByteArray) (w : World) : Calls Tryd.prog 10 #[.string s, .string ⟨#[10]⟩] w fun e w' => e = .returned (.bool (nlB s)) ∧ w = w' := by
  have H := Lib.hid (jIndex2_c s)
  rw [← nlB_ix]
  generalize Lib.indexByte s.data.toList 10 = k at H
  go_enter Tryd.func10, Tryd.ntmps10
  go_wp2_with (go_at_call 14; refine (H.out _).mono ?_; rintro e w' ⟨rfl, rfl⟩)
  go_ret
  exact ⟨rfl, rfl⟩
set_option maxRecDepth 100000 in
set_option maxHeartbeats 1000000 in
theorem journalLine_c (n : Nat) (s : ByteArray) (hn : n < 65003) (hs : s.size ≤ 16000) (w : World) (ht : TB w) :
    Calls Tryd.prog 11 #[.int .i64 n, .string s] w fun e w' => e = .returned (.tuple #[.string (jt (ckS s n s.size) s), .int .i64 (ckS s n s.size : Nat)]) ∧ Below w.heap.size w w' := by
  have HC := Lib.hid (checkOf_c s n (by omega) hn)
  have hlt := ckS_lt (s := s) hn s.size
  obtain ⟨m, hm⟩ : ∃ m, ckS s n s.size = m := ⟨_, rfl⟩
  rw [hm] at HC hlt ⊢
  have HD := Lib.hid (decimal_c m (by omega) w ht)
  have hdl := dg_len (n := m) (by omega)
  have hds := dgS_size m
  have z1 : ¬ (9223372036854775807 < (dgS m).size + 1) := by omega
  have z2 : (dgS m ++ ⟨#[32]⟩ : ByteArray).size = (dgS m).size + 1 := by rw [ByteArray.size_append]; rfl
  have z3 : ¬ (9223372036854775807 < (dgS m ++ ⟨#[32]⟩ : ByteArray).size + s.size) := by omega
  have z4 : ((dgS m ++ ⟨#[32]⟩) ++ s : ByteArray).size = (dgS m).size + 1 + s.size := by rw [ByteArray.size_append, z2]
  have z5 : ¬ (9223372036854775807 < ((dgS m ++ ⟨#[32]⟩) ++ s : ByteArray).size + 1) := by omega
  unfold jt
  unfold dgS at z1 z2 z3 z4 z5 hds ⊢
  generalize (⟨(dg m).toArray⟩ : ByteArray) = D at z1 z2 z3 z4 z5 hds HD
  have Z2 := Lib.hid z2
  have Z4 := Lib.hid z4
  clear hm z2 z4
  go_enter Tryd.func11, Tryd.ntmps11
  go_wp2_with (first | (go_at_call 15; refine (HC.out _).mono ?_; rintro e w' ⟨rfl, rfl⟩) | (go_at_call 16; ((with_reducible refine (HD.out).mono ?_); rintro e w1 ⟨rfl, hb1⟩)))
  go_ret2
  exact ⟨rfl, hb1⟩
end Go.Proofs.YtnkimeeofmbhkaaDoor
