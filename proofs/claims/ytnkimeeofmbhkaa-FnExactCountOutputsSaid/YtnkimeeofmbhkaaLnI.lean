/- What the program's CountOutputs calls. No condition. -/
import Derived.Test.YtnkimeeofmbhkaaLnC
import Derived.Lib.Bytealg
import Derived.Shelf.Lays
namespace Go.Proofs.Ytnkimeeofmbhkaa
open Go.RowKit
set_option linter.unusedSimpArgs false
set_option maxRecDepth 100000 in
set_option maxHeartbeats 1000000 in
theorem sliteIndexByte_c (s : ByteArray) (w : World) : Calls Try.prog 101 #[.string s, .int .u8 10] w fun e w' => e = .returned (.int .i64 (Lib.indexByte s.data.toList 10)) ∧ w = w' := by
  go_enter Try.func101, Try.ntmps101
  go_wp2
  rw [run_callFunc_extern Try.func111 (by kernel_rfl) (by kernel_rfl) (by kernel_rfl) (e := Extern.BytealgIndexByte.indexByte) (by kernel_rfl), Lib.run_indexByteString]
  simp only [Result.andThen]
  rw [Oper.upon_value]
  go_wp2
  go_ret
  exact ⟨rfl, rfl⟩
theorem indexByte_c (s : ByteArray) (w : World) : Calls Try.prog 84 #[.string s, .int .u8 10] w fun e w' => e = .returned (.int .i64 (Lib.indexByte s.data.toList 10)) ∧ w = w' := by
  have H := Lib.hid (sliteIndexByte_c s)
  go_enter Try.func84, Try.ntmps84
  go_wp2_with (go_at_call 101; refine (H.out _).mono ?_; rintro e w' ⟨rfl, rfl⟩)
  go_ret
  exact ⟨rfl, rfl⟩
/-- A piece of a text, as a list. -/
theorem ex_list (s : ByteArray) (i j : Nat) : (s.extract i j).toList = (s.data.toList.drop i).take (j - i) := by
  rw [Lib.toList_data, ByteArray.data_extract, Array.toList_extract]
  try rfl
theorem at_list (s : ByteArray) (i : Nat) (h : i < s.size) : s.data.toList[i]? = some s[i] := by
  rw [List.getElem?_eq_getElem (by simpa using h)]
  simp
  try rfl
theorem last_ten {s : ByteArray} (h : 0 < s.size) : ((s.extract (s.size - 1) s.size).toList == ([10] : List UInt8)) = decide ((s[s.size - 1].toNat : Int) = 10) := by
  have hl : s.size - 1 < s.data.toList.length := by have : s.data.toList.length = s.size := by simp
                                                    omega
  rw [ex_list, List.drop_eq_getElem_cons hl, show s.size - (s.size - 1) = 1 by omega]
  have e : s.data.toList[s.size - 1] = s[s.size - 1] := by
    have := at_list s (s.size - 1) (by omega)
    rw [List.getElem?_eq_getElem hl] at this
    exact Option.some.inj this
  rw [e, Bool.eq_iff_iff]
  simp only [List.take_succ_cons, List.take_zero, beq_iff_eq, decide_eq_true_eq, List.cons.injEq, and_true]
  constructor
  · intro h
    rw [h]; rfl
  · intro h
    exact UInt8.toNat_inj.1 (by rw [show (10 : UInt8).toNat = 10 by decide]; omega)
/-- A text ends with a newline, or is empty. -/
theorem fr_last {s : ByteArray} (h : 0 < s.size) : (fr s s.size = s.size) ↔ (s[s.size - 1].toNat : Int) = 10 := by
  obtain ⟨n, hn⟩ : ∃ n, s.size = n + 1 := ⟨s.size - 1, by omega⟩
  have h1 := fr_full (s := s) (n := n)
  rw [← hn] at h1
  rw [h1, nlAt_lt (by omega)]
  simp [hn]
set_option maxRecDepth 100000 in
set_option maxHeartbeats 1000000 in
theorem sliteHasSuffix_c (s : ByteArray) (hs : s.size ≤ 1048576) (w : World) : Calls Try.prog 100 #[.string s, .string ⟨#[10]⟩] w fun e w' => e = .returned (.bool (decide (0 < s.size) && decide (fr s s.size = s.size))) ∧ w = w' := by
  by_cases h0 : 0 < s.size
  · have hi : (1 : Int) ≤ (s.size : Int) := by omega
    have h2 : (0 : Int) ≤ (s.size : Int) - 1 := by omega
    have h3 : (s.size : Int) - 1 ≤ (s.size : Int) := by omega
    have h4 : (((s.size : Int) - 1).toNat) = s.size - 1 := by omega
    have he := last_ten h0
    have hf := fr_last h0
    rw [decide_eq_true h0]
    cases hc : decide ((s[s.size - 1].toNat : Int) = 10)
    · rw [hc] at he
      rw [decide_eq_false (fun h => by rw [decide_eq_true (hf.1 h)] at hc; cases hc)]
      clear hf hc
      go_enter Try.func100, Try.ntmps100
      go_wp2
      go_ret
      exact ⟨rfl, rfl⟩
    · rw [hc] at he
      rw [decide_eq_true (hf.2 (of_decide_eq_true hc))]
      clear hf hc
      go_enter Try.func100, Try.ntmps100
      go_wp2
      go_ret
      exact ⟨rfl, rfl⟩
  · have hi : ¬ ((1 : Int) ≤ (s.size : Int)) := by omega
    rw [decide_eq_false h0]
    go_enter Try.func100, Try.ntmps100
    go_wp2
    go_ret
    exact ⟨rfl, rfl⟩
theorem hasSuffix_c (s : ByteArray) (hs : s.size ≤ 1048576) (w : World) : Calls Try.prog 82 #[.string s, .string ⟨#[10]⟩] w fun e w' => e = .returned (.bool (decide (0 < s.size) && decide (fr s s.size = s.size))) ∧ w = w' := by
  have H := Lib.hid (sliteHasSuffix_c s hs)
  go_enter Try.func82, Try.ntmps82
  go_wp2_with (go_at_call 100; refine (H.out _).mono ?_; rintro e w' ⟨rfl, rfl⟩)
  go_ret
  exact ⟨rfl, rfl⟩
set_option maxRecDepth 100000 in
set_option maxHeartbeats 1000000 in
theorem isScript_c (s : ByteArray) (hs : s.size ≤ 1048576) (w : World) : Calls Try.prog 55 #[.string s] w fun e w' => e = .returned (.bool (cntOk s)) ∧ w = w' := by
  have H := Lib.hid (hasSuffix_c s hs)
  unfold cntOk
  by_cases h1 : s.size ≤ 16000
  · have h1' : (s.size : Int) ≤ 16000 := by omega
    by_cases h0 : 0 < s.size
    · have he := not_empty_of (s := s) (by omega)
      rw [decide_eq_true h0] at H
      rw [decide_eq_true h1]
      generalize decide (fr s s.size = s.size) = k at H
      go_enter Try.func55, Try.ntmps55
      go_wp2_with (go_at_call 82; refine (H.out _).mono ?_; rintro e w' ⟨rfl, rfl⟩)
      go_ret
      exact ⟨rfl, rfl⟩
    · have he := empty_of (s := s) (by omega)
      have hf : fr s s.size = s.size := by
        have := fr_le (s := s) s.size
        omega
      rw [decide_eq_true h1, decide_eq_true hf]
      clear hf
      go_enter Try.func55, Try.ntmps55
      go_wp2
      go_ret
      exact ⟨rfl, rfl⟩
  · have h1' : ¬ ((s.size : Int) ≤ 16000) := by omega
    rw [decide_eq_false h1]
    go_enter Try.func55, Try.ntmps55
    go_wp2
    go_ret
    exact ⟨rfl, rfl⟩
end Go.Proofs.Ytnkimeeofmbhkaa
