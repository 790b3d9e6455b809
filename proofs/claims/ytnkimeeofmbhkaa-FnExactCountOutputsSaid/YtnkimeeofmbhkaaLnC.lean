/- The reference's CountOutputs. No condition. -/
import Derived.Test.YtnkimeeofmbhkaaLnS
import Derived.Lib.Strings
namespace Go.Proofs.Ytnkimeeofmbhkaa
open Go.RowKit
set_option linter.unusedSimpArgs false
theorem empty_of {s : ByteArray} (h : s.size = 0) : s.toList.isEmpty = true := by
  rw [Lib.toList_data, List.isEmpty_iff]
  exact List.eq_nil_of_length_eq_zero (by simpa using h)
theorem not_empty_of {s : ByteArray} (h : ¬ s.size = 0) : s.toList.isEmpty = false := by
  rw [Lib.toList_data]
  cases hl : s.data.toList with
  | nil => exact absurd (by have := congrArg List.length hl; simpa using this) h
  | cons a l => rfl
def cntOk (s : ByteArray) : Bool := decide (s.size ≤ 16000) && decide (fr s s.size = s.size)
def CntR (s : ByteArray) (w : World) (e : Ending) (w' : World) : Prop := e = .returned (.tuple #[.int .i64 (if cntOk s then (nbad (lns0 s) : Int) else 0), .int .i64 (if cntOk s then ((lns0 s).length : Int) - (nbad (lns0 s) : Int) else 0), .bool (cntOk s)]) ∧ Below w.heap.size w w'
set_option maxRecDepth 100000 in
set_option maxHeartbeats 2000000 in
theorem sCount_c (s : ByteArray) (hs : s.size ≤ 1048576) (w : World) : Calls Try.prog 26 #[.string s] w (CntR s w) := by
  have HC := Lib.hid (l08Lines_c s hs)
  have hfl := fr_le (s := s) s.size
  unfold CntR
  by_cases h1 : s.size ≤ 16000
  · obtain ⟨q, hq⟩ : ∃ q, s.extract (fr s s.size) s.size = q := ⟨_, rfl⟩
    have hqs : q.size = s.size - fr s s.size := by rw [← hq, ByteArray.size_extract]; omega
    have hl1 : ¬ ((16000 : Int) < s.size) := by omega
    have hll := lns_len (s := s) s.size
    by_cases h2 : fr s s.size = s.size
    · have hok : cntOk s = true := by unfold cntOk; simp [h1, h2]
      rw [hok]
      simp only [if_true]
      have hqe := empty_of (s := q) (by omega)
      unfold LR at HC
      rw [hq] at HC
      obtain ⟨L, hL⟩ : ∃ L, lns0 s = L := ⟨_, rfl⟩
      have hLn : L.length ≤ 16000 := by rw [← hL]; exact Nat.le_trans hll h1
      rw [hL] at HC ⊢
      clear hq hqs h2 hok hL hll hfl h1
      have HL := Lib.hid hLn
      clear hLn
      go_enter Try.func26, Try.ntmps26
      go_wp2_with (go_at_call 54; ((with_reducible refine (HC.out _).mono ?_); rintro e w1 ⟨g, c, rfl, hg, hc, hb⟩))
      go_loopw [7, 8] (fun kb k wr => ∃ i : Nat, i ≤ L.length ∧ k = .int .i64 i ∧ kb = .int .i64 (nbad (L.take i) : Int) ∧ wr = w1) (fun _ k _ => L.length - (intOf k).toNat)
      case atStart => exact ⟨0, by omega, rfl, rfl, rfl⟩
      case round =>
        obtain ⟨i, hi, rfl, rfl, rfl⟩ := hrel
        have hnl := nbad_le (L.take i)
        have htl : (L.take i).length = i := List.length_take_of_le hi
        rw [htl] at hnl
        have hLL := HL.out
        by_cases hlt : i < L.length
        · obtain ⟨p, hp⟩ : ∃ p, L[i]? = some p := ⟨L[i], List.getElem?_eq_getElem hlt⟩
          have hci := hc i p hp
          have HP := Lib.hid hp
          clear hc
          have hts : L.take (i + 1) = L.take i ++ [p] := by rw [List.take_add_one, hp]; rfl
          have hsn := nbad_snoc (l := L.take i) (p := p)
          rw [← hts] at hsn
          cases ht1 : (p.toList == ([110, 111] : List UInt8))
          · cases ht2 : (p.toList == ([119, 104, 97, 116] : List UInt8))
            · have hisl : isl p = false := by unfold isl; rw [ht1, ht2]; rfl
              rw [hisl, if_neg (by decide)] at hsn
              have HSN := Lib.hid hsn
              clear hsn hts htl hisl hp
              go_wp2
              go_roundw
              case rel => exact ⟨i + 1, by omega, by go_num, by rw [HSN.out]; go_num, trivial⟩
              case measure => first | (simp [intOf]; done) | (simp [intOf]; omega)
            · have hisl : isl p = true := by unfold isl; rw [ht1, ht2]; rfl
              rw [hisl, if_pos rfl] at hsn
              have HSN := Lib.hid hsn
              clear hsn hts htl hisl hp
              go_wp2
              go_roundw
              case rel => exact ⟨i + 1, by omega, by go_num, by rw [HSN.out]; go_num, trivial⟩
              case measure => first | (simp [intOf]; done) | (simp [intOf]; omega)
          · have hisl : isl p = true := by unfold isl; rw [ht1]; rfl
            rw [hisl, if_pos rfl] at hsn
            have HSN := Lib.hid hsn
            clear hsn hts htl hisl hp
            go_wp2
            go_roundw
            case rel => exact ⟨i + 1, by omega, by go_num, by rw [HSN.out]; go_num, trivial⟩
            case measure => first | (simp [intOf]; done) | (simp [intOf]; omega)
        · obtain rfl : i = L.length := by omega
          rw [List.take_length] at hnl ⊢
          go_wp2
          go_ret3
          exact ⟨rfl, hb⟩
    · have hok : cntOk s = false := by unfold cntOk; simp [h2]
      rw [hok]
      have hqe := not_empty_of (s := q) (by omega)
      unfold LR at HC
      rw [hq] at HC
      clear hq hqs h2 hok hll hfl h1
      go_enter Try.func26, Try.ntmps26
      go_wp2_with (go_at_call 54; ((with_reducible refine (HC.out _).mono ?_); rintro e w1 ⟨g, c, rfl, hg, hc, hb⟩))
      go_ret3
      exact ⟨rfl, hb⟩
  · have hok : cntOk s = false := by unfold cntOk; simp [h1]
    have hl1 : ((16000 : Int) < s.size) := by omega
    rw [hok]
    go_enter Try.func26, Try.ntmps26
    go_wp2
    go_ret3
    exact ⟨rfl, Below.refl _ _⟩
end Go.Proofs.Ytnkimeeofmbhkaa
