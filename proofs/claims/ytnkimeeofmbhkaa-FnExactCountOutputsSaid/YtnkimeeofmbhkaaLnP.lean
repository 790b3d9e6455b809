/- One line more of a text. No condition. -/
import Derived.Test.YtnkimeeofmbhkaaLnI
namespace Go.Proofs.Ytnkimeeofmbhkaa
set_option linter.unusedSimpArgs false
theorem ib_spec : ∀ l : List UInt8, (10 : UInt8) ∈ l → ∃ k : Nat, Lib.indexByte l 10 = (k : Int) ∧ l[k]? = some 10 ∧ ∀ j, j < k → ∀ x, l[j]? = some x → x ≠ 10
  | [], h => absurd h (by simp)
  | b :: l, h => by
    by_cases hb : b = 10
    · subst hb
      exact ⟨0, by simp [Lib.indexByte], rfl, fun j hj => absurd hj (by omega)⟩
    · obtain ⟨k, h1, h2, h3⟩ := ib_spec l (by rcases List.mem_cons.1 h with e | e; exact absurd e.symm hb; exact e)
      refine ⟨k + 1, ?_, by simpa using h2, fun j hj x hx => ?_⟩
      · have e1 : (b == (10 : UInt8)) = false := by simpa using hb
        have e2 : ((k : Int) == -1) = false := by rw [beq_eq_false_iff_ne]; omega
        simp only [Lib.indexByte, h1, e1, e2]
        simp
      · cases j with
        | zero => simp at hx; rw [← hx]; exact hb
        | succ j => exact h3 j (by omega) x (by simpa using hx)
theorem snoc_beq (p q : List UInt8) : (p ++ [10] == q ++ [10]) = (p == q) := by
  rw [Bool.eq_iff_iff]
  simp
/-- A line that is yielded, with its newline. -/
def isn (p : ByteArray) : Bool := p.toList == [110, 111, 10] || p.toList == [119, 104, 97, 116, 10]
theorem line_step {s r : ByteArray} {a : Nat} (hr : r.data.toList = s.data.toList.drop a) (ha : a < s.size) (hf : fr s a = a) (hE : fr s s.size = s.size) :
    ∃ k : Nat, Lib.indexByte r.data.toList 10 = (k : Int) ∧ k + 1 ≤ r.size ∧ a + k < s.size ∧ fr s (a + k + 1) = a + k + 1 ∧ lns s (a + k + 1) = lns s a ++ [s.extract a (a + k)] ∧ isl (s.extract a (a + k)) = isn (r.extract 0 (k + 1)) ∧ (r.extract (k + 1) r.size).data.toList = s.data.toList.drop (a + k + 1) := by
  have hsl : s.data.toList.length = s.size := by simp
  have hrl : r.data.toList.length = r.size := by simp
  have hrs : r.size = s.size - a := by rw [← hrl, hr, List.length_drop, hsl]
  have hat : ∀ j (h : a + j < s.size), r.data.toList[j]? = some (s[a + j]) := fun j h => by rw [hr, List.getElem?_drop]; exact at_list s (a + j) h
  have hlast := (fr_last (s := s) (by omega)).1 hE
  have hmem : (10 : UInt8) ∈ r.data.toList := by
    have h1 := hat (s.size - 1 - a) (by omega)
    have h2 : s[a + (s.size - 1 - a)]'(by omega) = s[s.size - 1] := by congr 1; omega
    rw [h2] at h1
    have h3 : s[s.size - 1] = 10 := UInt8.toNat_inj.1 (by rw [show (10 : UInt8).toNat = 10 by decide]; omega)
    rw [h3] at h1
    exact List.mem_of_getElem? h1
  obtain ⟨k, h1, h2, h3⟩ := ib_spec _ hmem
  have hk : k < r.size := by rw [← hrl]; exact (List.getElem?_eq_some_iff.1 h2).1
  have hpl := run_plain hf k (fun j hj => by
    rw [nlAt_lt (by omega)]
    have := h3 j hj _ (hat j (by omega))
    rw [decide_eq_false_iff_not]
    intro e
    exact this (UInt8.toNat_inj.1 (by rw [show (10 : UInt8).toNat = 10 by decide]; omega)))
  have hnl : nlAt s (a + k) = true := by
    rw [nlAt_lt (by omega)]
    have e := hat k (by omega)
    rw [h2] at e
    have e := Option.some.inj e
    rw [← e]
    decide
  refine ⟨k, h1, by omega, by omega, fr_t hnl, by rw [lns_t hnl, hpl.1, hpl.2], ?_, ?_⟩
  · have e1 : (s.extract a (a + k)).toList = r.data.toList.take k := by rw [ex_list, ← hr, show a + k - a = k by omega]
    have e2 : (r.extract 0 (k + 1)).toList = r.data.toList.take k ++ [10] := by
      rw [ex_list, List.drop_zero, Nat.sub_zero, List.take_add_one, h2]
      rfl
    unfold isl isn
    rw [e1, e2, show ([110, 111, 10] : List UInt8) = [110, 111] ++ [10] from rfl, show ([119, 104, 97, 116, 10] : List UInt8) = [119, 104, 97, 116] ++ [10] from rfl, snoc_beq, snoc_beq]
  · have := ex_list r (k + 1) r.size
    rw [Lib.toList_data] at this
    rw [this, hr, List.drop_drop, List.take_of_length_le (by rw [List.length_drop, hsl]; omega)]
    congr 1
end Go.Proofs.Ytnkimeeofmbhkaa
