/- Lines of a text, in plain words. No condition. -/
import Derived.Test.YtnkimeeofmbhkaaRel
namespace Go.Proofs.Ytnkimeeofmbhkaa
set_option linter.unusedSimpArgs false
/-- Whether a line ends at place i: a newline, or the text's end. -/
def nlAt (s : ByteArray) (i : Nat) : Bool := if h : i < s.size then decide ((s[i].toNat : Int) = 10) else true
/-- Where the line begins in which place i lies. -/
def fr (s : ByteArray) : Nat → Nat
  | 0 => 0
  | i + 1 => if nlAt s i = true then i + 1 else fr s i
/-- The lines that end ahead of place i, without their newlines. -/
def lns (s : ByteArray) : Nat → List ByteArray
  | 0 => []
  | i + 1 => if nlAt s i = true then lns s i ++ [s.extract (fr s i) i] else lns s i
variable {s : ByteArray}
theorem fr_t {i : Nat} (h : nlAt s i = true) : fr s (i + 1) = i + 1 := if_pos h
theorem fr_f {i : Nat} (h : nlAt s i = false) : fr s (i + 1) = fr s i := if_neg (by rw [h]; decide)
theorem lns_t {i : Nat} (h : nlAt s i = true) : lns s (i + 1) = lns s i ++ [s.extract (fr s i) i] := if_pos h
theorem lns_f {i : Nat} (h : nlAt s i = false) : lns s (i + 1) = lns s i := if_neg (by rw [h]; decide)
theorem fr_le : ∀ i, fr s i ≤ i
  | 0 => Nat.le_refl _
  | i + 1 => by
    have := fr_le i
    cases h : nlAt s i
    · rw [fr_f h]; omega
    · rw [fr_t h]; omega
theorem lns_len : ∀ i, (lns s i).length ≤ i
  | 0 => Nat.le_refl _
  | i + 1 => by
    have := lns_len i
    cases h : nlAt s i
    · rw [lns_f h]; omega
    · rw [lns_t h, List.length_append]; simp; omega
theorem nlAt_lt {i : Nat} (h : i < s.size) : nlAt s i = decide ((s[i].toNat : Int) = 10) := dif_pos h
theorem nlAt_end {i : Nat} (h : ¬ i < s.size) : nlAt s i = true := dif_neg h
/-- No newline from a to i. -/
theorem run_plain {a : Nat} (hf : fr s a = a) : ∀ d, (∀ k, k < d → nlAt s (a + k) = false) → fr s (a + d) = a ∧ lns s (a + d) = lns s a
  | 0, _ => ⟨hf, rfl⟩
  | d + 1, h => by
    obtain ⟨h1, h2⟩ := run_plain hf d (fun k hk => h k (by omega))
    have e := h d (by omega)
    exact ⟨(fr_f e).trans h1, (lns_f e).trans h2⟩
/-- A line of one of the two words. -/
def isl (p : ByteArray) : Bool := p.toList == [110, 111] || p.toList == [119, 104, 97, 116]
def nbad (l : List ByteArray) : Nat := (l.filter isl).length
theorem nbad_nil : nbad [] = 0 := rfl
theorem nbad_snoc {l : List ByteArray} {p : ByteArray} : nbad (l ++ [p]) = nbad l + if isl p then 1 else 0 := by
  unfold nbad
  rw [List.filter_append, List.length_append]
  congr 1
  cases h : isl p <;> simp [List.filter, h]
theorem nbad_le (l : List ByteArray) : nbad l ≤ l.length := List.length_filter_le ..
/-- Whether a text ends with its last line. -/
theorem fr_full {n : Nat} : fr s (n + 1) = n + 1 ↔ nlAt s n = true := by
  constructor
  · intro h
    cases e : nlAt s n
    · rw [fr_f e] at h
      have := fr_le (s := s) n
      omega
    · rfl
  · exact fr_t
end Go.Proofs.Ytnkimeeofmbhkaa
