/- The journal of lines, in plain words. No condition. -/
import Derived.Test.YtnkimeeofmbhkaaDoorJck
import Derived.Test.YtnkimeeofmbhkaaDoorJdig
import Derived.Lib.Bytealg
namespace Go.Proofs.YtnkimeeofmbhkaaDoor
set_option linter.unusedSimpArgs false
theorem ib_spec : ∀ l : List UInt8, (10 : UInt8) ∈ l → ∃ k : Nat, Lib.indexByte l 10 = (k : Int) ∧ l[k]? = some 10
  | [], h => absurd h (by simp)
  | b :: l, h => by
    by_cases hb : b = 10
    · subst hb
      exact ⟨0, by simp [Lib.indexByte], rfl⟩
    · obtain ⟨k, h1, h2⟩ := ib_spec l (by rcases List.mem_cons.1 h with e | e; exact absurd e.symm hb; exact e)
      refine ⟨k + 1, ?_, by simpa using h2⟩
      have e1 : (b == (10 : UInt8)) = false := by simpa using hb
      have e2 : ((k : Int) == -1) = false := by rw [beq_eq_false_iff_ne]; omega
      simp only [Lib.indexByte, h1, e1, e2]
      simp
theorem ib_none : ∀ l : List UInt8, (10 : UInt8) ∉ l → Lib.indexByte l 10 = -1
  | [], _ => rfl
  | b :: l, h => by
    have hb : b ≠ 10 := fun e => h (by rw [e]; exact List.mem_cons_self ..)
    have h2 := ib_none l (fun e => h (List.mem_cons_of_mem _ e))
    have e1 : (b == (10 : UInt8)) = false := by simpa using hb
    simp [Lib.indexByte, h2, e1]
/-- Whether a line bears a newline. -/
def nlB (s : ByteArray) : Bool := decide ((10 : UInt8) ∈ s.data.toList)
theorem nlB_ix (s : ByteArray) : decide ((0 : Int) ≤ Lib.indexByte s.data.toList 10) = nlB s := by
  unfold nlB
  by_cases h : (10 : UInt8) ∈ s.data.toList
  · obtain ⟨k, h1, -⟩ := ib_spec _ h
    rw [h1, decide_eq_true h]
    simp
  · rw [ib_none _ h, decide_eq_false h]
    decide
theorem nlB_at {s : ByteArray} {k : Nat} (hk : k < s.size) (h : (s[k].toNat : Int) = 10) : nlB s = true := by
  unfold nlB
  have e : s[k] = 10 := UInt8.toNat_inj.1 (by rw [show (10 : UInt8).toNat = 10 by decide]; omega)
  refine decide_eq_true ?_
  rw [← e]
  have : s.data.toList[k]? = some s[k] := by
    rw [List.getElem?_eq_getElem (by simpa using hk)]
    simp
    try rfl
  exact List.mem_of_getElem? this
theorem nlB_no {s : ByteArray} (h : ∀ k (hk : k < s.size), (s[k].toNat : Int) ≠ 10) : nlB s = false := by
  unfold nlB
  refine decide_eq_false fun hm => ?_
  obtain ⟨k, hk, e⟩ := List.mem_iff_getElem.1 hm
  have hk2 : k < s.size := by simpa using hk
  have e2 : s.data.toList[k] = s[k] := by simp; try rfl
  refine h k hk2 ?_
  rw [← e2, e]
  decide
/-- The check number ahead of line i. -/
def jn (S : Nat → ByteArray) : Nat → Nat
  | 0 => 0
  | i + 1 => ckS (S i) (jn S i) (S i).size
theorem jn_lt (S : Nat → ByteArray) : ∀ i, jn S i < 65003
  | 0 => (show (0 : Nat) < 65003 by decide)
  | i + 1 => ckS_lt (jn_lt S i) _
def dgS (n : Nat) : ByteArray := ⟨(dg n).toArray⟩
theorem dgS_size (n : Nat) : (dgS n).size = (dg n).length := by unfold dgS; rfl
/-- A line of the journal. -/
def jt (n : Nat) (s : ByteArray) : ByteArray := ((dgS n ++ ⟨#[32]⟩) ++ s) ++ ⟨#[10]⟩
theorem jt_size (n : Nat) (s : ByteArray) : (jt n s).size = (dg n).length + s.size + 2 := by
  unfold jt
  rw [ByteArray.size_append, ByteArray.size_append, ByteArray.size_append, dgS_size]
  show (dg n).length + 1 + s.size + 1 = _
  omega
/-- The journal of the first i lines. -/
def jo (S : Nat → ByteArray) : Nat → ByteArray
  | 0 => ⟨#[]⟩
  | i + 1 => jo S i ++ jt (jn S (i + 1)) (S i)
theorem jo_size (S : Nat → ByteArray) (i : Nat) : (jo S (i + 1)).size = (jo S i).size + (dg (jn S (i + 1))).length + (S i).size + 2 := by
  show (jo S i ++ jt (jn S (i + 1)) (S i)).size = _
  rw [ByteArray.size_append, jt_size]; omega
def tot (S : Nat → ByteArray) : Nat → Nat
  | 0 => 0
  | i + 1 => tot S i + ((S i).size + 3)
theorem jo_tot (S : Nat → ByteArray) : ∀ i, tot S i ≤ (jo S i).size ∧ (jo S i).size ≤ tot S i + 4 * i ∧ 3 * i ≤ tot S i
  | 0 => ⟨Nat.zero_le _, Nat.le_refl _, Nat.le_refl _⟩
  | i + 1 => by
    obtain ⟨h1, h2, h3⟩ := jo_tot S i
    have := dg_len (n := jn S (i + 1)) (by have := jn_lt S (i + 1); omega)
    rw [jo_size]
    show tot S i + ((S i).size + 3) ≤ _ ∧ _ ≤ tot S i + ((S i).size + 3) + _ ∧ _ ≤ tot S i + ((S i).size + 3)
    omega
theorem jo_mono (S : Nat → ByteArray) {i : Nat} : ∀ {m : Nat}, i ≤ m → (jo S i).size ≤ (jo S m).size
  | 0, h => by obtain rfl : i = 0 := by omega
               exact Nat.le_refl _
  | m + 1, h => by
    by_cases e : i = m + 1
    · subst e; exact Nat.le_refl _
    · have := jo_mono S (show i ≤ m by omega)
      rw [jo_size]; omega
/-- Whether the lines have a journal. -/
def jok (S : Nat → ByteArray) (m : Nat) : Bool := (List.range m).all (fun j => !nlB (S j)) && decide ((jo S m).size ≤ 16000)
theorem jok_nl {S : Nat → ByteArray} {m j : Nat} (hj : j < m) (h : nlB (S j) = true) : jok S m = false := by
  unfold jok
  rw [Bool.and_eq_false_iff]
  left
  simp only [List.all_eq_false, List.mem_range]
  exact ⟨j, hj, by rw [h]; decide⟩
theorem jok_big {S : Nat → ByteArray} {m i : Nat} (hi : i ≤ m) (h : 16000 < (jo S i).size) : jok S m = false := by
  unfold jok
  rw [Bool.and_eq_false_iff]
  right
  have := jo_mono S hi
  exact decide_eq_false (by omega)
theorem jok_yes {S : Nat → ByteArray} {m : Nat} (h1 : ∀ j, j < m → nlB (S j) = false) (h2 : (jo S m).size ≤ 16000) : jok S m = true := by
  unfold jok
  rw [Bool.and_eq_true]
  refine ⟨?_, decide_eq_true h2⟩
  simp only [List.all_eq_true, List.mem_range]
  intro j hj
  rw [h1 j hj]; rfl
end Go.Proofs.YtnkimeeofmbhkaaDoor
