/- strconv.FormatInt at small numbers. No condition. -/
import Derived.Test.YtnkimeeofmbhkaaDoorJdec
import Derived.Deep.DeepCutAuto
namespace Go.Proofs.YtnkimeeofmbhkaaDoor
open Go.RowKit
set_option linter.unusedSimpArgs false
/-- How many bits a number below 256 has. -/
def bl8 (k : Nat) : Nat := if k < 1 then 0 else if k < 2 then 1 else if k < 4 then 2 else if k < 8 then 3 else if k < 16 then 4 else if k < 32 then 5 else if k < 64 then 6 else if k < 128 then 7 else 8
def tabOk (T : ByteArray) : Bool := T.size == 256 && (List.range 256).all fun k => (T.data[k]?.map (·.toNat)) == some (bl8 k)
theorem tab_at {T : ByteArray} (hT : tabOk T = true) {k : Nat} (hk : k < 256) (h : k < T.size) : T[k].toNat = bl8 k := by
  unfold tabOk at hT
  simp only [Bool.and_eq_true, List.all_eq_true, List.mem_range] at hT
  have h1 := hT.2 k hk
  have h2 : T.data[k]? = some T[k] := by
    rw [Array.getElem?_eq_getElem (by exact h)]
    rfl
  rw [h2] at h1
  simpa using h1
theorem bl8_le (k : Nat) : bl8 k ≤ 8 := by unfold bl8; (repeat' split) <;> omega
def blen (n : Nat) : Nat := if n < 256 then bl8 n else bl8 (n / 256) + 8
set_option maxRecDepth 100000 in
set_option maxHeartbeats 2000000 in
theorem len64_c (n : Nat) (hn : n < 65536) (w : World) : Calls Tryd.prog 32 #[.int .u64 n] w fun e w' => e = .returned (.int .i64 (blen n : Nat)) ∧ w = w' := by
  unfold blen
  by_cases h : n < 256
  · rw [if_pos h]
    have h1 : ¬ ((4294967296 : Int) ≤ (n : Int)) := by omega
    have h2 : ¬ ((65536 : Int) ≤ (n : Int)) := by omega
    have h3 : ¬ ((256 : Int) ≤ (n : Int)) := by omega
    have h4 : (n : Int) % 256 = (n : Int) := by omega
    have h5 : (0 : Int) ≤ (n : Int) := by omega
    have h6 : (n : Int) < 256 := by omega
    go_enter Tryd.func32, Tryd.ntmps32
    go_wp2
    go_ret
    refine ⟨congrArg (fun z => Ending.returned (.int .i64 z)) ?_, rfl⟩
    rw [tab_at (hT := ?hT) (hk := h)]
    case hT => decide +kernel
    have := bl8_le n
    unfold wrap64
    omega
  · rw [if_neg h]
    have h1 : ¬ ((4294967296 : Int) ≤ (n : Int)) := by omega
    have h2 : ¬ ((65536 : Int) ≤ (n : Int)) := by omega
    have h3 : ((256 : Int) ≤ (n : Int)) := by omega
    obtain ⟨q, hq⟩ : ∃ q, n / 256 = q := ⟨_, rfl⟩
    have hq1 : (n : Int) / 256 = (q : Int) := by omega
    have hq2 : q < 256 := by omega
    have h4 : (q : Int) % 256 = (q : Int) := by omega
    have h5 : (0 : Int) ≤ (q : Int) := by omega
    have h6 : (q : Int) < 256 := by omega
    rw [hq]
    clear hq
    go_enter Tryd.func32, Tryd.ntmps32
    go_wp2
    go_ret
    refine ⟨congrArg (fun z => Ending.returned (.int .i64 z)) ?_, rfl⟩
    rw [tab_at (hT := ?hT) (hk := hq2)]
    case hT => decide +kernel
    have := bl8_le q
    unfold wrap64
    omega
theorem log10_c (k : Nat) (hk : k ≤ 16) (w : World) : Calls Tryd.prog 31 #[.int .i64 k] w fun e w' => e = .returned (.int .i64 (k * 78913 / 262144 : Nat)) ∧ w = w' := by
  go_enter Tryd.func31, Tryd.ntmps31
  go_wp2
  go_ret
  exact ⟨congrArg (fun z => Ending.returned (.int .i64 z)) (by omega), rfl⟩
theorem bool2_c (b : Bool) (w : World) : Calls Tryd.prog 33 #[.bool b] w fun e w' => e = .returned (.int .i64 (if b then 1 else 0)) ∧ w = w' := by
  cases b <;>
  (go_enter Tryd.func33, Tryd.ntmps33
   go_wp2
   go_ret
   exact ⟨rfl, rfl⟩)
/-- What the listed table holds, as far as it is read here. -/
def TB (w : World) : Prop := 1 < w.heap.size ∧ w.cell? ⟨1, 2, none⟩ = some (.int .u64 100) ∧ w.cell? ⟨1, 3, none⟩ = some (.int .u64 1000) ∧ w.cell? ⟨1, 4, none⟩ = some (.int .u64 10000)
theorem TB.below {w w' : World} (h : TB w) (hb : Below w.heap.size w w') : TB w' := by
  obtain ⟨h0, h1, h2, h3⟩ := h
  exact ⟨Nat.lt_of_lt_of_le h0 hb.size, (hb.cell (p := ⟨1, 2, none⟩) h0).trans h1, (hb.cell (p := ⟨1, 3, none⟩) h0).trans h2, (hb.cell (p := ⟨1, 4, none⟩) h0).trans h3⟩
/-- How many digits a number from 100 to 65535 has. -/
def ndg (n : Nat) : Nat := if n < 1000 then 3 else if n < 10000 then 4 else 5
theorem bl8_up (k : Nat) (hk : k < 256) : (bl8 k ≤ 6 → k < 64) ∧ (7 ≤ bl8 k → 64 ≤ k) ∧ (bl8 k = 0 ↔ k = 0) ∧ (bl8 k ≤ 1 → k ≤ 1) ∧ (bl8 k ≤ 5 → k < 32) ∧ (6 ≤ bl8 k → 32 ≤ k) ∧ (2 ≤ bl8 k → 2 ≤ k) := by
  unfold bl8
  (repeat' split) <;> omega
theorem nd_spec {n : Nat} (h1 : 100 ≤ n) (h2 : n < 65536) : (blen n * 78913 / 262144 = 2 ∧ n < 1000) ∨ (blen n * 78913 / 262144 = 3 ∧ 512 ≤ n ∧ n < 10000) ∨ (blen n * 78913 / 262144 = 4 ∧ 8192 ≤ n) := by
  unfold blen
  by_cases h : n < 256
  · rw [if_pos h]
    have := bl8_up n h
    have := bl8_le n
    left
    refine ⟨?_, by omega⟩
    have h7 : bl8 n = 7 ∨ bl8 n = 8 := by omega
    rcases h7 with e | e <;> rw [e]
  · rw [if_neg h]
    have hu := bl8_up (n / 256) (by omega)
    have hl := bl8_le (n / 256)
    have hc : bl8 (n / 256) = 1 ∨ bl8 (n / 256) = 2 ∨ bl8 (n / 256) = 3 ∨ bl8 (n / 256) = 4 ∨ bl8 (n / 256) = 5 ∨ bl8 (n / 256) = 6 ∨ bl8 (n / 256) = 7 ∨ bl8 (n / 256) = 8 := by omega
    rcases hc with e | e | e | e | e | e | e | e <;> rw [e] at hu ⊢ <;> simp at hu ⊢ <;> omega
set_option maxRecDepth 100000 in
set_option maxHeartbeats 2000000 in
theorem numDigits_c (n : Nat) (h1 : 100 ≤ n) (h2 : n < 65536) (w : World) (ht : TB w) : Calls Tryd.prog 28 #[.int .u64 n] w fun e w' => e = .returned (.int .i64 (ndg n : Nat)) ∧ w = w' := by
  have hsp := nd_spec h1 h2
  have hbl : blen n ≤ 16 := by
    unfold blen
    have := bl8_le n
    have := bl8_le (n / 256)
    split <;> omega
  have HL := Lib.hid (len64_c n h2)
  have HG := Lib.hid (log10_c (blen n) hbl)
  obtain ⟨t0, t1, t2, t3⟩ := ht
  unfold ndg
  generalize blen n * 78913 / 262144 = z at hsp HG
  have HB := Lib.hid bool2_c
  have arms : True := trivial
  rcases hsp with ⟨rfl, hb⟩ | ⟨rfl, hb⟩ | ⟨rfl, hb⟩
  · rw [if_pos hb]
    have hc : ((100 : Int) ≤ (n : Int)) := by omega
    go_enter Tryd.func28, Tryd.ntmps28
    go_wp2_with (first | (go_at_call 32; refine (HL.out _).mono ?_; rintro e w' ⟨rfl, rfl⟩) | (go_at_call 31; refine (HG.out _).mono ?_; rintro e w' ⟨rfl, rfl⟩) | (go_at_call 33; refine (HB.out _ _).mono ?_; rintro e w' ⟨rfl, rfl⟩))
    go_ret
    exact ⟨rfl, rfl⟩
  · by_cases hn : n < 1000
    · rw [if_pos hn]
      have hc : ¬ ((1000 : Int) ≤ (n : Int)) := by omega
      go_enter Tryd.func28, Tryd.ntmps28
      go_wp2_with (first | (go_at_call 32; refine (HL.out _).mono ?_; rintro e w' ⟨rfl, rfl⟩) | (go_at_call 31; refine (HG.out _).mono ?_; rintro e w' ⟨rfl, rfl⟩) | (go_at_call 33; refine (HB.out _ _).mono ?_; rintro e w' ⟨rfl, rfl⟩))
      go_ret
      exact ⟨rfl, rfl⟩
    · rw [if_neg hn, if_pos hb.2]
      have hc : ((1000 : Int) ≤ (n : Int)) := by omega
      go_enter Tryd.func28, Tryd.ntmps28
      go_wp2_with (first | (go_at_call 32; refine (HL.out _).mono ?_; rintro e w' ⟨rfl, rfl⟩) | (go_at_call 31; refine (HG.out _).mono ?_; rintro e w' ⟨rfl, rfl⟩) | (go_at_call 33; refine (HB.out _ _).mono ?_; rintro e w' ⟨rfl, rfl⟩))
      go_ret
      exact ⟨rfl, rfl⟩
  · by_cases hn : n < 10000
    · rw [if_neg (by omega), if_pos hn]
      have hc : ¬ ((10000 : Int) ≤ (n : Int)) := by omega
      go_enter Tryd.func28, Tryd.ntmps28
      go_wp2_with (first | (go_at_call 32; refine (HL.out _).mono ?_; rintro e w' ⟨rfl, rfl⟩) | (go_at_call 31; refine (HG.out _).mono ?_; rintro e w' ⟨rfl, rfl⟩) | (go_at_call 33; refine (HB.out _ _).mono ?_; rintro e w' ⟨rfl, rfl⟩))
      go_ret
      exact ⟨rfl, rfl⟩
    · rw [if_neg (by omega), if_neg hn]
      have hc : ((10000 : Int) ≤ (n : Int)) := by omega
      go_enter Tryd.func28, Tryd.ntmps28
      go_wp2_with (first | (go_at_call 32; refine (HL.out _).mono ?_; rintro e w' ⟨rfl, rfl⟩) | (go_at_call 31; refine (HG.out _).mono ?_; rintro e w' ⟨rfl, rfl⟩) | (go_at_call 33; refine (HB.out _ _).mono ?_; rintro e w' ⟨rfl, rfl⟩))
      go_ret
      exact ⟨rfl, rfl⟩
end Go.Proofs.YtnkimeeofmbhkaaDoor
