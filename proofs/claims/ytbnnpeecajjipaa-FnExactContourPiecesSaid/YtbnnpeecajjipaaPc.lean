/- Where a level crosses the cells of a grid, in plain words; the rows of such points. No condition. -/
import Derived.Test.YtbnnpeecajjipaaFx
import Derived.Test.YtbnnpeecajjipaaNbi
namespace Go.Proofs.Ytbnnpeecajjipaa
open Go.RowKit
set_option linter.unusedSimpArgs false
/-- The k-th corner of the two triangles of a cell, from its first place; the next one of the same triangle. -/
def ca (W k : Nat) : Nat := match k with
  | 0 => 0
  | 1 => 1
  | 2 => W + 1
  | 3 => 0
  | 4 => W + 1
  | _ => W
def nx (k : Nat) : Nat := k / 3 * 3 + (k + 1) % 3
def crB (X : Nat → Nat) (E a b : Nat) : Bool := fge .f32 (X a) E != fge .f32 (X b) E
def piece (X : Nat → Nat) (W E i k : Nat) : List (Nat × Nat) := if crB X E (i + ca W k) (i + ca W (nx k)) = true then [(mtX X W E (i + ca W k) (i + ca W (nx k)), mtY X W E (i + ca W k) (i + ca W (nx k)))] else []
def six (X : Nat → Nat) (W E i k : Nat) : List (Nat × Nat) := (List.range k).flatMap (piece X W E i)
def cellP (X : Nat → Nat) (W D E i : Nat) : List (Nat × Nat) := if i % W + 1 = W ∨ i / W + 1 = D then [] else six X W E i 6
def pre (X : Nat → Nat) (W D E i : Nat) : List (Nat × Nat) := (List.range i).flatMap (cellP X W D E)
theorem six_succ (X : Nat → Nat) (W E i k : Nat) : six X W E i (k + 1) = six X W E i k ++ piece X W E i k := by simp [six, List.range_succ]
theorem pre_succ (X : Nat → Nat) (W D E i : Nat) : pre X W D E (i + 1) = pre X W D E i ++ cellP X W D E i := by simp [pre, List.range_succ]
theorem six_zero (X : Nat → Nat) (W E i : Nat) : six X W E i 0 = [] := rfl
theorem piece_len (X : Nat → Nat) (W E i k : Nat) : (piece X W E i k).length ≤ 1 := by unfold piece; split <;> simp
theorem six_len (X : Nat → Nat) (W E i : Nat) : ∀ k, (six X W E i k).length ≤ k
  | 0 => Nat.le_refl _
  | k + 1 => by
    have h1 := six_len X W E i k
    have h2 := piece_len X W E i k
    rw [six_succ, List.length_append]
    omega
theorem pre_len (X : Nat → Nat) (W D E : Nat) : ∀ i, (pre X W D E i).length ≤ 6 * i
  | 0 => Nat.le_refl _
  | i + 1 => by
    have h1 := pre_len X W D E i
    have h2 := six_len X W E i 6
    rw [pre_succ, List.length_append]
    unfold cellP
    split <;> simp <;> omega
theorem nx_lt {k : Nat} (h : k < 6) : nx k < 6 := by unfold nx; omega
theorem ca_le (W k : Nat) : ca W k ≤ W + 1 := by unfold ca; split <;> omega
/-- A row's values are those points. -/
def cxs (xs : List Value) (P : List (Nat × Nat)) : Prop := ∀ (j : Nat) (p : Nat × Nat), P[j]? = some p → ∃ a b, xs[j]? = some (.complex .f32 a b) ∧ cn .f32 a = p.1 ∧ cn .f32 b = p.2
def PRow (w : World) (lo : Nat) (v : Value) (P : List (Nat × Nat)) : Prop := ∃ xs, w.ownsRow lo 63 1 v P.length xs ∧ cxs xs P
theorem PRow.below {w w' : World} {lo : Nat} {v : Value} {P : List (Nat × Nat)} (h : PRow w lo v P) (hb : Below w.heap.size w w') : PRow w' lo v P := by
  obtain ⟨xs, h1, h2⟩ := h
  exact ⟨xs, own_below h1 hb, h2⟩
theorem PRow.snoc {w : World} {lo : Nat} {v : Value} {P : List (Nat × Nat)} {xs : List Value} {a b A B : Nat} (h : w.ownsRow lo 63 1 v (P.length + 1) (xs ++ [.complex .f32 a b])) (hx : cxs xs P) (hl : xs.length = P.length) (ha : cn .f32 a = A) (hb : cn .f32 b = B) : PRow w lo v (P ++ [(A, B)]) := by
  refine ⟨xs ++ [.complex .f32 a b], by rw [List.length_append]; exact h, fun j p hp => ?_⟩
  by_cases e : j < P.length
  · rw [List.getElem?_append_left e] at hp
    rw [List.getElem?_append_left (by omega)]
    exact hx j p hp
  · by_cases e2 : j = P.length
    · subst e2
      rw [List.getElem?_append_right (Nat.le_refl _), Nat.sub_self] at hp
      simp at hp
      subst hp
      exact ⟨a, b, by rw [List.getElem?_append_right (by omega), hl, Nat.sub_self]; rfl, ha, hb⟩
    · rw [List.getElem?_eq_none (by rw [List.length_append]; simp; omega)] at hp
      cases hp
theorem PRow.carr {w : World} {lo : Nat} {v : Value} {P : List (Nat × Nat)} (h : PRow w lo v P) : CArr w lo v P.length (fun j => (P[j]?.getD (0, 0)).1) (fun j => (P[j]?.getD (0, 0)).2) := by
  obtain ⟨xs, h, hx⟩ := h
  rcases h.2 with ⟨rfl, e⟩ | ⟨g, cap, cur, rfl, h1, h2, h3, h4, h5, h6⟩
  · exact .inl ⟨e, rfl⟩
  · refine .inr ⟨g, cap, fun i => (cur[i]?).getD undef, rfl, h1, ⟨cur, h2, by omega, fun i hi => ?_⟩, h3, fun j hj => ?_⟩
    · show cur[i]? = some ((cur[i]?).getD undef)
      rw [Array.getElem?_eq_getElem (by omega)]; rfl
    · obtain ⟨a, b, e, ha, hb⟩ := hx j (P[j]) (List.getElem?_eq_getElem hj)
      rw [← h6, List.getElem?_take, if_pos (by omega), Array.getElem?_toList] at e
      have ep : P[j]? = some P[j] := List.getElem?_eq_getElem hj
      exact ⟨a, b, by show (cur[j]?).getD undef = _; rw [e]; rfl, by simp only [ep, Option.getD_some]; exact ha, by simp only [ep, Option.getD_some]; exact hb⟩
theorem info_c64 : (Try.prog.info? 63).map (fun i => (i.zero, i.size, i.bytes)) = some (some (.complex .f32 0 0), 1, 8) := by kernel_rfl
end Go.Proofs.Ytbnnpeecajjipaa
