/- What reading packed places does, in plain words. No condition. -/
import Derived.Test.YteecbhmgogndaaaUnpI
import Derived.Test.YteecbhmgogndaaaLPack
import Derived.Lib.Strings
namespace Go.Proofs.Yteecbhmgogndaaa
open Go.RowKit
set_option linter.unusedSimpArgs false

theorem nkA_le (s : ByteArray) : ∀ f k, nkA s f k ≤ s.size
  | 0, _ => by unfold nkA; omega
  | f + 1, k => by
    unfold nkA
    split
    · split
      · omega
      · exact nkA_le s f (k + 1)
    · omega
theorem nk_le (s : ByteArray) : nk s ≤ s.size := nkA_le s 5 0
theorem nkA_5 (s : ByteArray) : ∀ f k, nkA s f k ≤ k + f
  | 0, _ => by unfold nkA; omega
  | f + 1, k => by
    unfold nkA
    split
    · split
      · omega
      · have := nkA_5 s f (k + 1); omega
    · omega
theorem un_bnd {n : Nat} (h : n < 34359738368) : -17179869184 ≤ un n ∧ un n ≤ 17179869184 := by
  unfold un
  split <;> omega
theorem nd_bnd (s : ByteArray) : -17179869184 ≤ nd s ∧ nd s ≤ 17179869184 := by
  unfold nd
  split
  · omega
  · refine un_bnd (Nat.lt_of_lt_of_le (bv_lt s (nk s)) ?_)
    have : nk s ≤ 5 := nkA_5 s 5 0
    exact Nat.le_trans (Nat.pow_le_pow_right (n := 2) (by decide) (show 7 * nk s ≤ 35 by omega)) (by decide)

/-- The rest of a text. -/
def rs (s : ByteArray) (i : Nat) : ByteArray := s.extract i s.size
theorem rs_size (s : ByteArray) (i : Nat) : (rs s i).size = s.size - i := by unfold rs; simp
/-- Where the m-th place begins, and the steps that have been summed up ahead of it. -/
def dat (s : ByteArray) : Nat → Nat × Int × Int
  | 0 => (0, 0, 0)
  | m + 1 => ((dat s m).1 + nk (rs s (dat s m).1) + nk (rs s ((dat s m).1 + nk (rs s (dat s m).1))), (dat s m).2.1 + nd (rs s (dat s m).1), (dat s m).2.2 + nd (rs s ((dat s m).1 + nk (rs s (dat s m).1))))
def dP (s : ByteArray) (m : Nat) : Nat := (dat s m).1
def dA (s : ByteArray) (m : Nat) : Int := (dat s m).2.1
def dB (s : ByteArray) (m : Nat) : Int := (dat s m).2.2
def n1 (s : ByteArray) (m : Nat) : Nat := nk (rs s (dP s m))
def n2 (s : ByteArray) (m : Nat) : Nat := nk (rs s (dP s m + n1 s m))
def d1 (s : ByteArray) (m : Nat) : Int := nd (rs s (dP s m))
def d2 (s : ByteArray) (m : Nat) : Int := nd (rs s (dP s m + n1 s m))
theorem dP_succ (s : ByteArray) (m : Nat) : dP s (m + 1) = dP s m + n1 s m + n2 s m := rfl
theorem dA_succ (s : ByteArray) (m : Nat) : dA s (m + 1) = dA s m + d1 s m := rfl
theorem dB_succ (s : ByteArray) (m : Nat) : dB s (m + 1) = dB s m + d2 s m := rfl
theorem n1_le (s : ByteArray) (m : Nat) : n1 s m ≤ s.size - dP s m := by have := nk_le (rs s (dP s m)); rw [rs_size] at this; exact this
theorem n2_le (s : ByteArray) (m : Nat) : n2 s m ≤ s.size - (dP s m + n1 s m) := by have := nk_le (rs s (dP s m + n1 s m)); rw [rs_size] at this; exact this
/-- The m-th place can be read. -/
def okU (s : ByteArray) (m : Nat) : Prop := 0 < n1 s m ∧ 0 < n2 s m ∧ stepsIn (dA s (m + 1)) (dB s (m + 1)) = true
def allU (s : ByteArray) (m : Nat) : Prop := ∀ j, j < m → okU s j
theorem allU.succ {s : ByteArray} {m : Nat} (h : allU s m) (k : okU s m) : allU s (m + 1) := fun j hj => by
  by_cases e : j = m
  · subst e; exact k
  · exact h j (by omega)
theorem allU.le {s : ByteArray} {m k : Nat} (h : allU s m) (hk : k ≤ m) : allU s k := fun j hj => h j (by omega)
theorem dP_le {s : ByteArray} : ∀ m, dP s m ≤ s.size
  | 0 => by show 0 ≤ _; omega
  | m + 1 => by
    have h := dP_le (s := s) m
    have h1 := n1_le s m
    have h2 := n2_le s m
    rw [dP_succ]
    omega
theorem dP_lt {s : ByteArray} : ∀ {m k : Nat}, allU s m → k < m → dP s k < dP s m
  | 0, k, _, h => absurd h (by omega)
  | m + 1, k, ha, h => by
    have hm := ha m (by omega)
    have e := dP_succ s m
    by_cases hk : k = m
    · subst hk; have := hm.1; omega
    · have := dP_lt (ha.le (Nat.le_succ m)) (show k < m by omega)
      omega
theorem dA_bnd {s : ByteArray} {m : Nat} (h : allU s m) : -4194304 ≤ dA s m ∧ dA s m ≤ 4194304 := by
  cases m with
  | zero => show -4194304 ≤ (0 : Int) ∧ (0 : Int) ≤ 4194304; omega
  | succ m =>
    have := (h m (by omega)).2.2
    simp only [stepsIn, Bool.and_eq_true, decide_eq_true_eq] at this
    exact this.1
theorem dB_bnd {s : ByteArray} {m : Nat} (h : allU s m) : -8388608 ≤ dB s m ∧ dB s m ≤ 8388607 := by
  cases m with
  | zero => show -8388608 ≤ (0 : Int) ∧ (0 : Int) ≤ 8388607; omega
  | succ m =>
    have := (h m (by omega)).2.2
    simp only [stepsIn, Bool.and_eq_true, decide_eq_true_eq] at this
    exact this.2
/-- The places that are read. -/
def uX (s : ByteArray) (j : Nat) : Nat := psF (dA s (j + 1))
def uY (s : ByteArray) (j : Nat) : Nat := psF (dB s (j + 1))
/-- A text that is the pack of its m places. -/
def good (s : ByteArray) (m : Nat) : Prop := allU s m ∧ dP s m = s.size ∧ 1 ≤ m ∧ m ≤ 64 ∧ arePk m (uX s) (uY s) = true ∧ strL (pkL (uX s) (uY s) m) = s
theorem good.one {s : ByteArray} {m k : Nat} (h : good s m) (k' : good s k) : m = k := by
  rcases Nat.lt_trichotomy m k with e | e | e
  · have := dP_lt k'.1 e; rw [h.2.1, k'.2.1] at this; omega
  · exact e
  · have := dP_lt h.1 e; rw [h.2.1, k'.2.1] at this; omega
/-- No way on from the m-th place: no pack. -/
theorem bad_at {s : ByteArray} {m : Nat} (h : ¬ okU s m) (hm : m = 0 ∨ (allU s m ∧ dP s m < s.size)) : ∀ k, ¬ good s k := by
  intro k g
  have hk : k ≤ m := by
    rcases Nat.lt_or_ge m k with e | e
    · exact absurd (g.1 m e) h
    · exact e
  rcases hm with rfl | ⟨ha, hlt⟩
  · have := g.2.2.1; omega
  · rcases Nat.lt_or_eq_of_le hk with e | e
    · have := dP_lt ha e; rw [g.2.1] at this; omega
    · subst e; rw [g.2.1] at hlt; omega
/-- More than 64 places: no pack. -/
theorem bad_more {s : ByteArray} {m : Nat} (ha : allU s m) (hm : 64 < m) : ∀ k, ¬ good s k := by
  intro k g
  have h1 := dP_lt ha (show k < m by have := g.2.2.2.1; omega)
  have h2 := dP_le (s := s) m
  rw [g.2.1] at h1
  omega
/-- The end is come to, and the look or the pack falls. -/
theorem bad_end {s : ByteArray} {m : Nat} (ha : allU s m) (he : dP s m = s.size) (h : ¬ (1 ≤ m ∧ m ≤ 64 ∧ arePk m (uX s) (uY s) = true ∧ strL (pkL (uX s) (uY s) m) = s)) : ∀ k, ¬ good s k := by
  intro k g
  have : k = m := by
    rcases Nat.lt_trichotomy m k with e | e | e
    · have := dP_lt g.1 e; rw [he, g.2.1] at this; omega
    · exact e.symm
    · have := dP_lt ha e; rw [he, g.2.1] at this; omega
  subst this
  exact h g.2.2

/-! Rows of places. -/
def plL (x y : Nat → Nat) : Nat → List Value
  | 0 => []
  | m + 1 => plL x y m ++ [.float .f32 (x m), .float .f32 (y m)]
theorem plL_len (x y : Nat → Nat) : ∀ m, (plL x y m).length = m * 2
  | 0 => rfl
  | m + 1 => by show (plL x y m ++ _).length = _; rw [List.length_append, plL_len x y m]; simp; omega
theorem plL_at (x y : Nat → Nat) : ∀ {m j : Nat}, j < m → (plL x y m)[j * 2]? = some (.float .f32 (x j)) ∧ (plL x y m)[j * 2 + 1]? = some (.float .f32 (y j))
  | 0, j, h => absurd h (by omega)
  | m + 1, j, h => by
    have hl := plL_len x y m
    by_cases e : j = m
    · subst e
      constructor
      · show (plL x y j ++ _)[_]? = _
        rw [List.getElem?_append_right (by omega), hl, show j * 2 - j * 2 = 0 by omega]; rfl
      · show (plL x y j ++ _)[_]? = _
        rw [List.getElem?_append_right (by omega), hl, show j * 2 + 1 - j * 2 = 1 by omega]; rfl
    · have ih := plL_at x y (m := m) (j := j) (by omega)
      constructor
      · show (plL x y m ++ _)[_]? = _
        rw [List.getElem?_append_left (by omega)]; exact ih.1
      · show (plL x y m ++ _)[_]? = _
        rw [List.getElem?_append_left (by omega)]; exact ih.2
theorem plL_congr {x y x' y' : Nat → Nat} : ∀ {m : Nat}, (∀ j, j < m → x j = x' j ∧ y j = y' j) → plL x y m = plL x' y' m
  | 0, _ => rfl
  | m + 1, h => by
    show plL x y m ++ _ = plL x' y' m ++ _
    rw [plL_congr (m := m) (fun j hj => h j (by omega)), (h m (by omega)).1, (h m (by omega)).2]
/-- A row of the places X, Y in raw bits. -/
def OwnPl (w : World) (B : Nat) (v : Value) (m : Nat) (X Y : Nat → Nat) : Prop := ∃ x y, w.ownsRow B 29 2 v m (plL x y m) ∧ ∀ j, j < m → cn .f32 (x j) = X j ∧ cn .f32 (y j) = Y j ∧ (Lit.float .f32 (x j)).wf = true ∧ (Lit.float .f32 (y j)).wf = true
theorem OwnPl.below {w w' : World} {B : Nat} {v : Value} {m : Nat} {X Y : Nat → Nat} (h : OwnPl w B v m X Y) (hb : Below w.heap.size w w') : OwnPl w' B v m X Y := by
  obtain ⟨x, y, h1, h2⟩ := h
  exact ⟨x, y, own_below h1 hb, h2⟩
theorem OwnPl.slice {w : World} {B : Nat} {v : Value} {m : Nat} {X Y : Nat → Nat} (h : OwnPl w B v m X Y) (hm : 0 < m) : ∃ g c, v = .slice (some ⟨g, 0, none⟩) m c ∧ g < w.heap.size ∧ PlW w g m X Y := by
  obtain ⟨x, y, h1, h2⟩ := h
  obtain ⟨g, c, rfl, hg, hc⟩ := own_slice h1 hm
  refine ⟨g, c, rfl, hg, fun j hj => ?_⟩
  obtain ⟨p, q⟩ := plL_at x y hj
  have e1 := hc _ _ p
  have e2 := hc _ _ q
  have ea : ∀ i, (⟨g, 0, none⟩ : Addr).add i = ⟨g, i, none⟩ := fun i => by by_cases h : i = 0 <;> simp [Addr.add, h]
  rw [ea] at e1 e2
  exact ⟨x j, y j, e1, e2, (h2 j hj).1, (h2 j hj).2.1, (h2 j hj).2.2.1, (h2 j hj).2.2.2⟩
theorem OwnPl.push {w : World} {B : Nat} {v : Value} {m : Nat} {X Y x y : Nat → Nat} {p q : Nat} (h : w.ownsRow B 29 2 v (m + 1) (plL x y m ++ [.float .f32 p, .float .f32 q])) (hx : ∀ j, j < m → cn .f32 (x j) = X j ∧ cn .f32 (y j) = Y j ∧ (Lit.float .f32 (x j)).wf = true ∧ (Lit.float .f32 (y j)).wf = true)
    (h1 : cn .f32 p = X m) (h2 : cn .f32 q = Y m) (h3 : (Lit.float .f32 p).wf = true) (h4 : (Lit.float .f32 q).wf = true) : OwnPl w B v (m + 1) X Y := by
  refine ⟨fun j => if j = m then p else x j, fun j => if j = m then q else y j, ?_, fun j hj => ?_⟩
  · have e : plL (fun j => if j = m then p else x j) (fun j => if j = m then q else y j) m = plL x y m := plL_congr fun j hj => by rw [if_neg (by omega), if_neg (by omega)]; exact ⟨rfl, rfl⟩
    have e2 : plL (fun j => if j = m then p else x j) (fun j => if j = m then q else y j) (m + 1) = plL x y m ++ [.float .f32 p, .float .f32 q] := by
      show plL _ _ m ++ [.float .f32 (if m = m then p else x m), .float .f32 (if m = m then q else y m)] = _
      rw [e, if_pos rfl, if_pos rfl]
    rw [e2]
    exact h
  · by_cases e : j = m
    · subst e
      simp only [if_true]
      exact ⟨h1, h2, h3, h4⟩
    · simp only [if_neg e]
      exact hx j (by omega)
theorem OwnPl.lt {w : World} {B : Nat} {g m c : Nat} {X Y : Nat → Nat} (h : OwnPl w B (.slice (some ⟨g, 0, none⟩) m c) m X Y) : g < w.heap.size := by
  obtain ⟨x, y, h1, -⟩ := h
  rcases h1.2 with ⟨e, -⟩ | ⟨g', cap, cur, e, -, h2, -⟩
  · cases e
  · cases e
    exact (Array.getElem?_eq_some_iff.1 h2).1
theorem OwnPl.plW {w : World} {B : Nat} {g m c : Nat} {X Y : Nat → Nat} (h : OwnPl w B (.slice (some ⟨g, 0, none⟩) m c) m X Y) : PlW w g m X Y := by
  by_cases hm : 0 < m
  · obtain ⟨g', c', e, -, h2⟩ := h.slice hm
    cases e
    exact h2
  · exact fun j hj => absurd hj (by omega)
theorem str_ne {S s : ByteArray} (h : ¬ S = s) : (S.toList == s.toList) = false := by
  rw [Lib.toList_data, Lib.toList_data, beq_eq_false_iff_ne]
  intro e
  apply h
  cases S
  cases s
  simp only [ByteArray.mk.injEq]
  exact Array.toList_inj.1 e
theorem cell_two_new (w : World) (b : Nat) (hb : b = w.heap.size) (x y : Value) (t : TypeId) : ∀ j u, [x, y][j]? = some u → (w.alloc (.cells #[x, y] t)).cell? ((⟨b, 0, none⟩ : Addr).add j) = some u := by
  intro j u hj
  subst hb
  match j, hj with
  | 0, hj => simp at hj; subst hj; simp [Addr.add]
  | 1, hj => simp at hj; subst hj; simp [Addr.add]
end Go.Proofs.Yteecbhmgogndaaa
