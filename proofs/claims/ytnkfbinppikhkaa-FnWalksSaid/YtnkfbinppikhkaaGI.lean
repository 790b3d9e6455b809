/- Slices of whole numbers. No condition. -/
import Derived.Test.YtnkfbinppikhkaaBas2
import Derived.Deep.RegionHeld3
import Derived.Deep.CutBlock
import Derived.Deep.DeepCutAuto
import Derived.Deep.OwnRows
import Derived.Laws.Rows
import Derived.Maps.AppendAt
namespace Go.Proofs.Ytnkfbinppikhkaa
open Go.RowKit
set_option linter.unusedSimpArgs false


theorem own_below {w w' : World} {B : Nat} {e : TypeId} {size : Nat} {v : Value} {n : Nat} {xs : List Value} (h : w.ownsRow B e size v n xs) (hb : Below w.heap.size w w') : w'.ownsRow B e size v n xs := by
  refine ⟨h.1, h.2.imp id ?_⟩
  rintro ⟨g, cap, cur, rfl, h1, h2, h3⟩
  exact ⟨g, cap, cur, rfl, h1, (hb.block g (Array.getElem?_eq_some_iff.1 h2).1).trans h2, h3⟩
/-- A row of whole numbers. -/
def Dr (w : World) (g n cap : Nat) (d : Nat → Int) : Prop := ∃ F : Nat → Value, w.rowIs g 2 cap F ∧ n ≤ cap ∧ ∀ j, j < n → F j = .int .i64 (d j)
namespace Dr
variable {w : World} {g n cap : Nat} {d : Nat → Int}
theorem cell (h : Dr w g n cap d) {j : Nat} (hj : j < n) : w.cell? ⟨g, j, none⟩ = some (.int .i64 (d j)) := by
  obtain ⟨F, h1, h2, h3⟩ := h
  rw [← h3 j hj]
  exact h1.cell (by omega)
theorem fr (h : Dr w g n cap d) (j : Nat) : w.frozen? ⟨g, j, none⟩ = false := by
  obtain ⟨F, h1, -⟩ := h
  exact h1.frozen j
theorem lt (h : Dr w g n cap d) : g < w.heap.size := by
  obtain ⟨F, h1, -⟩ := h
  exact h1.lt
theorem le (h : Dr w g n cap d) : n ≤ cap := by obtain ⟨F, -, h2, -⟩ := h; exact h2
theorem below {w' : World} (h : Dr w g n cap d) (hb : Below w.heap.size w w') : Dr w' g n cap d := by
  obtain ⟨F, h1, h2⟩ := h
  exact ⟨F, h1.of_block (hb.block g h1.lt), h2⟩
theorem set (h : Dr w g n cap d) (b : Nat) (v : Int) : Dr (w.setCell ⟨g, b, none⟩ (.int .i64 v)) g n cap (fun j => if j = b then v else d j) := by
  obtain ⟨F, h1, h2, h3⟩ := h
  refine ⟨_, h1.set b _, h2, fun j hj => ?_⟩
  by_cases e : j = b
  · simp only [if_pos e]
  · simp only [if_neg e]; exact h3 j hj
theorem congr {d' : Nat → Int} (h : Dr w g n cap d) (hd : ∀ j, j < n → d j = d' j) : Dr w g n cap d' := by
  obtain ⟨F, h1, h2, h3⟩ := h
  exact ⟨F, h1, h2, fun j hj => by rw [h3 j hj, hd j hj]⟩
theorem drew (h : Dr w g n cap d) : Dr w.drew g n cap d := h
end Dr
theorem own_dr {w : World} {B n : Nat} {v : Value} {xs : List Value} {d : Nat → Int} (h : w.ownsRow B 2 1 v n xs) (hn : 0 < n) (hx : ∀ j, j < n → xs[j]? = some (.int .i64 (d j))) : ∃ g cap, v = .slice (some ⟨g, 0, none⟩) n cap ∧ B ≤ g ∧ Dr w g n cap d := by
  rcases h.2 with ⟨rfl, e⟩ | ⟨g, cap, cur, rfl, h1, h2, h3, h4, h5, h6⟩
  · omega
  · refine ⟨g, cap, rfl, h1, fun i => (cur[i]?).getD undef, ⟨cur, h2, by omega, fun i hi => ?_⟩, h3, fun i hi => ?_⟩
    · show cur[i]? = some ((cur[i]?).getD undef)
      rw [Array.getElem?_eq_getElem (by omega)]; rfl
    · have e := hx i hi
      rw [← h6, List.getElem?_take, if_pos (by omega), Array.getElem?_toList] at e
      show (cur[i]?).getD undef = _
      rw [e]; rfl
theorem info_i64 : (Try.prog.info? 2).map (fun i => (i.zero, i.size, i.bytes)) = some (some (.int .i64 0), 1, 8) := by kernel_rfl

/-- A slice of whole numbers that may be written. -/
def IArr (w : World) (lo : Nat) (v : Value) (n : Nat) (d : Nat → Int) : Prop := (n = 0 ∧ v = .slice none 0 0) ∨ ∃ g cap, v = .slice (some ⟨g, 0, none⟩) n cap ∧ lo ≤ g ∧ Dr w g n cap d
theorem IArr.below {w w' : World} {lo n : Nat} {v : Value} {d : Nat → Int} (h : IArr w lo v n d) (hb : Below w.heap.size w w') : IArr w' lo v n d := h.imp id (fun ⟨g, cap, e, h1, h2⟩ => ⟨g, cap, e, h1, h2.below hb⟩)
def IArg (w : World) (A : Option Addr) (n : Nat) (d : Nat → Int) : Prop := ∀ j, j < n → ∃ g, A = some ⟨g, 0, none⟩ ∧ g < w.heap.size ∧ w.cell? ⟨g, j, none⟩ = some (.int .i64 (d j))
theorem IArr.arg {w : World} {lo n : Nat} {v : Value} {d : Nat → Int} (h : IArr w lo v n d) : ∃ A c, v = .slice A n c ∧ IArg w A n d := by
  rcases h with ⟨rfl, rfl⟩ | ⟨g, cap, rfl, -, h2⟩
  · exact ⟨none, 0, rfl, fun j hj => absurd hj (by omega)⟩
  · exact ⟨_, _, rfl, fun j hj => ⟨g, rfl, h2.lt, h2.cell hj⟩⟩
theorem IArg.below {w w' : World} {A : Option Addr} {n : Nat} {d : Nat → Int} (h : IArg w A n d) (hb : Below w.heap.size w w') : IArg w' A n d := fun j hj => by
  obtain ⟨g, e, h0, h1⟩ := h j hj
  exact ⟨g, e, Nat.lt_of_lt_of_le h0 hb.size, (hb.cell (p := ⟨g, j, none⟩) h0).trans h1⟩
-- left out here: eqI64_c
-- left out here: eqI64
/-- What a marked row holds. -/
def mki (k n : Nat) (d : Nat → Int) (i : Nat) : Int := if i < n then (k : Int) + (i : Int) else d i
-- left out here: markI64_c
-- left out here: heldI64_c
def ivs (l : List Nat) : List Value := l.map (fun (i : Nat) => .int .i64 (i : Int))
theorem ivs_snoc (l : List Nat) (i : Nat) : ivs (l ++ [i]) = ivs l ++ [.int .i64 (i : Int)] := by simp [ivs]
def nthI (l : List Nat) (j : Nat) : Int := ((l[j]?).getD 0 : Nat)
theorem own_iarr {w : World} {B n : Nat} {v : Value} {xs : List Value} {d : Nat → Int} (h : w.ownsRow B 2 1 v n xs) (hx : ∀ j, j < n → xs[j]? = some (.int .i64 (d j))) : IArr w B v n d := by
  by_cases hn : 0 < n
  · obtain ⟨g, cap, rfl, h1, h2⟩ := own_dr h hn hx
    exact .inr ⟨g, cap, rfl, h1, h2⟩
  · obtain rfl : n = 0 := by omega
    rcases h.2 with ⟨rfl, e⟩ | ⟨g, cap, cur, rfl, h1, h2, h3, h4, h5, h6⟩
    · exact .inl ⟨rfl, rfl⟩
    · refine .inr ⟨g, cap, rfl, h1, fun i => (cur[i]?).getD undef, ⟨cur, h2, by omega, fun i hi => ?_⟩, Nat.zero_le _, fun i hi => absurd hi (by omega)⟩
      show cur[i]? = some ((cur[i]?).getD undef)
      rw [Array.getElem?_eq_getElem (by omega)]; rfl
theorem own_pk {w : World} {B : Nat} {v : Value} {l : List Nat} (h : w.ownsRow B 2 1 v l.length (ivs l)) : IArr w B v l.length (nthI l) :=
  own_iarr h (fun j hj => by simp [ivs, nthI, List.getElem?_eq_getElem hj])
theorem IArr.lo {w : World} {B B' n : Nat} {v : Value} {d : Nat → Int} (h : IArr w B v n d) (hB : B' ≤ B) : IArr w B' v n d := h.imp id (fun ⟨g, cap, e, h1, h2⟩ => ⟨g, cap, e, Nat.le_trans hB h1, h2⟩)
/-- What a slice of whole numbers and a word are returned as. -/
def IRes (K : Bool) (N : Nat) (D : Nat → Int) (w : World) (e : Ending) (w' : World) : Prop := ∃ v, e = .returned (.tuple #[v, .bool K]) ∧ IArr w' w.heap.size v N D ∧ Below w.heap.size w w'
theorem IArr.some {w : World} {lo g n cap : Nat} {d : Nat → Int} (h : lo ≤ g) (hD : Dr w g n cap d) : IArr w lo (.slice (.some ⟨g, 0, none⟩) n cap) n d := .inr ⟨g, cap, rfl, h, hD⟩
theorem Dr.of_block {w w' : World} {g n cap : Nat} {d : Nat → Int} (h : Dr w g n cap d) (hb : w'.heap[g]? = w.heap[g]?) : Dr w' g n cap d := by
  obtain ⟨F, h1, h2, h3⟩ := h
  exact ⟨F, World.rowIs.of_block h1 hb, h2, h3⟩
-- left out here: markI1
-- left out here: heldI1
end Go.Proofs.Ytnkfbinppikhkaa
