/- How an argument that is a grid is read. No condition. -/
import Derived.Test.YtnkfbinppikhkaaRow
import Derived.Test.YtnkfbinppikhkaaGr
namespace Go.Proofs.Ytnkfbinppikhkaa
open Go.ChangeShapes Go.WideShapes Go.ChangeAt Go.RowKit Go.Joins Go.Deep
section
variable {H : Type} {enc : TypeId × Value → H} {w : World} {base : Nat} {spare : Nat → Bool} {held : Bool}
def bitsOf : Value → Nat
  | .float _ b => b
  | _ => 0
theorem cellsOfF32' : Try.prog.cellsOf 36 = 1 := by kernel_rfl
theorem cellsOfI64' : Try.prog.cellsOf 2 = 1 := by kernel_rfl
-- left out here: cellsOfGrid'
theorem cellsOfFls' : Try.prog.cellsOf 67 = 1 := by kernel_rfl
theorem open_struct {P : Program} {r : Reach} {b0 : Nat} {t : TypeId} {fs : Array Field} {v : Value} {d : DataW H} {p : List MemPlace} (hs : P.underlying t = some (.struct fs)) (hv : Value.okWide P w r b0 t v) (h : DataW.Trod enc P w base spare held t v d p) :
    ∃ cs : Array Value, v = .agg cs ∧ ∃ fuel x, DataW.trod enc P w base spare held fuel t cs.toList = some x := by
  obtain ⟨cs, rfl, _⟩ := okWide_struct hs hv
  obtain ⟨fuel, hf⟩ := h
  exact ⟨cs, rfl, fuel, _, hf⟩
theorem list3' {α : Type} {l : List α} (h : l.length = 3) : ∃ a b c, l = [a, b, c] := by
  match l, h with
  | [a, b, c], _ => exact ⟨a, b, c, rfl⟩
set_option maxRecDepth 100000 in
theorem cells_fls {fuel : Nat} {c : Value} {q : DataW H × List MemPlace} (hf : DataW.trod enc Try.prog w base spare held fuel 67 [c] = some q) :
    ∃ A n cap x, c = .slice A n cap ∧ n ≤ 9223372036854775807 ∧ FlArg w A n x := by
  rcases open_slice1 Try.underlying67 cellsOfF32' hf with ⟨h0, -⟩ | ⟨a, len, c', m, k, V, D, Pl, h0, -, hlc, hcm, hm, -, hcells⟩
  · simp at h0
    exact ⟨none, 0, 0, fun _ => 0, h0, by omega, fun j hj => absurd hj (by omega)⟩
  · simp at h0
    have hmn : len ≤ m := by rw [hm]; split <;> omega
    refine ⟨some a, len, c', fun j => bitsOf (V j), h0, by unfold maxLen at hcm; omega, fun j hj => ?_⟩
    obtain ⟨g0, t0⟩ := hcells j (by omega)
    obtain ⟨b0, e0, -, -⟩ := trod_float Try.underlying36 t0
    simp at e0
    refine ⟨a, rfl, ?_, by simp only [g0, e0, bitsOf]⟩
    have := block_lt_of_cell g0
    rwa [block_add] at this
-- left out here: open_grid
end
end Go.Proofs.Ytnkfbinppikhkaa
