/- How arguments that are slices of places are read. No condition. -/
import Derived.Test.YtnkimeeofmbhkaaRow
import Derived.Test.YtnkimeeofmbhkaaPls
namespace Go.Proofs.Ytnkimeeofmbhkaa
open Go.ChangeShapes Go.WideShapes Go.ChangeAt Go.RowKit Go.Joins Go.Deep

section
variable {H : Type} {enc : TypeId × Value → H} {w : World} {base : Nat} {spare : Nat → Bool} {held : Bool}
def bitsOf : Value → Nat
  | .float _ b => b
  | _ => 0
theorem cellsOfPlace' : Try.prog.cellsOf 68 = 2 := by kernel_rfl
theorem cellsOfF32' : Try.prog.cellsOf 22 = 1 := by kernel_rfl
set_option maxRecDepth 100000 in
theorem open_places {r : Reach} {b0 : Nat} {v : Value} {d : DataW H} {p : List MemPlace} (hv : Value.okWide Try.prog w r b0 36 v) (h : DataW.Trod enc Try.prog w base spare held 36 v d p) :
    ∃ A n cap x y, v = .slice A n cap ∧ n ≤ 9223372036854775807 ∧ PlArg w A n x y ∧ ∀ j, j < n → (Lit.float .f32 (x j)).wf = true ∧ (Lit.float .f32 (y j)).wf = true := by
  obtain ⟨A, n, cap, rfl⟩ := okWide_slice Try.underlying36 hv
  obtain ⟨fuel, hf⟩ := h
  rcases open_slice_pairs Try.underlying36 Try.underlying68 cellsOfPlace' rfl rfl cellsOfF32' cellsOfF32' hf with ⟨h0, -⟩ | ⟨a, len, c, m, k, V0, V1, D0, D1, P0, P1, h0, -, hlc, hcm, hm, -, hcells⟩
  · simp [Value.cells] at h0
    obtain ⟨rfl, rfl, rfl⟩ := h0
    exact ⟨none, 0, 0, fun _ => 0, fun _ => 0, rfl, by omega, fun j hj => absurd hj (by omega), fun j hj => absurd hj (by omega)⟩
  · simp [Value.cells] at h0
    obtain ⟨rfl, rfl, rfl⟩ := h0
    have hmn : n ≤ m := by rw [hm]; split <;> omega
    refine ⟨some a, n, cap, fun j => bitsOf (V0 j), fun j => bitsOf (V1 j), rfl, by unfold maxLen at hcm; omega, fun j hj => ?_, fun j hj => ?_⟩
    all_goals
      obtain ⟨g0, g1, t0, t1⟩ := hcells j (by omega)
      obtain ⟨b0, e0, -, w0⟩ := trod_float Try.underlying22 t0
      obtain ⟨b1, e1, -, w1⟩ := trod_float Try.underlying22 t1
      simp at e0 e1
    rotate_left
    · simp only [e0, e1, bitsOf]; exact ⟨w0, w1⟩
    refine ⟨a, rfl, ?_, by simp only [g0, e0, bitsOf], by simp only [g1, e1, bitsOf]⟩
    have := block_lt_of_cell g0
    rwa [block_add] at this
end
end Go.Proofs.Ytnkimeeofmbhkaa
