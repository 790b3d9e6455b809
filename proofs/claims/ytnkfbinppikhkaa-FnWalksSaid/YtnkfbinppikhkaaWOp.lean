/- How an argument that is a slice of bytes is read. No condition. -/
import Derived.Test.YtnkfbinppikhkaaOpenG
import Derived.Test.YtnkfbinppikhkaaWSr
namespace Go.Proofs.Ytnkfbinppikhkaa
open Go.ChangeShapes Go.WideShapes Go.ChangeAt Go.RowKit Go.Joins Go.Deep
section
variable {H : Type} {enc : TypeId × Value → H} {w : World} {base : Nat} {spare : Nat → Bool} {held : Bool}
theorem cellsOfU8' : Try.prog.cellsOf 5 = 1 := by kernel_rfl
set_option maxRecDepth 100000 in
theorem open_bytes {r : Reach} {b0 : Nat} {v : Value} {d : DataW H} {p : List MemPlace} (hv : Value.okWide Try.prog w r b0 22 v) (h : DataW.Trod enc Try.prog w base spare held 22 v d p) :
    ∃ A n cap, v = .slice A n cap ∧ n ≤ 9223372036854775807 ∧ ByArg w A n := by
  obtain ⟨A, n, cap, rfl⟩ := okWide_slice Try.underlying22 hv
  obtain ⟨fuel, hf⟩ := h
  rcases open_slice1 Try.underlying22 cellsOfU8' hf with ⟨h0, -⟩ | ⟨a, len, c', m, k, V, D, Pl, h0, -, hlc, hcm, hm, -, hcells⟩
  · simp [Value.cells] at h0
    obtain ⟨rfl, rfl, rfl⟩ := h0
    exact ⟨none, 0, 0, rfl, by omega, fun j hj => absurd hj (by omega)⟩
  · simp [Value.cells] at h0
    obtain ⟨rfl, rfl, rfl⟩ := h0
    have hmn : n ≤ m := by rw [hm]; split <;> omega
    refine ⟨some a, n, cap, rfl, by unfold maxLen at hcm; omega, fun j hj => ?_⟩
    obtain ⟨g0, t0⟩ := hcells j (by omega)
    obtain ⟨x, e0, e1, hw⟩ := DataW.trod_int Try.underlying5 t0
    simp at e0
    have hb := block_lt_of_cell g0
    rw [block_add] at hb
    refine ⟨a, x, rfl, hb, by rw [g0, e0], ?_⟩
    have h2 : (decide ((0 : Int) ≤ x) && decide (x ≤ 255)) = true := hw
    simpa using h2
end
end Go.Proofs.Ytnkfbinppikhkaa
