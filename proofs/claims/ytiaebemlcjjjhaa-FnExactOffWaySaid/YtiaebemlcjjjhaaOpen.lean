/- How arguments that are structs in structs are read. No condition. -/
import Derived.Test.YtiaebemlcjjjhaaRow
namespace Go.Proofs.Ytiaebemlcjjjhaa
open Go.ChangeShapes Go.WideShapes Go.ChangeAt Go.RowKit Go.Joins

section
variable {H : Type} {enc : TypeId × Value → H} {w : World} {base : Nat} {spare : Nat → Bool} {held : Bool}
theorem cellsOfPlace : Try.prog.cellsOf 24 = 2 := by kernel_rfl
theorem cellsOfF32 : Try.prog.cellsOf 22 = 1 := by kernel_rfl
theorem cellsOfI64 : Try.prog.cellsOf 2 = 1 := by kernel_rfl
theorem list2 {α : Type} {l : List α} (h : l.length = 2) : ∃ a b, l = [a, b] := by
  match l, h with
  | [a, b], _ => exact ⟨a, b, rfl⟩
theorem list4 {α : Type} {l : List α} (h : l.length = 4) : ∃ a b c d, l = [a, b, c, d] := by
  match l, h with
  | [a, b, c, d], _ => exact ⟨a, b, c, d, rfl⟩
theorem readPlace {fuel : Nat} {cs : List Value} {x : DataW H × List MemPlace} (h : DataW.trod enc Try.prog w base spare held fuel 24 cs = some x) :
    ∃ a b, cs = [.float .f32 a, .float .f32 b] ∧ (Lit.float .f32 a).wf = true ∧ (Lit.float .f32 b).wf = true := by
  obtain ⟨hl, n, xs, rfl, hm⟩ := trod_fields Try.underlying24 h
  rw [cellsOfPlace] at hl
  obtain ⟨c0, c1, rfl⟩ := list2 hl
  obtain ⟨y0, ys0, h0, hm0, -⟩ := mapM_cons_some hm
  obtain ⟨y1, ys1, h1, hm1, -⟩ := mapM_cons_some hm0
  simp [cellsOfF32] at h0 h1
  obtain ⟨a, e0, -, wa⟩ := trod_float Try.underlying22 h0
  obtain ⟨b, e1, -, wb⟩ := trod_float Try.underlying22 h1
  simp at e0 e1
  exact ⟨a, b, by rw [e0, e1], wa, wb⟩
theorem cellsOfMap : Try.prog.cellsOf 26 = 4 := by kernel_rfl
theorem readMap {fuel : Nat} {cs : List Value} {x : DataW H × List MemPlace} (h : DataW.trod enc Try.prog w base spare held fuel 26 cs = some x) :
    ∃ k n e f, cs = [.int .i64 k, .float .f32 n, .float .f32 e, .float .f32 f] ∧ (Lit.int .i64 k).wf = true ∧ (Lit.float .f32 n).wf = true ∧ (Lit.float .f32 e).wf = true ∧ (Lit.float .f32 f).wf = true := by
  obtain ⟨hl, n, xs, rfl, hm⟩ := trod_fields Try.underlying26 h
  rw [cellsOfMap] at hl
  obtain ⟨c0, c1, c2, c3, rfl⟩ := list4 hl
  obtain ⟨y0, ys0, h0, hm0, -⟩ := mapM_cons_some hm
  obtain ⟨y1, ys1, h1, hm1, -⟩ := mapM_cons_some hm0
  obtain ⟨y2, ys2, h2, hm2, -⟩ := mapM_cons_some hm1
  simp [cellsOfF32, cellsOfI64, cellsOfPlace] at h0 h1 h2
  obtain ⟨k, e0, -, wk⟩ := DataW.trod_int Try.underlying2 h0
  obtain ⟨a, b, e1, wa, wb⟩ := readPlace h1
  obtain ⟨c, e2, -, wc⟩ := trod_float Try.underlying22 h2
  simp at e0 e1 e2
  exact ⟨k, a, b, c, by rw [e0, e1.1, e1.2, e2], wk, wa, wb, wc⟩
/-- An argument that is a struct: its value is laid out as its cells. -/
theorem open_struct {P : Program} {r : Reach} {b0 : Nat} {t : TypeId} {fs : Array Field} {v : Value} {d : DataW H} {p : List MemPlace} (hs : P.underlying t = some (.struct fs)) (hv : Value.okWide P w r b0 t v) (h : DataW.Trod enc P w base spare held t v d p) :
    ∃ cs : Array Value, v = .agg cs ∧ ∃ fuel x, DataW.trod enc P w base spare held fuel t cs.toList = some x := by
  obtain ⟨cs, rfl, _⟩ := okWide_struct hs hv
  obtain ⟨fuel, hf⟩ := h
  exact ⟨cs, rfl, fuel, _, hf⟩
end
end Go.Proofs.Ytiaebemlcjjjhaa
