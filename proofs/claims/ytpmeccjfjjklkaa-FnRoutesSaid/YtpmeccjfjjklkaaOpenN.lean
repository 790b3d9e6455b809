/- How an argument that is a net is read. No condition. -/
import Derived.Test.YtpmeccjfjjklkaaRow
import Derived.Test.YtpmeccjfjjklkaaRds
namespace Go.Proofs.Ytpmeccjfjjklkaa
open Go.ChangeShapes Go.WideShapes Go.ChangeAt Go.RowKit Go.Joins Go.Deep

section
variable {H : Type} {enc : TypeId × Value → H} {w : World} {base : Nat} {spare : Nat → Bool} {held : Bool}
def bitsOf : Value → Nat
  | .float _ b => b
  | _ => 0
def numOf : Value → Int
  | .int _ b => b
  | _ => 0
theorem cellsOfPlace' : Try.prog.cellsOf 81 = 2 := by kernel_rfl
theorem cellsOfRoad' : Try.prog.cellsOf 83 = 3 := by kernel_rfl
theorem cellsOfNet' : Try.prog.cellsOf 25 = 2 := by kernel_rfl
theorem cellsOfF32' : Try.prog.cellsOf 73 = 1 := by kernel_rfl
theorem cellsOfI64' : Try.prog.cellsOf 2 = 1 := by kernel_rfl
theorem cellsOfPls' : Try.prog.cellsOf 22 = 1 := by kernel_rfl
theorem cellsOfRds' : Try.prog.cellsOf 23 = 1 := by kernel_rfl
theorem list2' {α : Type} {l : List α} (h : l.length = 2) : ∃ a b, l = [a, b] := by
  match l, h with
  | [a, b], _ => exact ⟨a, b, rfl⟩
theorem list3' {α : Type} {l : List α} (h : l.length = 3) : ∃ a b c, l = [a, b, c] := by
  match l, h with
  | [a, b, c], _ => exact ⟨a, b, c, rfl⟩
theorem open_struct {P : Program} {r : Reach} {b0 : Nat} {t : TypeId} {fs : Array Field} {v : Value} {d : DataW H} {p : List MemPlace} (hs : P.underlying t = some (.struct fs)) (hv : Value.okWide P w r b0 t v) (h : DataW.Trod enc P w base spare held t v d p) :
    ∃ cs : Array Value, v = .agg cs ∧ ∃ fuel x, DataW.trod enc P w base spare held fuel t cs.toList = some x := by
  obtain ⟨cs, rfl, _⟩ := okWide_struct hs hv
  obtain ⟨fuel, hf⟩ := h
  exact ⟨cs, rfl, fuel, _, hf⟩
set_option maxRecDepth 100000 in
theorem cells_places {fuel : Nat} {c : Value} {q : DataW H × List MemPlace} (hf : DataW.trod enc Try.prog w base spare held fuel 22 [c] = some q) :
    ∃ A n cap x y, c = .slice A n cap ∧ n ≤ 9223372036854775807 ∧ PlArg w A n x y ∧ ∀ j, j < n → (Lit.float .f32 (x j)).wf = true ∧ (Lit.float .f32 (y j)).wf = true := by
  rcases open_slice_pairs Try.underlying22 Try.underlying81 cellsOfPlace' rfl rfl cellsOfF32' cellsOfF32' hf with ⟨h0, -⟩ | ⟨a, len, c', m, k, V0, V1, D0, D1, P0, P1, h0, -, hlc, hcm, hm, -, hcells⟩
  · simp at h0
    exact ⟨none, 0, 0, fun _ => 0, fun _ => 0, h0, by omega, fun j hj => absurd hj (by omega), fun j hj => absurd hj (by omega)⟩
  · simp at h0
    have hmn : len ≤ m := by rw [hm]; split <;> omega
    refine ⟨some a, len, c', fun j => bitsOf (V0 j), fun j => bitsOf (V1 j), h0, by unfold maxLen at hcm; omega, fun j hj => ?_, fun j hj => ?_⟩
    all_goals
      obtain ⟨g0, g1, t0, t1⟩ := hcells j (by omega)
      obtain ⟨b0, e0, -, w0⟩ := trod_float Try.underlying73 t0
      obtain ⟨b1, e1, -, w1⟩ := trod_float Try.underlying73 t1
      simp at e0 e1
    rotate_left
    · simp only [e0, e1, bitsOf]; exact ⟨w0, w1⟩
    refine ⟨a, rfl, ?_, by simp only [g0, e0, bitsOf], by simp only [g1, e1, bitsOf]⟩
    have := block_lt_of_cell g0
    rwa [block_add] at this
set_option maxRecDepth 100000 in
theorem cells_roads {fuel : Nat} {c : Value} {q : DataW H × List MemPlace} (hf : DataW.trod enc Try.prog w base spare held fuel 23 [c] = some q) :
    ∃ A n cap a b l, c = .slice A n cap ∧ n ≤ 9223372036854775807 ∧ RdArg w A n a b l := by
  rcases open_slice Try.underlying23 hf with ⟨h0, -⟩ | ⟨a, len, cap, m, k, D, Pl, h0, -, hl, hcm, hmm, -, hx⟩
  · simp at h0
    exact ⟨none, 0, 0, fun _ => 0, fun _ => 0, fun _ => 0, h0, by omega, fun j hj => absurd hj (by omega)⟩
  · simp at h0
    have hmn : len ≤ m := by rw [hmm]; split <;> omega
    have each : ∀ j, j < len → ∃ z : Int × Int × Int, a.block < w.heap.size ∧ w.cell? (a.add (j * 3)) = some (.int .i64 z.1) ∧ w.cell? (a.add (j * 3 + 1)) = some (.int .i64 z.2.1) ∧ w.cell? (a.add (j * 3 + 2)) = some (.int .i64 z.2.2) := by
      intro j hj
      obtain ⟨cs', h1, h2⟩ := hx j (by omega)
      rw [cellsOfRoad'] at h1
      obtain ⟨_, hlen, hcell⟩ := World.cells?_some h1
      obtain ⟨v0, v1, v2, rfl⟩ := list3' hlen
      obtain ⟨-, n, xs, -, hm'⟩ := trod_fields Try.underlying83 h2
      obtain ⟨y0, ys0, t0, hm0, -⟩ := mapM_cons_some hm'
      obtain ⟨y1, ys1, t1, hm1, -⟩ := mapM_cons_some hm0
      obtain ⟨y2, ys2, t2, hm2, -⟩ := mapM_cons_some hm1
      simp [cellsOfI64'] at t0 t1 t2
      obtain ⟨k0, e0, -, -⟩ := DataW.trod_int Try.underlying2 t0
      obtain ⟨k1, e1, -, -⟩ := DataW.trod_int Try.underlying2 t1
      obtain ⟨k2, e2, -, -⟩ := DataW.trod_int Try.underlying2 t2
      simp at e0 e1 e2
      subst e0 e1 e2
      have g0 := hcell 0 (by decide)
      have g1 := hcell 1 (by decide)
      have g2 := hcell 2 (by decide)
      rw [add_add] at g0 g1 g2
      have hb := block_lt_of_cell g0
      rw [block_add] at hb
      exact ⟨(k0, k1, k2), hb, by simpa using g0, by simpa using g1, by simpa using g2⟩
    obtain ⟨z, hz⟩ := choose_lt each
    exact ⟨some a, len, cap, fun j => (z j).1, fun j => (z j).2.1, fun j => (z j).2.2, h0, by unfold maxLen at hcm; omega, fun j hj => ⟨a, rfl, (hz j hj).1, (hz j hj).2.1, (hz j hj).2.2.1, (hz j hj).2.2.2⟩⟩
set_option maxRecDepth 100000 in
theorem open_net {r : Reach} {b0 : Nat} {v : Value} {d : DataW H} {p : List MemPlace} (hv : Value.okWide Try.prog w r b0 25 v) (h : DataW.Trod enc Try.prog w base spare held 25 v d p) :
    ∃ A n cap x y R m cap' a b l, v = .agg #[.slice A n cap, .slice R m cap'] ∧ n ≤ 9223372036854775807 ∧ m ≤ 9223372036854775807 ∧ PlArg w A n x y ∧ RdArg w R m a b l ∧ ∀ j, j < n → (Lit.float .f32 (x j)).wf = true ∧ (Lit.float .f32 (y j)).wf = true := by
  obtain ⟨cs, rfl, fuel, q, hf⟩ := open_struct Try.underlying25 hv h
  obtain ⟨hl, n, xs, rfl, hm⟩ := trod_fields Try.underlying25 hf
  rw [cellsOfNet'] at hl
  obtain ⟨c0, c1, hcs⟩ := list2' hl
  obtain rfl : cs = #[c0, c1] := by cases cs; simp_all
  obtain ⟨y0, ys0, h0, hm0, -⟩ := mapM_cons_some hm
  obtain ⟨y1, ys1, h1, hm1, -⟩ := mapM_cons_some hm0
  simp [cellsOfPls', cellsOfRds'] at h0 h1
  obtain ⟨A, n', cap, x, y, rfl, hn, hA, hwf⟩ := cells_places h0
  obtain ⟨R, m, cap', a, b, l, rfl, hm', hR⟩ := cells_roads h1
  exact ⟨A, n', cap, x, y, R, m, cap', a, b, l, rfl, hn, hm', hA, hR, hwf⟩
end
end Go.Proofs.Ytpmeccjfjjklkaa
