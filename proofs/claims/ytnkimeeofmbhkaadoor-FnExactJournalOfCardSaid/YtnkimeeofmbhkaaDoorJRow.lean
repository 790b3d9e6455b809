/- What the row of JournalOf leans on: a world that holds the listed variables, their reading, the table of powers, slices of strings. No condition. -/
import Derived.Test.YtnkimeeofmbhkaaDoorRow
import Derived.Test.YtnkimeeofmbhkaaDoorCards
import Derived.Test.YtnkimeeofmbhkaaDoorTie
import Derived.Test.YtnkimeeofmbhkaaDoorJa
import Derived.Lib.LaidIn
import Derived.Lib.LaidTab
import Derived.Deep.DeepHandedRow
import Derived.Deep.DeepWitnessRowRef
import Derived.Deep.Slices
namespace Go.Proofs.YtnkimeeofmbhkaaDoor
open Go.ChangeShapes Go.WideShapes Go.ChangeAt Go.RowKit Go.Joins Go.Deep
def litCells : DataW Unit → Array Value
  | .agg ds => (ds.map fun d => match d with
    | .lit (.int k n) => Value.int k n
    | _ => undef).toArray
  | _ => #[]
/-- A world for the witness: the settled one, the listed variables holding what their text lays. -/
noncomputable def laidWorld (os : Os) : World :=
  let w0 := World.holding Tryd.prog os ⟨#[], #[], []⟩
  let put (h : Array Obj) (g : Nat) (cs : Array Value) : Array Obj := h.modify g fun
    | .cells _ t frozen => .cells cs t frozen
    | o => o
  let h1 := put w0.heap 1 (litCells Rows.laid_internal_strconv_uint64pow10)
  let h2 := put h1 2 (litCells Rows.laid_math_bits_deBruijn32tab)
  let h3 := put h2 3 (litCells Rows.laid_math_bits_deBruijn64tab)
  { w0 with heap := h3 }
theorem laid_met (os : Os) (args : Array Value) : laidMet Tryd.prog Rows.fnExactJournalOfRow.laid ((laidWorld os).forCall (fun _ _ => 0) ⟨#[], args, []⟩).memory :=
  laidMet_of_run' 8 (by kernel_rfl) (by kernel_rfl)
def pow10s : List Int := (List.range 20).map fun i => ((10 ^ i : Nat) : Int)
theorem tb_of {W : World} (hL : laidMet Tryd.prog Rows.fnExactJournalOfRow.laid W) : TB W := by
  obtain ⟨ps, hv, -⟩ := hL
  have hv' : DataW.LaidVars Tryd.prog W [("math/bits.deBruijn32tab", Rows.laid_math_bits_deBruijn32tab), ("math/bits.deBruijn64tab", Rows.laid_math_bits_deBruijn64tab), ("internal/strconv.uint64pow10", Rows.laid_internal_strconv_uint64pow10)] ps := hv
  obtain ⟨g1, t1, cs1, f1, p1, q1, -, -, -, -, hv2, -⟩ := hv'
  obtain ⟨g2, t2, cs2, f2, p2, q2, -, -, -, -, hv3, -⟩ := hv2
  obtain ⟨g, t, cs, fuel, p, q, hg, hty, hvar, hd, -, -⟩ := hv3
  have hg1 : Tryd.prog.globalNamed "internal/strconv.uint64pow10" = some 1 := by kernel_rfl
  have ht1 : (Tryd.prog.globals[1]?).map (·.type) = some 55 := by kernel_rfl
  obtain rfl := Option.some.inj (hg1.symm.trans hg)
  obtain rfl := Option.some.inj (ht1.symm.trans hty)
  have he : (Rows.laid_internal_strconv_uint64pow10 : DataW Unit) = Lib.tabData .u64 pow10s := rfl
  rw [he] at hd
  have hcs := Lib.cells_of_tab Tryd.underlying55 Tryd.underlying49 (by kernel_rfl) (by kernel_rfl) hd
  have hat : ∀ i u, (pow10s.map fun z => Value.int .u64 z)[i]? = some u → W.cell? ⟨1, i, none⟩ = some u := fun i u hu => by
    rw [World.var?_cell hg1 hvar i, ← Array.getElem?_toList, hcs]
    exact hu
  have h2 := hat 2 (.int .u64 100) rfl
  exact ⟨World.block_lt_of_cell? W _ h2, h2, hat 3 (.int .u64 1000) rfl, hat 4 (.int .u64 10000) rfl⟩
section
variable {H : Type} {enc : TypeId × Value → H} {w : World} {base : Nat} {spare : Nat → Bool} {held : Bool}
theorem cellsOfStr : Tryd.prog.cellsOf 9 = 1 := by kernel_rfl
def strOfV : Value → ByteArray
  | .string s => s
  | _ => ⟨#[]⟩
set_option maxRecDepth 100000 in
theorem open_strs {r : Reach} {b0 : Nat} {v : Value} {d : DataW H} {p : List MemPlace} (hv : Value.okWide Tryd.prog w r b0 22 v) (h : DataW.Trod enc Tryd.prog w base spare held 22 v d p) :
    ∃ A n cap S, v = .slice A n cap ∧ n ≤ 9223372036854775807 ∧ (∀ j, j < n → (S j).size ≤ 9223372036854775807) ∧ StrArg w A n S := by
  obtain ⟨A, n, cap, rfl⟩ := okWide_slice Tryd.underlying22 hv
  obtain ⟨fuel, hf⟩ := h
  rcases open_slice1 Tryd.underlying22 cellsOfStr hf with ⟨h0, -⟩ | ⟨a, len, c', m, k, V, D, Pl, h0, -, hlc, hcm, hm, -, hcells⟩
  · simp [Value.cells] at h0
    obtain ⟨rfl, rfl, rfl⟩ := h0
    exact ⟨none, 0, 0, fun _ => ⟨#[]⟩, rfl, by omega, fun j hj => absurd hj (by omega), fun j hj => absurd hj (by omega)⟩
  · simp [Value.cells] at h0
    obtain ⟨rfl, rfl, rfl⟩ := h0
    have hmn : n ≤ m := by rw [hm]; split <;> omega
    have hq : ∀ j, j < n → ∃ s, V j = .string s ∧ s.size ≤ 9223372036854775807 ∧ a.block < w.heap.size ∧ w.cell? (a.add j) = some (.string s) := fun j hj => by
      obtain ⟨g0, t0⟩ := hcells j (by omega)
      obtain ⟨ss, e0, -, hss⟩ := DataW.trod_string Tryd.underlying9 t0
      simp at e0
      have hb := block_lt_of_cell g0
      rw [blk_add] at hb
      exact ⟨ss, e0, by unfold maxLen at hss; omega, hb, by rw [g0, e0]⟩
    refine ⟨some a, n, cap, fun j => strOfV (V j), rfl, by unfold maxLen at hcm; omega, fun j hj => ?_, fun j hj => ?_⟩
    · obtain ⟨s, e, h1, -⟩ := hq j hj
      simp only [e, strOfV]; exact h1
    · obtain ⟨s, e, -, h2, h3⟩ := hq j hj
      exact ⟨a, rfl, h2, by simp only [e, strOfV]; exact h3⟩
end
end Go.Proofs.YtnkimeeofmbhkaaDoor
