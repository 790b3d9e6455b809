/- Grids: made, counted, held against each other, marked, and whether they are valid. No condition. -/
import Derived.Test.YtnkfbinppikhkaaInn
import Derived.Test.YtnkfbinppikhkaaGI
import Derived.Deep.SlicePairs
namespace Go.Proofs.Ytnkfbinppikhkaa
open Go.RowKit
set_option linter.unusedSimpArgs false
theorem feq_self (k : FloatKind) (x : Nat) : feq k x x = !nanB k x := by
  unfold feq nanB Ieee.Format.order
  cases e : k.format.read x with
  | nan s f => rfl
  | infinity s => cases s <;> rfl
  | number s m p => simp [Ieee.Datum.order, Ieee.Datum.isNaN]
theorem block_add (a : Addr) (n : Nat) : (a.add n).block = a.block := by unfold Addr.add; split <;> rfl
theorem add_one_eq (a : Addr) (n : Nat) : (⟨(a.add n).block, (a.add n).off + 1, none⟩ : Addr) = a.add (n + 1) := by
  rw [← Go.Deep.add_add]
  rfl
theorem rowIs_below {w w' : World} {B b : Nat} {t : TypeId} {n : Nat} {f : Nat → Value} (h : w.rowIs b t n f) (hb : Below B w w') (hlt : b < B) : w'.rowIs b t n f := h.of_block (hb.block b hlt)
theorem make_rows {P : Program} (t e : TypeId) (z : Value) (s bytes : Nat) (ht : P.underlying t = some (.slice e)) (hinfo : (P.info? e).map (fun i => (i.zero, i.size, i.bytes)) = some (some z, s, bytes))
    (n : Nat) (hb : bytes * n ≤ 281474976710656) (hn : n ≤ 9223372036854775807) (w : World) :
    (Instr.makeSlice t (.int .i64 (n : Int)) (.int .i64 (n : Int))).run P w = .ok (.slice (some ⟨w.heap.size, 0, none⟩) n n) (w.alloc (.cells (madeCells z.cells (n * s)) e)) := by
  obtain ⟨i, hi, hzz⟩ := Option.map_eq_some_iff.1 hinfo
  simp only [Prod.mk.injEq] at hzz
  obtain ⟨hz, hs, hby⟩ := hzz
  have hb' : (i.bytes : Int) * (n : Int) ≤ 281474976710656 := by
    rw [hby, ← Int.natCast_mul]; omega
  have hr := run_make (P := P) w t e i z ht hi hz .i64 .i64 n n (by omega) (Int.le_refl _) hb' (by omega)
  simpa only [Int.toNat_natCast, hs] using hr
theorem made1w (w : World) (n : Nat) (z : Value) (t : TypeId) : (w.alloc (.cells (madeCells #[z] n) t)).rowIs w.heap.size t n (fun _ => z) :=
  ⟨_, heap_alloc_new _ _, size_madeCells _ _, fun i hi => by
    simp only [madeCells, Array.getElem?_map, Array.getElem?_range, hi, if_true, Option.map_some]
    simp [Nat.mod_one]⟩
/-- A conversion to the wider kind, in a region of open order. -/
theorem rel_fconv {P : Program} {ops : Array Oper} {l : List Oper} {o : Oper} {a : Act} {w0 : World} {Q : Act → List New → Prop} {S : List Item'} {acc : List New} (src dst : TypeId) (X : Operand) (ho : o.op = .convert src dst X) (hg : o.guard = none) (k k' : FloatKind) (x x' : Nat) (hX : a.eval X = .float k x) (hk : k ≠ k') (hs : P.underlying src = some (.float k)) (hd : P.underlying dst = some (.float k')) (hx : cn k x = x') (hf : fits k k' x')
    (h2 : ∀ r, cn k' r = fcv k k' x' → okf k' r → wpRel P ops w0 Q l S (a.put o.dst (.float k' r)) acc) :
    wpRel P ops w0 Q (o :: l) ((none, RF k' (fcv k k' x')) :: S) a acc :=
  rel_step _ hg (fun w _ => by
    obtain ⟨r, n, e, hr⟩ := run_fconv (P := P) src dst k k' hk hs hd x w
    rw [hx] at hr
    have : (execOp a.eval o).run P w = .ok (.value (.float k' r)) (w.drewN n) := by
      unfold execOp
      rw [ho]
      simp only [hX, Sem.run_bind, Sem.run_pure, Result.andThen_ok, e]
    rw [this]
    exact ⟨below_dN (Below.refl _ _), r, rfl, (hr hf).1, okf_of (hr hf).2⟩) fun v ⟨r, e, hr, hw⟩ => by subst e; exact h2 r hr hw
/-- What an argument reads as. -/
def FlArg (w : World) (A : Option Addr) (n : Nat) (x : Nat → Nat) : Prop := ∀ j, j < n → ∃ a, A = some a ∧ a.block < w.heap.size ∧ w.cell? (a.add j) = some (.float .f32 (x j))
theorem FlArg.below {w w' : World} {A : Option Addr} {n : Nat} {x : Nat → Nat} (h : FlArg w A n x) (hb : Below w.heap.size w w') : FlArg w' A n x := fun j hj => by
  obtain ⟨a, e, h0, h1⟩ := h j hj
  exact ⟨a, e, Nat.lt_of_lt_of_le h0 hb.size, (hb.cell (p := a.add j) (by rw [block_add]; exact h0)).trans h1⟩
/-- A row of numbers. -/
def FlBlk (w : World) (b n : Nat) (x : Nat → Nat) : Prop := w.rowIs b 36 n (fun i => .float .f32 (x i))
def FlCells (w : World) (b n : Nat) (X : Nat → Nat) : Prop := ∀ j, j < n → ∃ r, w.cell? ⟨b, j, none⟩ = some (.float .f32 r) ∧ cn .f32 r = X j
def canon (x : Nat → Nat) (j : Nat) : Nat := cn .f32 (x j)
theorem FlBlk.canon {w : World} {b n : Nat} {x : Nat → Nat} (h : FlBlk w b n x) : FlCells w b n (canon x) := fun _ hj => ⟨_, World.rowIs.cell h hj, rfl⟩
theorem FlBlk.lt {w : World} {b n : Nat} {x : Nat → Nat} (h : FlBlk w b n x) : b < w.heap.size := World.rowIs.lt h
theorem FlBlk.dn {w w' : World} {b n : Nat} {x : Nat → Nat} (h : FlBlk w b n x) (hb : Below w.heap.size w w') : FlBlk w' b n x := rowIs_below h hb (World.rowIs.lt h)
theorem FlBlk.other {w : World} {b n : Nat} {x : Nat → Nat} (h : FlBlk w b n x) {c i : Nat} (hne : b ≠ c) (z : Value) : FlBlk (w.setCell ⟨c, i, none⟩ z) b n x := World.rowIs.setOther h (a := ⟨c, i, none⟩) hne z
theorem FlCells.dn {w w' : World} {b n : Nat} {X : Nat → Nat} (h : FlCells w b n X) (hl : b < w.heap.size) (hb : Below w.heap.size w w') : FlCells w' b n X := fun j hj => by
  obtain ⟨r, h1, h2⟩ := h j hj
  exact ⟨r, (hb.cell (p := ⟨b, j, none⟩) hl).trans h1, h2⟩
def fls (x : Nat → Nat) (k i : Nat) : Value := if i < k then .float .f32 (x i) else .float .f32 0
theorem fls_step {x : Nat → Nat} {k i : Nat} : fls x (k + 1) i = if i = k then .float .f32 (x k) else fls x k i := by
  unfold fls
  by_cases e : i = k
  · subst e; rw [if_pos (by omega), if_pos rfl]
  · rw [if_neg e]
    by_cases e2 : i < k
    · rw [if_pos e2, if_pos (by omega)]
    · rw [if_neg e2, if_neg (by omega)]
-- left out here: toF32S_c
-- left out here: sameFloat_c
def Keep1 (g : Nat) (w w' : World) : Prop := ∀ b, b < w.heap.size → b ≠ g → w'.heap[b]? = w.heap[b]?
theorem Keep1.refl (g : Nat) (w : World) : Keep1 g w w := fun _ _ _ => rfl
theorem Keep1.set {g i : Nat} {w w' : World} (h : Keep1 g w w') (z : Value) : Keep1 g w (w'.setCell ⟨g, i, none⟩ z) := fun b hb hne => (Below.heap_setCell _ _ _ _ hne).trans (h b hb hne)
-- left out here: markF32S_c
-- left out here: szGrid_c
-- left out here: eqF32S_c
end Go.Proofs.Ytnkfbinppikhkaa
