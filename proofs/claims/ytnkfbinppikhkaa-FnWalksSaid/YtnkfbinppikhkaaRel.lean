/- Contracts whose results are known up to a relation, and the steps of a region whose order is open. No condition. -/
import Derived.Test.YtnkfbinppikhkaaLoose
import Derived.Test.YtnkfbinppikhkaaFloat
namespace Go.Proofs.Ytnkfbinppikhkaa
open Go.RowKit

/-- Returns a value of R; nothing that was there has turned. -/
def Ret (R : Value → Prop) (w : World) (e : Ending) (w' : World) : Prop := (∃ v, e = .returned v ∧ R v) ∧ Below w.heap.size w w'
/-- Of 32-bit numbers the bits fit. -/
def okf (k : FloatKind) (r : Nat) : Prop := k = .f32 → (Lit.float .f32 r).wf = true
theorem okf_of {k : FloatKind} {r : Nat} (h : (Lit.float k r).wf = true) : okf k r := fun e => e ▸ h
theorem okf64 {r : Nat} : okf .f64 r := fun e => by cases e
/-- A float of canonical bits X. -/
def RF (k : FloatKind) (X : Nat) (v : Value) : Prop := ∃ r, v = .float k r ∧ cn k r = X ∧ okf k r
def RV (u v : Value) : Prop := v = u

section rel
variable {P : Program} {ops : Array Oper} {w0 : World} {Q : Act → List New → Prop} {o : Oper} {l : List Oper} {S : List Item'} {a : Act} {acc : List New}
theorem rel_stepS (R : Value → Prop) (hg : o.guard = none) (h1 : ∀ w, Below w0.heap.size w0 w → seen ops o acc w → relUpon P w R ((execOp a.eval o).run P w)) (h2 : ∀ v, R v → wpRel P ops w0 Q l S (a.put o.dst v) acc) :
    wpRel P ops w0 Q (o :: l) ((none, R) :: S) a acc := by
  unfold wpRel
  rw [if_pos (by simp [Region.wanted, hg])]
  exact ⟨h1, h2⟩
theorem rel_step (R : Value → Prop) (hg : o.guard = none) (h1 : ∀ w, Below w0.heap.size w0 w → relUpon P w R ((execOp a.eval o).run P w)) (h2 : ∀ v, R v → wpRel P ops w0 Q l S (a.put o.dst v) acc) :
    wpRel P ops w0 Q (o :: l) ((none, R) :: S) a acc := rel_stepS R hg (fun w hb _ => h1 w hb) h2
theorem rel_want (R : Value → Prop) (hw : Region.wanted o (yielded ops a.tmps) = true) (h1 : ∀ w, Below w0.heap.size w0 w → relUpon P w R ((execOp a.eval o).run P w)) (h2 : ∀ v, R v → wpRel P ops w0 Q l S (a.put o.dst v) acc) :
    wpRel P ops w0 Q (o :: l) ((none, R) :: S) a acc := by
  unfold wpRel
  rw [if_pos hw]
  exact ⟨fun w hb _ => h1 w hb, h2⟩
theorem rel_skip (R : Value → Prop) (hw : Region.wanted o (yielded ops a.tmps) = false) (h2 : wpRel P ops w0 Q l S (a.put o.dst undef) acc) :
    wpRel P ops w0 Q (o :: l) ((none, R) :: S) a acc := by
  unfold wpRel
  rw [if_neg (by rw [hw]; decide)]
  exact ⟨rfl, h2⟩
/-- A new block: kd = 0: its pointer; n + 1: a slice of n elements. -/
theorem rel_new (R : Value → Prop) (kd : Nat) (ob : Obj) (hg : o.guard = none) (h1 : ∀ w, Below w0.heap.size w0 w → (execOp a.eval o).run P w = .ok (.value (nv kd w.heap.size)) (w.alloc ob))
    (h2 : ∀ b, w0.heap.size ≤ b → wpRel P ops w0 Q l S (a.put o.dst (nv kd b)) ((o.dst, kd, nv kd b, ob) :: acc)) :
    wpRel P ops w0 Q (o :: l) ((some (kd, ob), R) :: S) a acc := by
  unfold wpRel
  rw [if_pos (by simp [Region.wanted, hg])]
  exact ⟨fun w hb _ => h1 w hb, fun v ⟨b, hb, e⟩ => by subst e; exact h2 b hb⟩
/-- An operation of one value, known outside. -/
theorem rel_val (val : Value) (hg : o.guard = none) (h1 : ∀ w, Below w0.heap.size w0 w → (execOp a.eval o).run P w = .ok (.value val) w) (h2 : wpRel P ops w0 Q l S (a.put o.dst val) acc) :
    wpRel P ops w0 Q (o :: l) ((none, RV val) :: S) a acc :=
  rel_step (RV val) hg (fun w hb => by rw [h1 w hb]; exact ⟨Below.refl _ _, rfl⟩) fun v hv => by rw [show v = val from hv]; exact h2
/-- An operation of one value, of which R is said. -/
theorem rel_of (R : Value → Prop) (val : Value) (hR : R val) (hg : o.guard = none) (h1 : ∀ w, Below w0.heap.size w0 w → (execOp a.eval o).run P w = .ok (.value val) w) (h2 : ∀ v, R v → wpRel P ops w0 Q l S (a.put o.dst v) acc) :
    wpRel P ops w0 Q (o :: l) ((none, R) :: S) a acc :=
  rel_step R hg (fun w hb => by rw [h1 w hb]; exact ⟨Below.refl _ _, hR⟩) h2
/-- Arithmetic of floats. -/
theorem rel_farith (op : BinOp) (t t2 : TypeId) (X Y : Operand) (ho : o.op = .binOp op t X Y t2) (hg : o.guard = none) (hop : isArith op = true) (k : FloatKind) (x y x' y' : Nat) (hX : a.eval X = .float k x) (hY : a.eval Y = .float k y) (hx : cn k x = x') (hy : cn k y = y')
    (h2 : ∀ r, cn k r = fop op k x' y' → okf k r → wpRel P ops w0 Q l S (a.put o.dst (.float k r)) acc) :
    wpRel P ops w0 Q (o :: l) ((none, RF k (fop op k x' y')) :: S) a acc :=
  rel_step _ hg (fun w _ => by
    obtain ⟨r, n, e, hr, hw⟩ := run_farith (P := P) op hop t k x y w
    have he : eqGuard op t X Y (Value.float k x) (Value.float k y) = pure () := by cases op <;> simp only [isArith, Bool.false_eq_true] at hop <;> rfl
    have : (execOp a.eval o).run P w = .ok (.value (.float k r)) (w.drewN n) := by
      unfold execOp
      rw [ho]
      simp only [hX, hY, he, Sem.run_bind, Sem.run_pure, Result.andThen_ok, e]
    rw [this]
    exact ⟨below_dN (Below.refl _ _), r, rfl, by rw [hr, hx, hy], okf_of hw⟩) fun v ⟨r, e, hr, hw⟩ => by subst e; exact h2 r hr hw
/-- A call, by its contract. -/
theorem rel_call (R : Value → Prop) (f : FuncId) (args : Array Value) (hg : o.guard = none) (h1 : ∀ w, Below w0.heap.size w0 w → (execOp a.eval o).run P w = .ok (.enter f args) w) (hc : ∀ w, Below w0.heap.size w0 w → Calls P f args w (Ret R w)) (h2 : ∀ v, R v → wpRel P ops w0 Q l S (a.put o.dst v) acc) :
    wpRel P ops w0 Q (o :: l) ((none, R) :: S) a acc :=
  rel_step R hg (fun w hb => by
    rw [h1 w hb]
    exact ⟨rfl, (hc w hb).mono fun e w' ⟨⟨v, he, hv⟩, hb'⟩ => ⟨hb', v, he, hv⟩⟩) h2
/-- A call that reads new blocks. -/
theorem rel_callS (R : Value → Prop) (f : FuncId) (args : Array Value) (hg : o.guard = none) (h1 : ∀ w, Below w0.heap.size w0 w → (execOp a.eval o).run P w = .ok (.enter f args) w) (hc : ∀ w, Below w0.heap.size w0 w → seen ops o acc w → Calls P f args w (Ret R w)) (h2 : ∀ v, R v → wpRel P ops w0 Q l S (a.put o.dst v) acc) :
    wpRel P ops w0 Q (o :: l) ((none, R) :: S) a acc :=
  rel_stepS R hg (fun w hb hs => by
    rw [h1 w hb]
    exact ⟨rfl, (hc w hb hs).mono fun e w' ⟨⟨v, he, hv⟩, hb'⟩ => ⟨hb', v, he, hv⟩⟩) h2
end rel
/-- A region whose order is open; what comes behind it is kept apart. -/
theorem region_looseK {P : Program} {Q : Exit → Act → World → Prop} {id : Nat} {a : Act} {w : World} {l : List Oper} (S : List Item') (k : Nat) (hm : P.follows .mixedOrders = true) (hB : (looseB l.toArray k && decide (k ≤ l.length)) = true)
    (h : ∀ (ops : Array Oper) (K : Act → List New → Prop), ops = l.toArray → (∀ a' acc, (∀ w1, Below w.heap.size w w1 → news w1 acc → wpList P l.toArray Q (l.drop k) a' w1) → K a' acc) → wpRel P ops w K (l.take k) S a []) : (Code.region id l.toArray true).wp P Q a w :=
  region_loose S k hm hB (h _ _ rfl fun _ _ h => h)
theorem wpRel_nil {P : Program} {ops : Array Oper} {w0 : World} {K : Act → List New → Prop} {a : Act} {acc : List New} (h : K a acc) : wpRel P ops w0 K [] [] a acc := h
theorem Ret.of_same {R : Value → Prop} {P : Program} {f : FuncId} {args : Array Value} {w : World} {v : Value} (h : Calls P f args w fun e w' => e = .returned v ∧ w = w') (hv : R v) : Calls P f args w (Ret R w) :=
  h.mono fun _ _ ⟨he, hw⟩ => ⟨⟨v, he, hv⟩, hw ▸ Below.refl _ _⟩
theorem Ret.of_below {R : Value → Prop} {P : Program} {f : FuncId} {args : Array Value} {w : World} {v : Value} (h : Calls P f args w fun e w' => e = .returned v ∧ Below w.heap.size w w') (hv : R v) : Calls P f args w (Ret R w) :=
  h.mono fun _ _ ⟨he, hw⟩ => ⟨⟨v, he, hv⟩, hw⟩
end Go.Proofs.Ytnkfbinppikhkaa
