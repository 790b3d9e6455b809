/- Slices of complex numbers. No condition. -/
import Derived.Test.YtnkfbinppikhkaaWCx
import Derived.Test.YtnkfbinppikhkaaGI
import Derived.Test.YtnkfbinppikhkaaGr
namespace Go.Proofs.Ytnkfbinppikhkaa
open Go.RowKit
set_option linter.unusedSimpArgs false
@[go_sem] theorem run_store_complex {P : Program} {w : World} (a : Addr) (k : FloatKind) (x y : Nat) (m : Mode) : (store a (.complex k x y) m).run P w = stored P w a (.complex k x y) m := run_store P w a _ m rfl
/-- A conversion of a float, as the model runs it inside. -/
theorem run_ff {P : Program} (k k' : FloatKind) (hk : k ≠ k') (src dst : TypeId) (hs : P.underlying src = some (.float k)) (hd : P.underlying dst = some (.float k')) (x : Nat) (w : World) :
    ∃ r n, (Conv.floatToFloat k x k').run P w = .ok (.float k' r) (w.drewN n) ∧ (fits k k' (cn k x) → cn k' r = fcv k k' (cn k x) ∧ (Lit.float k' r).wf = true) := by
  obtain ⟨r, n, e, h⟩ := run_fconv (P := P) src dst k k' hk hs hd x w
  refine ⟨r, n, ?_, h⟩
  rw [← e]
  simp [convert, run_underlying hs, run_underlying hd]
theorem run_cconv {P : Program} (src dst fs fd : TypeId) (k k' : FloatKind) (hk : k ≠ k') (hs : P.underlying src = some (.complex k)) (hd : P.underlying dst = some (.complex k')) (gs : P.underlying fs = some (.float k)) (gd : P.underlying fd = some (.float k')) (a b : Nat) (w : World) (hfa : fits k k' (cn k a)) (hfb : fits k k' (cn k b)) :
    ∃ a' b' n, (convert src dst (.complex k a b)).run P w = .ok (.complex k' a' b') (w.drewN n) ∧ cn k' a' = fcv k k' (cn k a) ∧ cn k' b' = fcv k k' (cn k b) ∧ (Lit.float k' a').wf = true ∧ (Lit.float k' b').wf = true := by
  obtain ⟨a', n1, e1, h1⟩ := run_ff k k' hk fs fd gs gd a w
  obtain ⟨b', n2, e2, h2⟩ := run_ff k k' hk fs fd gs gd b (w.drewN n1)
  refine ⟨a', b', n1 + n2, ?_, (h1 hfa).1, (h2 hfb).1, (h1 hfa).2, (h2 hfb).2⟩
  have e : (convert src dst (.complex k a b)).run P w = (Conv.complexToComplex k a b k').run P w := by simp [convert, run_underlying hs, run_underlying hd]
  rw [e]
  unfold Conv.complexToComplex
  simp [e1, e2]
/-- A complex number of 64 bits each of canonical bits X, Y. -/
def RD (X Y : Nat) (v : Value) : Prop := ∃ a b, v = .complex .f64 a b ∧ cn .f64 a = X ∧ cn .f64 b = Y
theorem rel_cconv {P : Program} {ops : Array Oper} {l : List Oper} {o : Oper} {a : Act} {w0 : World} {Q : Act → List New → Prop} {S : List Item'} {acc : List New} (src dst fs fd : TypeId) (X : Operand) (ho : o.op = .convert src dst X) (hg : o.guard = none) (p q p' q' : Nat) (hX : a.eval X = .complex .f32 p q) (hs : P.underlying src = some (.complex .f32)) (hd : P.underlying dst = some (.complex .f64)) (gs : P.underlying fs = some (.float .f32)) (gd : P.underlying fd = some (.float .f64)) (hp : cn .f32 p = p') (hq : cn .f32 q = q')
    (h2 : ∀ r s, cn .f64 r = fcv .f32 .f64 p' → cn .f64 s = fcv .f32 .f64 q' → wpRel P ops w0 Q l S (a.put o.dst (.complex .f64 r s)) acc) :
    wpRel P ops w0 Q (o :: l) ((none, RD (fcv .f32 .f64 p') (fcv .f32 .f64 q')) :: S) a acc :=
  rel_step _ hg (fun w _ => by
    obtain ⟨r, s, n, e, h1, h2, -, -⟩ := run_cconv (P := P) src dst fs fd .f32 .f64 (by decide) hs hd gs gd p q w (fits_wide _) (fits_wide _)
    rw [hp] at h1
    rw [hq] at h2
    have : (execOp a.eval o).run P w = .ok (.value (.complex .f64 r s)) (w.drewN n) := by
      unfold execOp
      rw [ho]
      simp only [hX, Sem.run_bind, Sem.run_pure, Result.andThen_ok, e]
    rw [this]
    exact ⟨below_dN (Below.refl _ _), r, s, rfl, h1, h2⟩) fun v ⟨r, s, e, hr, hs⟩ => by subst e; exact h2 r s hr hs
-- left out here: sameComplex_c
/-- Complex numbers that can be read. -/
def CxArg (w : World) (A : Option Addr) (n : Nat) (X Y : Nat → Nat) : Prop := ∀ j, j < n → ∃ g, A = some ⟨g, 0, none⟩ ∧ g < w.heap.size ∧ ∃ a b, w.cell? ⟨g, j, none⟩ = some (.complex .f32 a b) ∧ cn .f32 a = X j ∧ cn .f32 b = Y j
theorem CxArg.below {w w' : World} {A : Option Addr} {n : Nat} {X Y : Nat → Nat} (h : CxArg w A n X Y) (hb : Below w.heap.size w w') : CxArg w' A n X Y := fun j hj => by
  obtain ⟨g, e, h0, a, b, h1, h2⟩ := h j hj
  exact ⟨g, e, Nat.lt_of_lt_of_le h0 hb.size, a, b, (hb.cell (p := ⟨g, j, none⟩) h0).trans h1, h2⟩
-- left out here: eqC64_c
theorem raw_ofX {k : FloatKind} {r Y : Nat} (hn : nanB k Y = false) (h : cn k r = Y) : r = Y := by
  cases hb : nanB k r
  · rw [cn_of hb] at h; exact h
  · rw [cn_nan hb] at h; rw [← h, nanB_qn] at hn; cases hn
/-- What the k-th mark reads as. -/
def mC (k : Nat) : Nat := fcv .f64 .f32 (fofI .f64 (k : Int))
def mcB (k : Nat) : Bool := match FloatKind.f64.format.read (fofI .f64 (k : Int)) with
  | .number s m p => !(FloatKind.f32.format.read (FloatKind.f32.format.write (.number s m p))).isInfinity && !nanB .f32 (mC k) && feq .f32 (mC k) (mC k) && cn .f64 (fofI .f64 (k : Int)) == fofI .f64 (k : Int)
  | _ => false
theorem mc_all : ∀ k : Fin 1500, mcB k.val = true := by decide +kernel
theorem mc_facts {k : Nat} (h : k < 1500) : fits .f64 .f32 (fofI .f64 (k : Int)) ∧ nanB .f32 (mC k) = false ∧ feq .f32 (mC k) (mC k) = true ∧ cn .f64 (fofI .f64 (k : Int)) = fofI .f64 (k : Int) := by
  have h1 := mc_all ⟨k, h⟩
  unfold mcB at h1
  simp only at h1
  cases e : FloatKind.f64.format.read (fofI .f64 (k : Int)) with
  | number s m p =>
    rw [e] at h1
    simp only [Bool.and_eq_true, Bool.not_eq_true', beq_iff_eq] at h1
    exact ⟨fun s' m' p' e' => by rw [e] at e'; cases e'; exact h1.1.1.1, h1.1.1.2, h1.1.2, h1.2⟩
  | nan s f => rw [e] at h1; cases h1
  | infinity s => rw [e] at h1; cases h1
theorem one_fits : fits .f64 .f32 4607182418800017408 := by
  intro s m p e
  have h : FloatKind.f64.format.read 4607182418800017408 = .number s m p := e
  have h2 : (match FloatKind.f64.format.read 4607182418800017408 with
    | .number s m p => !(FloatKind.f32.format.read (FloatKind.f32.format.write (.number s m p))).isInfinity
    | _ => true) = true := by decide +kernel
  rw [h] at h2
  simpa using h2
/-- A mark, made. -/
theorem mark_run {P : Program} (src dst fs fd : TypeId) (hs : P.underlying src = some (.complex .f64)) (hd : P.underlying dst = some (.complex .f32)) (gs : P.underlying fs = some (.float .f64)) (gd : P.underlying fd = some (.float .f32)) {k : Nat} (hk : k < 1500) : ∃ nf : World → Nat, ∀ w, (convert src dst (.complex .f64 (fofI .f64 (k : Int)) 4607182418800017408)).run P w = .ok (.complex .f32 (mC k) 1065353216) (w.drewN (nf w)) := by
  obtain ⟨f1, f2, -, f4⟩ := mc_facts hk
  have o1 : cn .f64 4607182418800017408 = 4607182418800017408 := by decide +kernel
  have o2 : nanB .f32 1065353216 = false := by decide +kernel
  have o3 : fcv .f64 .f32 4607182418800017408 = 1065353216 := by decide +kernel
  have hx : ∀ w, ∃ n, (convert src dst (.complex .f64 (fofI .f64 (k : Int)) 4607182418800017408)).run P w = .ok (.complex .f32 (mC k) 1065353216) (w.drewN n) := fun w => by
    obtain ⟨a, b, n, e, h1, h2, -, -⟩ := run_cconv (P := P) src dst fs fd .f64 .f32 (by decide) hs hd gs gd (fofI .f64 (k : Int)) 4607182418800017408 w (by rw [f4]; exact f1) (by rw [o1]; exact one_fits)
    rw [f4] at h1
    rw [o1, o3] at h2
    obtain rfl := raw_ofX f2 h1
    obtain rfl := raw_ofX o2 h2
    exact ⟨n, e⟩
  exact ⟨fun w => (hx w).choose, fun w => (hx w).choose_spec⟩
theorem below_lodN {lo k : Nat} {w w' : World} (h : Below lo w w') : Below lo w (w'.drewN k) := ⟨h.os, h.tape, h.output, h.size, h.block⟩
/-- A slice of complex numbers that may be written. -/
def CArr (w : World) (lo : Nat) (v : Value) (n : Nat) (X Y : Nat → Nat) : Prop := (n = 0 ∧ v = .slice none 0 0) ∨ ∃ g cap F, v = .slice (some ⟨g, 0, none⟩) n cap ∧ lo ≤ g ∧ w.rowIs g 32 cap F ∧ n ≤ cap ∧ ∀ j, j < n → ∃ a b, F j = .complex .f32 a b ∧ cn .f32 a = X j ∧ cn .f32 b = Y j
/-- .. that has been marked. -/
def MArr (w : World) (lo : Nat) (v : Value) (n : Nat) : Prop := (n = 0 ∧ v = .slice none 0 0) ∨ ∃ g cap F, v = .slice (some ⟨g, 0, none⟩) n cap ∧ lo ≤ g ∧ w.rowIs g 32 cap F ∧ n ≤ cap ∧ ∀ j, j < n → F j = .complex .f32 (mC (1 + j)) 1065353216
theorem CArr.below {w w' : World} {lo n : Nat} {v : Value} {X Y : Nat → Nat} (h : CArr w lo v n X Y) (hb : Below w.heap.size w w') : CArr w' lo v n X Y := h.imp id (fun ⟨g, cap, F, e, h1, h2, h3⟩ => ⟨g, cap, F, e, h1, h2.of_block (hb.block g h2.lt), h3⟩)
theorem MArr.below {w w' : World} {lo n : Nat} {v : Value} (h : MArr w lo v n) (hb : Below w.heap.size w w') : MArr w' lo v n := h.imp id (fun ⟨g, cap, F, e, h1, h2, h3⟩ => ⟨g, cap, F, e, h1, h2.of_block (hb.block g h2.lt), h3⟩)
theorem CArr.arg {w : World} {lo n : Nat} {v : Value} {X Y : Nat → Nat} (h : CArr w lo v n X Y) : ∃ A c, v = .slice A n c ∧ CxArg w A n X Y := by
  rcases h with ⟨rfl, rfl⟩ | ⟨g, cap, F, rfl, -, h2, h3, h4⟩
  · exact ⟨none, 0, rfl, fun j hj => absurd hj (by omega)⟩
  · exact ⟨_, _, rfl, fun j hj => by
      obtain ⟨a, b, e1, e2, e3⟩ := h4 j hj
      exact ⟨g, rfl, h2.lt, a, b, by rw [← e1]; exact h2.cell (by omega), e2, e3⟩⟩
-- left out here: eqC64
-- left out here: markC1
-- left out here: heldC1
end Go.Proofs.Ytnkfbinppikhkaa
