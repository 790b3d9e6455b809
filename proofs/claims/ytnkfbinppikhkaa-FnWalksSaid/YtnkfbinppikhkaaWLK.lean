/- The law of walks, cut into parts: what stands behind its n-th statement. No condition. -/
import Derived.Test.YtnkfbinppikhkaaWkX
namespace Go.Proofs.Ytnkfbinppikhkaa
open Go.RowKit Go.Deep
set_option linter.unusedSimpArgs false
set_option linter.unusedVariables false
def seqAt : Nat → Code → Code
  | n + 1, .seq _ b => seqAt n b
  | _, c => c
def bodyOf (f : Func) : Code := match f.body with
  | some c => c
  | none => .skip
/-- What the law ends in. -/
def QW (W : World) : Exit → Act → World → Prop := bodyPost Try.prog Try.f3 fun e w' => e = .returned (.bool true) ∧ Below W.heap.size W w'
/-- Two rows of which the first is near the second. -/
def Near (n : Nat) (X Y : Nat → Nat) (a b : Nat → Int) : Prop := ∀ j, j < n → inn .f32 (fop .sub .f32 (X j) (qz (a j))) (-1/4096) (1/4096) ∧ inn .f32 (fop .sub .f32 (Y j) (qz (b j))) (-1/4096) (1/4096)
theorem qz_diff {u v : Int} (h1 : -16 ≤ u) (h2 : u ≤ 36) (h3 : -16 ≤ v) (h4 : v ≤ 36) : num .f32 (fop .sub .f32 (qz u) (qz v)) ∧ fv .f32 (fop .sub .f32 (qz u) (qz v)) = ((u - v : Int) : Rat) / 4 := by
  obtain ⟨n1, v1⟩ := qz_val h1 h2
  obtain ⟨n2, v2⟩ := qz_val h3 h4
  have s := (sub_rd n1 n2).same (isf_g ((u - v) * 8192) (by omega) (by rw [v1, v2]; push_cast; grind))
  exact ⟨s.1, by rw [s.2, v1, v2]; push_cast; grind⟩
/-- A closed walk, its end given: what its numbers are. -/
theorem cl_num {n : Nat} {a b : Nat → Int} (h : Mk n a b) {z c u : Int} (hz1 : -16 ≤ z) (hz2 : z ≤ 36) (hc1 : -16 ≤ c) (hc2 : c ≤ 36) (hu1 : -16 ≤ u) (hu2 : u ≤ 36) {j : Nat} (hj : j < n) : num .f32 (cW a b n (fop .sub .f32 (qz z) (qz c)) (qz u) j) := by
  obtain ⟨d1, d2⟩ := qz_diff hz1 hz2 hc1 hc2
  obtain ⟨u1, u2⟩ := qz_val hu1 hu2
  exact cW_num h d1 d2 (by omega) u1 u2 (by omega) hj
theorem Mk.ra {n : Nat} {a b : Nat → Int} (h : Mk n a b) {j : Nat} (hj : j < n) : -16 ≤ a j ∧ a j ≤ 36 ∧ -16 ≤ b j ∧ b j ≤ 36 := by
  have h1 := h.a0 j hj
  have h2 := h.a1 j hj
  have h3 := h.b0 j hj
  have h4 := h.b1 j hj
  have h9 := h.n9
  omega
def clX (a b c : Nat → Int) (n : Nat) (z : Int) (j : Nat) : Nat := cW a b n (fop .sub .f32 (qz z) (qz (c (n - 1)))) (qz (c j)) j
theorem cl_all {n : Nat} {a b : Nat → Int} (h : Mk n a b) {z1 z2 : Int} (h1 : -16 ≤ z1) (h2 : z1 ≤ 36) (h3 : -16 ≤ z2) (h4 : z2 ≤ 36) : allC (clX a b a n z1) (clX a b b n z2) n = true := allB_true fun j hj => by
  have hn := h.n2
  obtain ⟨p1, p2, p3, p4⟩ := h.ra hj
  obtain ⟨q1, q2, q3, q4⟩ := h.ra (j := n - 1) (by omega)
  unfold finC clX
  rw [(fin_num _).2 (cl_num h h1 h2 q1 q2 p1 p2 hj), (fin_num _).2 (cl_num h h3 h4 q3 q4 p3 p4 hj)]
  rfl
theorem qz_finC {z1 z2 : Int} (h1 : -16 ≤ z1) (h2 : z1 ≤ 36) (h3 : -16 ≤ z2) (h4 : z2 ≤ 36) : finC (qz z1) (qz z2) = true := by
  unfold finC
  rw [(fin_num _).2 (qz_val h1 h2).1, (fin_num _).2 (qz_val h3 h4).1]
  rfl
/-- Its last is where it ends, its first where it began; where nothing is to move, all are. -/
theorem cl_last {n : Nat} {a b c : Nat → Int} (h : Mk n a b) {z : Int} (hz1 : -16 ≤ z) (hz2 : z ≤ 36) (hc : ∀ j, j < n → -16 ≤ c j ∧ c j ≤ 36) : inn .f32 (fop .sub .f32 (clX a b c n z (n - 1)) (qz z)) (-1/4096) (1/4096) := by
  have hn := h.n2
  obtain ⟨q1, q2⟩ := hc (n - 1) (by omega)
  obtain ⟨d1, d2⟩ := qz_diff hz1 hz2 q1 q2
  obtain ⟨u1, u2⟩ := qz_val q1 q2
  obtain ⟨z1, z2⟩ := qz_val hz1 hz2
  refine same_small (cl_num h hz1 hz2 q1 q2 q1 q2 (by omega)) z1 ?_
  unfold clX
  rw [cW_last h d1 d2 (by omega) u1 u2 (by omega), z2]
  congr 2
  omega
theorem cl_first {n : Nat} {a b c : Nat → Int} (h : Mk n a b) {z : Int} (hz1 : -16 ≤ z) (hz2 : z ≤ 36) (hc : ∀ j, j < n → -16 ≤ c j ∧ c j ≤ 36) : inn .f32 (fop .sub .f32 (clX a b c n z 0) (qz (c 0))) (-1/4096) (1/4096) := by
  have hn := h.n2
  obtain ⟨q1, q2⟩ := hc (n - 1) (by omega)
  obtain ⟨p1, p2⟩ := hc 0 (by omega)
  obtain ⟨d1, d2⟩ := qz_diff hz1 hz2 q1 q2
  obtain ⟨u1, u2⟩ := qz_val p1 p2
  refine same_small (cl_num h hz1 hz2 q1 q2 p1 p2 (by omega)) u1 ?_
  exact cW_zero h d1 u1 u2 (by omega) (by omega) (.inr rfl)
theorem cl_same {n : Nat} {a b c : Nat → Int} (h : Mk n a b) (hc : ∀ j, j < n → -16 ≤ c j ∧ c j ≤ 36) {j : Nat} (hj : j < n) : inn .f32 (fop .sub .f32 (clX a b c n (c (n - 1)) j) (qz (c j))) (-1/4096) (1/4096) := by
  have hn := h.n2
  obtain ⟨q1, q2⟩ := hc (n - 1) (by omega)
  obtain ⟨p1, p2⟩ := hc j hj
  obtain ⟨d1, d2⟩ := qz_diff q1 q2 q1 q2
  obtain ⟨u1, u2⟩ := qz_val p1 p2
  refine same_small (cl_num h q1 q2 q1 q2 p1 p2 hj) u1 ?_
  exact cW_zero h d1 u1 u2 (by omega) hj (.inl (by rw [d2]; simp; decide +kernel))
theorem cl_near {n : Nat} {a b : Nat → Int} (h : Mk n a b) : Near n (clX a b a n (a (n - 1))) (clX a b b n (b (n - 1))) a b := fun j hj => ⟨cl_same h (fun j hj => ⟨(h.ra hj).1, (h.ra hj).2.1⟩) hj, cl_same h (fun j hj => ⟨(h.ra hj).2.2.1, (h.ra hj).2.2.2⟩) hj⟩
section guards
variable {P : Program} {ops : Array Oper} {l : List Oper} {o : Oper} {a : Act} {w0 : World} {Q : Act → List New → Prop} {S : List Item'} {acc : List New}
theorem rel_valg (val : Value) (hw : Region.wanted o (yielded ops a.tmps) = true) (h1 : ∀ w, Below w0.heap.size w0 w → (execOp a.eval o).run P w = .ok (.value val) w) (h2 : wpRel P ops w0 Q l S (a.put o.dst val) acc) :
    wpRel P ops w0 Q (o :: l) ((none, RV val) :: S) a acc :=
  rel_want (RV val) hw (fun w hb => by rw [h1 w hb]; exact ⟨Below.refl _ _, rfl⟩) fun v hv => by rw [show v = val from hv]; exact h2
theorem rel_callg (R : Value → Prop) (f : FuncId) (args : Array Value) (hw : Region.wanted o (yielded ops a.tmps) = true) (h1 : ∀ w, Below w0.heap.size w0 w → (execOp a.eval o).run P w = .ok (.enter f args) w) (hc : ∀ w, Below w0.heap.size w0 w → Calls P f args w (Ret R w)) (h2 : ∀ v, R v → wpRel P ops w0 Q l S (a.put o.dst v) acc) :
    wpRel P ops w0 Q (o :: l) ((none, R) :: S) a acc :=
  rel_want R hw (fun w hb => by
    rw [h1 w hb]
    exact ⟨rfl, (hc w hb).mono fun e w' ⟨⟨v, he, hv⟩, hb'⟩ => ⟨hb', v, he, hv⟩⟩) h2
theorem rel_csubg (t t2 : TypeId) (X Y : Operand) (ho : o.op = .binOp .sub t X Y t2) (hw : Region.wanted o (yielded ops a.tmps) = true) (p q r s p' q' r' s' : Nat) (hX : a.eval X = .complex .f32 p q) (hY : a.eval Y = .complex .f32 r s) (h1 : cn .f32 p = p') (h2 : cn .f32 q = q') (h3 : cn .f32 r = r') (h4 : cn .f32 s = s')
    (h : ∀ x y, cn .f32 x = fop .sub .f32 p' r' → cn .f32 y = fop .sub .f32 q' s' → okf .f32 x → okf .f32 y → wpRel P ops w0 Q l S (a.put o.dst (.complex .f32 x y)) acc) :
    wpRel P ops w0 Q (o :: l) ((none, RC (fop .sub .f32 p' r') (fop .sub .f32 q' s')) :: S) a acc :=
  rel_want _ hw (fun w _ => by
    obtain ⟨x, y, n, e, g1, g2, g3, g4⟩ := run_csub (P := P) t .f32 p q r s w
    have : (execOp a.eval o).run P w = .ok (.value (.complex .f32 x y)) (w.drewN n) := by
      unfold execOp
      rw [ho]
      have he : eqGuard .sub t X Y (Value.complex .f32 p q) (Value.complex .f32 r s) = pure () := rfl
      simp only [hX, hY, he, Sem.run_bind, Sem.run_pure, Result.andThen_ok, e]
    rw [this]
    exact ⟨below_dN (Below.refl _ _), x, y, rfl, by rw [g1, h1, h3], by rw [g2, h2, h4], okf_of g3, okf_of g4⟩) fun v ⟨x, y, e, g1, g2, g3, g4⟩ => by subst e; exact h x y g1 g2 g3 g4
theorem rel_fconvg (src dst : TypeId) (X : Operand) (ho : o.op = .convert src dst X) (hw : Region.wanted o (yielded ops a.tmps) = true) (k k' : FloatKind) (x x' : Nat) (hX : a.eval X = .float k x) (hk : k ≠ k') (hs : P.underlying src = some (.float k)) (hd : P.underlying dst = some (.float k')) (hx : cn k x = x') (hf : fits k k' x')
    (h2 : ∀ r, cn k' r = fcv k k' x' → okf k' r → wpRel P ops w0 Q l S (a.put o.dst (.float k' r)) acc) :
    wpRel P ops w0 Q (o :: l) ((none, RF k' (fcv k k' x')) :: S) a acc :=
  rel_want _ hw (fun w _ => by
    obtain ⟨r, n, e, hr⟩ := run_fconv (P := P) src dst k k' hk hs hd x w
    rw [hx] at hr
    have : (execOp a.eval o).run P w = .ok (.value (.float k' r)) (w.drewN n) := by
      unfold execOp
      rw [ho]
      simp only [hX, Sem.run_bind, Sem.run_pure, Result.andThen_ok, e]
    rw [this]
    exact ⟨below_dN (Below.refl _ _), r, rfl, (hr hf).1, okf_of (hr hf).2⟩) fun v ⟨r, e, hr, hw⟩ => by subst e; exact h2 r hr hw
end guards
end Go.Proofs.Ytnkfbinppikhkaa
