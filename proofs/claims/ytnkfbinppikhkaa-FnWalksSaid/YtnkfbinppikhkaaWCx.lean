/- Complex numbers, by canonical bits; the numbers of a grid's places; how long a number is. No condition. -/
import Derived.Test.YtnkfbinppikhkaaAng
import Derived.Test.YtnkfbinppikhkaaGr
import Derived.Laws.Cover3
namespace Go.Proofs.Ytnkfbinppikhkaa
open Go.RowKit
set_option linter.unusedSimpArgs false
/-- A complex number of canonical parts. -/
def RC (X Y : Nat) (v : Value) : Prop := ∃ a b, v = .complex .f32 a b ∧ cn .f32 a = X ∧ cn .f32 b = Y ∧ okf .f32 a ∧ okf .f32 b
theorem drewN_add' (w : World) (n m : Nat) : w.drewN (n + m) = (w.drewN n).drewN m := by simp [World.drewN, Nat.add_assoc]
theorem run_fl {P : Program} (op : BinOp) (hop : isArith op = true) (k : FloatKind) (x y : Nat) (w : World) :
    ∃ r n, (Op.floatArith op k x y).run P w = .ok (.float k r) (w.drewN n) ∧ cn k r = fop op k (cn k x) (cn k y) ∧ (Lit.float k r).wf = true := by
  obtain ⟨r, n, e, h⟩ := run_farith (P := P) op hop 0 k x y w
  refine ⟨r, n, ?_, h⟩
  rw [← e]
  cases op <;> simp only [isArith, Bool.false_eq_true] at hop <;> simp [binOp]
theorem run_cpart {P : Program} (op : BinOp) (hop : isArith op = true) (k : FloatKind) (x y : Nat) (w : World) :
    ∃ r n, (Op.Complex.arith op k x y).run P w = .ok r (w.drewN n) ∧ cn k r = fop op k (cn k x) (cn k y) ∧ (Lit.float k r).wf = true := by
  obtain ⟨r, n, e, h⟩ := run_fl (P := P) op hop k x y w
  exact ⟨r, n, by simp [Op.Complex.arith, e], h⟩
theorem run_csub {P : Program} (t : TypeId) (k : FloatKind) (a b c d : Nat) (w : World) :
    ∃ x y n, (binOp .sub t (.complex k a b) (.complex k c d)).run P w = .ok (.complex k x y) (w.drewN n) ∧ cn k x = fop .sub k (cn k a) (cn k c) ∧ cn k y = fop .sub k (cn k b) (cn k d) ∧ (Lit.float k x).wf = true ∧ (Lit.float k y).wf = true := by
  obtain ⟨x, n, e1, h1, g1⟩ := run_cpart (P := P) .sub rfl k a c w
  obtain ⟨y, m, e2, h2, g2⟩ := run_cpart (P := P) .sub rfl k b d (w.drewN n)
  refine ⟨x, y, n + m, ?_, h1, h2, g1, g2⟩
  rw [drewN_add']
  simp [binOp, Op.complexOp, e1, e2]
theorem run_cadd {P : Program} (t : TypeId) (k : FloatKind) (a b c d : Nat) (w : World) :
    ∃ x y n, (binOp .add t (.complex k a b) (.complex k c d)).run P w = .ok (.complex k x y) (w.drewN n) ∧ cn k x = fop .add k (cn k a) (cn k c) ∧ cn k y = fop .add k (cn k b) (cn k d) ∧ (Lit.float k x).wf = true ∧ (Lit.float k y).wf = true := by
  obtain ⟨x, n, e1, h1, g1⟩ := run_cpart (P := P) .add rfl k a c w
  obtain ⟨y, m, e2, h2, g2⟩ := run_cpart (P := P) .add rfl k b d (w.drewN n)
  refine ⟨x, y, n + m, ?_, h1, h2, g1, g2⟩
  rw [drewN_add']
  simp [binOp, Op.complexOp, e1, e2]
/-- Two results. -/
def RPr (R R' : Value → Prop) (v : Value) : Prop := ∃ a b, v = .tuple #[a, b] ∧ R a ∧ R' b
section steps
variable {P : Program} {w : World} {ops : Array Oper} {rest : List Oper} {o : Oper} {a : Act} {Q : Exit → Act → World → Prop}
/-- '-' of complex numbers, in a region of open order. -/
theorem rel_csub {ops : Array Oper} {l : List Oper} {w0 : World} {Q : Act → List New → Prop} {S : List Item'} {acc : List New} (t t2 : TypeId) (X Y : Operand) (ho : o.op = .binOp .sub t X Y t2) (hg : o.guard = none) (p q r s p' q' r' s' : Nat) (hX : a.eval X = .complex .f32 p q) (hY : a.eval Y = .complex .f32 r s) (h1 : cn .f32 p = p') (h2 : cn .f32 q = q') (h3 : cn .f32 r = r') (h4 : cn .f32 s = s')
    (h : ∀ x y, cn .f32 x = fop .sub .f32 p' r' → cn .f32 y = fop .sub .f32 q' s' → okf .f32 x → okf .f32 y → wpRel P ops w0 Q l S (a.put o.dst (.complex .f32 x y)) acc) :
    wpRel P ops w0 Q (o :: l) ((none, RC (fop .sub .f32 p' r') (fop .sub .f32 q' s')) :: S) a acc :=
  rel_step _ hg (fun w _ => by
    obtain ⟨x, y, n, e, g1, g2, g3, g4⟩ := run_csub (P := P) t .f32 p q r s w
    have : (execOp a.eval o).run P w = .ok (.value (.complex .f32 x y)) (w.drewN n) := by
      unfold execOp
      rw [ho]
      have he : eqGuard .sub t X Y (Value.complex .f32 p q) (Value.complex .f32 r s) = pure () := rfl
      simp only [hX, hY, he, Sem.run_bind, Sem.run_pure, Result.andThen_ok, e]
    rw [this]
    exact ⟨below_dN (Below.refl _ _), x, y, rfl, by rw [g1, h1, h3], by rw [g2, h2, h4], okf_of g3, okf_of g4⟩) fun v ⟨x, y, e, g1, g2, g3, g4⟩ => by subst e; exact h x y g1 g2 g3 g4
theorem wpL_csub (hgd : Region.wanted o (yielded ops a.tmps) = true) (t t2 : TypeId) (X Y : Operand) (ho : o.op = .binOp .sub t X Y t2) (p q r s : Nat) (hX : a.eval X = .complex .f32 p q) (hY : a.eval Y = .complex .f32 r s)
    (h : ∀ x y n, cn .f32 x = fop .sub .f32 (cn .f32 p) (cn .f32 r) → cn .f32 y = fop .sub .f32 (cn .f32 q) (cn .f32 s) → (Lit.float .f32 x).wf = true → (Lit.float .f32 y).wf = true → wpList P ops Q rest (a.put o.dst (.complex .f32 x y)) (w.drewN n)) : wpList P ops Q (o :: rest) a w :=
  wpList_want hgd fun K hK => by
    obtain ⟨x, y, n, e, g1, g2, g3, g4⟩ := run_csub (P := P) t .f32 p q r s w
    refine wp_value (v := .complex .f32 x y) (w' := w.drewN n) ?_ (hK _ _ (h x y n g1 g2 g3 g4))
    unfold execOp
    rw [ho]
    have he : eqGuard .sub t X Y (Value.complex .f32 p q) (Value.complex .f32 r s) = pure () := rfl
    simp only [hX, hY, he, Sem.run_bind, Sem.run_pure, Result.andThen_ok, e]
end steps
theorem div_bnd {W i : Nat} (hi : i ≤ 1048576) : wrap64 ((i : Int) / (W : Int)) = (i : Int) / (W : Int) := by
  have h : ((i / W : Nat) : Int) = (i : Int) / (W : Int) := by simp
  have h2 : i / W ≤ i := Nat.div_le_self i W
  rw [← h]
  clear h
  generalize i / W = q at h2
  unfold wrap64
  omega
-- left out here: placeAt_c
-- left out here: number_c
-- left out here: l06Place_c
theorem Ret.rc {P : Program} {f : FuncId} {args : Array Value} {w : World} {a b X Y : Nat} (ha : cn .f32 a = X) (hb : cn .f32 b = Y) (ga : okf .f32 a) (gb : okf .f32 b) (h : Calls P f args w fun e w' => e = .returned (.complex .f32 a b) ∧ Below w.heap.size w w') : Calls P f args w (Ret (RC X Y) w) :=
  h.mono fun _ _ hx => ⟨⟨_, hx.1, a, b, rfl, ha, hb, ga, gb⟩, hx.2⟩
set_option maxHeartbeats 400000 in
theorem less_c (a b c d A B C D : Nat) (ha : cn .f32 a = A) (hb : cn .f32 b = B) (hc : cn .f32 c = C) (hd : cn .f32 d = D) (w : World) : Calls Try.prog 16 #[.complex .f32 a b, .complex .f32 c d] w (Ret (RC (fop .sub .f32 A C) (fop .sub .f32 B D)) w) := by
  subst ha hb hc hd
  go_enter Try.func16, Try.ntmps16
  go_wp2_with (first | (refine wpL_farith rfl _ _ _ _ _ rfl rfl _ _ _ rfl rfl ?_; intro r n hr hw))
  go_ret
  exact ⟨⟨_, rfl, _, _, rfl, by assumption, by assumption, okf_of (by assumption), okf_of (by assumption)⟩, by (with_reducible repeat (first | exact Below.refl _ _ | apply below_alloc | apply below_dN | apply below_d | refine below_setCell ?_ (by dsimp only; omega) | refine below_call (by assumption) ?_))⟩
/-- How long a number is. -/
def pww (X Y : Nat) : Nat := fop .add .f64 (fop .mul .f64 (fcv .f32 .f64 X) (fcv .f32 .f64 X)) (fop .mul .f64 (fcv .f32 .f64 Y) (fcv .f32 .f64 Y))
def lng (X Y : Nat) : Nat := fcv .f64 .f32 (fsq (pww X Y))
set_option maxHeartbeats 400000 in
theorem parts_c (a b A B : Nat) (ha : cn .f32 a = A) (hb : cn .f32 b = B) (w : World) : Calls Try.prog 48 #[.complex .f32 a b] w (Ret (RPr (RF .f64 (fcv .f32 .f64 A)) (RF .f64 (fcv .f32 .f64 B))) w) := by
  subst ha hb
  go_enter Try.func48, Try.ntmps48
  go_wp2_with (first | (refine wpL_fconv_fits rfl 36 35 _ rfl .f32 .f64 _ rfl (by decide) Try.underlying36 Try.underlying35 (fits_wide _) ?_; intro r n hr hw))
  go_ret2
  exact ⟨⟨_, rfl, _, _, rfl, ⟨_, rfl, by assumption, okf64⟩, ⟨_, rfl, by assumption, okf64⟩⟩, by (with_reducible repeat (first | exact Below.refl _ _ | apply below_alloc | apply below_dN | apply below_d | refine below_setCell ?_ (by dsimp only; omega) | refine below_call (by assumption) ?_))⟩
set_option maxHeartbeats 400000 in
theorem power_c (a b A B : Nat) (ha : cn .f32 a = A) (hb : cn .f32 b = B) (w : World) : Calls Try.prog 36 #[.complex .f32 a b] w (Ret (RF .f64 (pww A B)) w) := by
  have HP := Lib.hid (parts_c a b A B ha hb)
  go_enter Try.func36, Try.ntmps36
  go_wp2_with (first | (go_at_call 48; ((with_reducible refine (HP.out _).mono ?_); rintro e w1 ⟨⟨v, rfl, p, q, rfl, ⟨r, rfl, hr, hw⟩, ⟨r', rfl, hr', hw'⟩⟩, hb1⟩)) | (refine wpL_farith rfl _ _ _ _ _ rfl rfl _ _ _ rfl rfl ?_; intro r n hr hw))
  go_ret
  exact ⟨⟨_, rfl, _, rfl, by unfold pww; simp only [*], okf64⟩, by (with_reducible repeat (first | exact Below.refl _ _ | apply below_alloc | apply below_dN | apply below_d | refine below_setCell ?_ (by dsimp only; omega) | refine below_call (by assumption) ?_))⟩
set_option maxHeartbeats 400000 in
theorem powerWide_c (a b A B : Nat) (ha : cn .f32 a = A) (hb : cn .f32 b = B) (w : World) : Calls Try.prog 44 #[.complex .f32 a b] w (Ret (RF .f64 (pww A B)) w) := by
  subst ha hb
  go_enter Try.func44, Try.ntmps44
  go_wp2_with (first | (refine wpL_farith rfl _ _ _ _ _ rfl rfl _ _ _ rfl rfl ?_; intro r n hr hw) | (refine wpL_fconv_fits rfl 36 35 _ rfl .f32 .f64 _ rfl (by decide) Try.underlying36 Try.underlying35 (fits_wide _) ?_; intro r n hr hw))
  go_ret
  exact ⟨⟨_, rfl, _, rfl, by unfold pww; simp only [*], okf64⟩, by (with_reducible repeat (first | exact Below.refl _ _ | apply below_alloc | apply below_dN | apply below_d | refine below_setCell ?_ (by dsimp only; omega) | refine below_call (by assumption) ?_))⟩
set_option maxHeartbeats 400000 in
theorem narrow_c (x X : Nat) (hx : cn .f64 x = X) (hf : fits .f64 .f32 X) (w : World) : Calls Try.prog 43 #[.float .f64 x] w (Ret (RF .f32 (fcv .f64 .f32 X)) w) := by
  have HF := Lib.hid hf
  clear hf
  go_enter Try.func43, Try.ntmps43
  go_wp2_with (first | (refine wpL_fconv_fits rfl 35 36 _ rfl .f64 .f32 _ rfl (by decide) Try.underlying35 Try.underlying36 (by rw [hx]; exact HF.out) ?_; intro r n hr hw))
  go_ret
  exact ⟨⟨_, rfl, _, rfl, by rw [hr, hx], okf_of hw⟩, by (with_reducible repeat (first | exact Below.refl _ _ | apply below_alloc | apply below_dN | apply below_d | refine below_setCell ?_ (by dsimp only; omega) | refine below_call (by assumption) ?_))⟩
set_option maxHeartbeats 400000 in
theorem longOf_c (a b A B : Nat) (ha : cn .f32 a = A) (hb : cn .f32 b = B) (hf : fits .f64 .f32 (fsq (pww A B))) (w : World) : Calls Try.prog 19 #[.complex .f32 a b] w (Ret (RF .f32 (lng A B)) w) := by
  have HP := Lib.hid (power_c a b A B ha hb)
  have HF := Lib.hid hf
  clear hf
  go_enter Try.func19, Try.ntmps19
  go_wp2_with (first | (go_at_call 36; ((with_reducible refine (HP.out _).mono ?_); rintro e w1 ⟨⟨v, rfl, r, rfl, hr, hw⟩, hb⟩)) | (go_at_call 35; ((with_reducible refine (sqrt_c _ _ (by assumption) _).mono ?_); rintro e w1 ⟨⟨v, rfl, r, rfl, hr, hw⟩, hb⟩)) | (refine wpL_fconv_fits rfl 35 36 _ rfl .f64 .f32 _ rfl (by decide) Try.underlying35 Try.underlying36 (by simp only [*]; exact HF.out) ?_; intro r n hr hw))
  go_ret
  exact ⟨⟨_, rfl, _, rfl, by unfold lng; simp only [*], by first | assumption | exact okf_of (by assumption)⟩, by (with_reducible repeat (first | exact Below.refl _ _ | apply below_alloc | apply below_dN | apply below_d | refine below_setCell ?_ (by dsimp only; omega) | refine below_call (by assumption) ?_))⟩
set_option maxHeartbeats 400000 in
theorem l01Long_c (a b A B : Nat) (ha : cn .f32 a = A) (hb : cn .f32 b = B) (hf : fits .f64 .f32 (fsq (pww A B))) (w : World) : Calls Try.prog 32 #[.complex .f32 a b] w (Ret (RF .f32 (lng A B)) w) := by
  have HP := Lib.hid (powerWide_c a b A B ha hb)
  have HF := Lib.hid hf
  clear hf
  go_enter Try.func32, Try.ntmps32
  go_wp2_with (first | (go_at_call 44; ((with_reducible refine (HP.out _).mono ?_); rintro e w1 ⟨⟨v, rfl, r, rfl, hr, hw⟩, hb⟩)) | (go_at_call 35; ((with_reducible refine (sqrt_c _ _ (by assumption) _).mono ?_); rintro e w1 ⟨⟨v, rfl, r, rfl, hr, hw⟩, hb⟩)) | (go_at_call 43; ((with_reducible refine (narrow_c _ _ (by assumption) HF.out _).mono ?_); rintro e w1 ⟨⟨v, rfl, r, rfl, hr, hw⟩, hb⟩)))
  go_ret
  exact ⟨⟨_, rfl, _, rfl, by unfold lng; simp only [*], by first | assumption | exact okf_of (by assumption)⟩, by (with_reducible repeat (first | exact Below.refl _ _ | apply below_alloc | apply below_dN | apply below_d | refine below_setCell ?_ (by dsimp only; omega) | refine below_call (by assumption) ?_))⟩
end Go.Proofs.Ytnkfbinppikhkaa
