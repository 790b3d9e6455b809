/- Floats up to the bits of a NaN: canonical bits, what each operation gives in them, and the walk's steps for arithmetic, conversions and roots. No condition. -/
import Derived.Test.YtnkfbinppikhkaaBase
import Derived.Laws.FloatBits
namespace Go.Proofs.Ytnkfbinppikhkaa
open Go.RowKit

def qn : FloatKind → Nat
  | .f32 => 2143289344
  | .f64 => 9221120237041090560
def nanB (k : FloatKind) (b : Nat) : Bool := (k.format.read b).isNaN
/-- The bits, all NaNs being one. -/
def cn (k : FloatKind) (b : Nat) : Nat := if nanB k b then qn k else b

theorem nanB_qn (k : FloatKind) : nanB k (qn k) = true := by cases k <;> decide +kernel
theorem cn_of {k : FloatKind} {b : Nat} (h : nanB k b = false) : cn k b = b := by simp [cn, h]
theorem cn_nan {k : FloatKind} {b : Nat} (h : nanB k b = true) : cn k b = qn k := by simp [cn, h]
theorem nanB_cn (k : FloatKind) (b : Nat) : nanB k (cn k b) = nanB k b := by
  cases h : nanB k b
  · rw [cn_of h, h]
  · rw [cn_nan h, nanB_qn]
theorem cn_cn (k : FloatKind) (b : Nat) : cn k (cn k b) = cn k b := by
  cases h : nanB k b
  · rw [cn_of h, cn_of h]
  · rw [cn_nan h, cn_nan (nanB_qn k)]
theorem read_nan {k : FloatKind} {b : Nat} (h : nanB k b = true) : ∃ s f, k.format.read b = .nan s f := by
  unfold nanB at h
  cases e : k.format.read b with
  | nan s f => exact ⟨s, f, rfl⟩
  | number s m p => rw [e] at h; simp [Ieee.Datum.isNaN] at h
  | infinity s => rw [e] at h; simp [Ieee.Datum.isNaN] at h

section ops
variable (d e : Ieee.Datum)
theorem order_nan_r {d : Ieee.Datum} (s : Bool) (f : Nat) : d.order (.nan s f) = none := by cases d <;> rfl
theorem sum_nan_r {d : Ieee.Datum} (s : Bool) (f : Nat) : d.sum (.nan s f) = none := by cases d <;> rfl
theorem product_nan_r {d : Ieee.Datum} (s : Bool) (f : Nat) : d.product (.nan s f) = none := by cases d <;> rfl
theorem quotient_nan_r {d : Ieee.Datum} (n : Nat) (s : Bool) (f : Nat) : d.quotient n (.nan s f) = none := by cases d <;> rfl
end ops

theorem order_nan_left {k : FloatKind} {x : Nat} (h : nanB k x = true) (y : Nat) : k.format.order x y = none := by
  obtain ⟨s, f, e⟩ := read_nan h
  simp only [Ieee.Format.order, e]; rfl
theorem order_nan_right {k : FloatKind} {y : Nat} (h : nanB k y = true) (x : Nat) : k.format.order x y = none := by
  obtain ⟨s, f, e⟩ := read_nan h
  simp only [Ieee.Format.order, e]; exact order_nan_r s f

/-- A function of bits that sees a NaN as a NaN. -/
theorem two_cn {α : Type} {k : FloatKind} (F : Nat → Nat → α) (z : α) (hl : ∀ x y, nanB k x = true → F x y = z) (hr : ∀ x y, nanB k y = true → F x y = z) (x y : Nat) : F (cn k x) (cn k y) = F x y := by
  cases h : nanB k x
  · cases h' : nanB k y
    · rw [cn_of h, cn_of h']
    · rw [cn_nan h', hr _ _ (nanB_qn k), hr _ _ h']
  · rw [cn_nan h, hl _ _ (nanB_qn k), hl _ _ h]

theorem order_cn (k : FloatKind) (x y : Nat) : k.format.order (cn k x) (cn k y) = k.format.order x y :=
  two_cn k.format.order none (fun _ _ h => order_nan_left h _) (fun _ _ h => order_nan_right h _) x y

theorem fge_cn (k : FloatKind) (x y : Nat) : fge k (cn k x) (cn k y) = fge k x y := by unfold fge; rw [order_cn]
theorem fle_cn (k : FloatKind) (x y : Nat) : fle k (cn k x) (cn k y) = fle k x y := by unfold fle; rw [order_cn]
theorem flt_cn (k : FloatKind) (x y : Nat) : flt k (cn k x) (cn k y) = flt k x y := by unfold flt; rw [order_cn]
theorem fgt_cn (k : FloatKind) (x y : Nat) : fgt k (cn k x) (cn k y) = fgt k x y := by unfold fgt; rw [order_cn]
theorem feq_cn (k : FloatKind) (x y : Nat) : feq k (cn k x) (cn k y) = feq k x y := by unfold feq; rw [order_cn]

@[go_sem] theorem g_geq (t : TypeId) (k : FloatKind) (a b : Nat) : binOp .geq t (.float k a) (.float k b) = pure (.bool (fge k (cn k a) (cn k b))) := by rw [fge_cn]; simp [binOp, Op.floatCmp, fge]
@[go_sem] theorem g_leq (t : TypeId) (k : FloatKind) (a b : Nat) : binOp .leq t (.float k a) (.float k b) = pure (.bool (fle k (cn k a) (cn k b))) := by rw [fle_cn]; simp [binOp, Op.floatCmp, fle]
@[go_sem] theorem g_lss (t : TypeId) (k : FloatKind) (a b : Nat) : binOp .lss t (.float k a) (.float k b) = pure (.bool (flt k (cn k a) (cn k b))) := by rw [flt_cn]; simp [binOp, Op.floatCmp, flt]
@[go_sem] theorem g_gtr (t : TypeId) (k : FloatKind) (a b : Nat) : binOp .gtr t (.float k a) (.float k b) = pure (.bool (fgt k (cn k a) (cn k b))) := by rw [fgt_cn]; simp [binOp, Op.floatCmp, fgt]
@[go_sem] theorem g_eql (t : TypeId) (k : FloatKind) (a b : Nat) : binOp .eql t (.float k a) (.float k b) = pure (.bool (feq k (cn k a) (cn k b))) := by rw [feq_cn]; simp [binOp, Op.floatCmp, feq]
@[go_sem] theorem g_neq (t : TypeId) (k : FloatKind) (a b : Nat) : binOp .neq t (.float k a) (.float k b) = pure (.bool (!feq k (cn k a) (cn k b))) := by rw [feq_cn]; simp [binOp, Op.floatCmp, feq, bne]
@[go_sem, simp] theorem cnc_f32_0 : cn .f32 0 = 0 := by decide +kernel
@[go_sem, simp] theorem cnc_f32_1048576000 : cn .f32 1048576000 = 1048576000 := by decide +kernel
@[go_sem, simp] theorem cnc_f32_1065353216 : cn .f32 1065353216 = 1065353216 := by decide +kernel
@[go_sem, simp] theorem cnc_f32_1082130432 : cn .f32 1082130432 = 1082130432 := by decide +kernel
@[go_sem, simp] theorem cnc_f64_0 : cn .f64 0 = 0 := by decide +kernel
@[go_sem, simp] theorem cnc_f64_4562254508917369340 : cn .f64 4562254508917369340 = 4562254508917369340 := by decide +kernel
@[go_sem, simp] theorem cnc_f64_4598175219545276416 : cn .f64 4598175219545276416 = 4598175219545276416 := by decide +kernel
@[go_sem, simp] theorem cnc_f64_4602678819172646912 : cn .f64 4602678819172646912 = 4602678819172646912 := by decide +kernel
@[go_sem, simp] theorem cnc_f64_4607182418800017408 : cn .f64 4607182418800017408 = 4607182418800017408 := by decide +kernel
@[go_sem, simp] theorem cnc_f64_4618760256179416344 : cn .f64 4618760256179416344 = 4618760256179416344 := by decide +kernel
@[go_sem, simp] theorem cnc_f64_4620693217682128896 : cn .f64 4620693217682128896 = 4620693217682128896 := by decide +kernel
@[go_sem, simp] theorem cnc_f64_4841369599423283200 : cn .f64 4841369599423283200 = 4841369599423283200 := by decide +kernel

def isArith : BinOp → Bool
  | .add | .sub | .mul | .quo => true
  | _ => false
/-- An arithmetic operation on bits; none: a NaN. -/
def fopO (op : BinOp) (k : FloatKind) (x y : Nat) : Option Nat :=
  match op with
  | .add => k.format.add x y
  | .sub => k.format.sub x y
  | .mul => k.format.mul x y
  | .quo => k.format.div x y
  | _ => none
/-- .. in canonical bits. -/
def fop (op : BinOp) (k : FloatKind) (x y : Nat) : Nat := (fopO op k x y).getD (qn k)

theorem opposite_nan (s : Bool) (f : Nat) : (Ieee.Datum.nan s f).opposite = .nan (!s) f := rfl
theorem fopO_nan_left {op : BinOp} {k : FloatKind} {x : Nat} (h : nanB k x = true) (y : Nat) : fopO op k x y = none := by
  obtain ⟨s, f, e⟩ := read_nan h
  cases op <;> simp only [fopO, Ieee.Format.add, Ieee.Format.sub, Ieee.Format.mul, Ieee.Format.div, e] <;> rfl
theorem fopO_nan_right {op : BinOp} {k : FloatKind} {y : Nat} (h : nanB k y = true) (x : Nat) : fopO op k x y = none := by
  obtain ⟨s, f, e⟩ := read_nan h
  cases op <;> simp only [fopO, Ieee.Format.add, Ieee.Format.sub, Ieee.Format.mul, Ieee.Format.div, e, opposite_nan, sum_nan_r, product_nan_r, quotient_nan_r] <;> rfl
theorem fopO_cn (op : BinOp) (k : FloatKind) (x y : Nat) : fopO op k (cn k x) (cn k y) = fopO op k x y :=
  two_cn (fopO op k) none (fun _ _ h => fopO_nan_left h _) (fun _ _ h => fopO_nan_right h _) x y
theorem fop_cn (op : BinOp) (k : FloatKind) (x y : Nat) : fop op k (cn k x) (cn k y) = fop op k x y := by unfold fop; rw [fopO_cn]

theorem sum_ok {a b d : Ieee.Datum} (h : a.sum b = some d) : d.isNaN = false := by
  cases a <;> cases b <;> simp [Ieee.Datum.sum] at h
  all_goals first | (subst h; rfl) | (obtain ⟨_, rfl⟩ := h; rfl)
theorem product_ok {a b d : Ieee.Datum} (h : a.product b = some d) : d.isNaN = false := by
  cases a <;> cases b <;> simp [Ieee.Datum.product] at h
  all_goals first | (subst h; rfl) | (obtain ⟨_, rfl⟩ := h; rfl)
theorem quotient_ok {n : Nat} {a b d : Ieee.Datum} (h : a.quotient n b = some d) : d.isNaN = false := by
  cases a <;> cases b <;> simp [Ieee.Datum.quotient] at h
  all_goals first | (subst h; rfl) | (split at h <;> first | (cases h; done) | (split at h <;> first | (cases h; done) | (cases h; rfl)) | (cases h; rfl))
theorem root_ok {n : Nat} {a d : Ieee.Datum} (h : a.root n = some d) : d.isNaN = false := by
  cases a <;> simp [Ieee.Datum.root] at h
  all_goals first | (subst h; rfl) | (obtain ⟨_, rfl⟩ := h; rfl) | (split at h <;> first | (cases h; done) | (split at h <;> first | (cases h; done) | (cases h; rfl)) | (cases h; rfl))

theorem word_mod (f : Ieee.Format) (neg : Bool) {rung : Nat} (h : rung < f.signWeight) : f.word neg rung % f.signWeight = rung := by
  unfold Ieee.Format.word
  split
  · rw [Nat.add_mod_left, Nat.mod_eq_of_lt h]
  · exact Nat.mod_eq_of_lt h
theorem read_word (f : Ieee.Format) (neg : Bool) {rung : Nat} (h : rung ≤ f.infRung) : (f.read (f.word neg rung)).isNaN = false := by
  have hs := f.infRung_lt
  unfold Ieee.Format.read
  simp only [word_mod f neg (Nat.lt_of_le_of_lt h hs)]
  split
  · rfl
  · split
    · rfl
    · split
      · rfl
      · omega
theorem nearest_word (f : Ieee.Format) (neg : Bool) (mag : Nat) (place : Int) : ∃ r, r ≤ f.infRung ∧ f.nearest neg mag place = f.word neg r := by
  unfold Ieee.Format.nearest
  split
  · exact ⟨0, Nat.zero_le _, rfl⟩
  · exact ⟨_, Nat.min_le_right _ _, rfl⟩
theorem write_ok (k : FloatKind) {d : Ieee.Datum} (h : d.isNaN = false) : nanB k (k.format.write d) = false := by
  cases d with
  | nan s f => simp [Ieee.Datum.isNaN] at h
  | infinity s => exact read_word _ _ (Nat.le_refl _)
  | number s m p =>
    obtain ⟨r, hr, e⟩ := nearest_word k.format s m p
    show (k.format.read (k.format.nearest s m p)).isNaN = false
    rw [e]; exact read_word _ _ hr
theorem map_write_ok {k : FloatKind} {d : Option Ieee.Datum} {r : Nat} (hd : ∀ x, d = some x → x.isNaN = false) (h : d.map k.format.write = some r) : nanB k r = false := by
  cases d with
  | none => cases h
  | some x => cases h; exact write_ok k (hd x rfl)
theorem fopO_ok {op : BinOp} {k : FloatKind} {x y r : Nat} (h : fopO op k x y = some r) : nanB k r = false := by
  cases op <;> simp only [fopO] at h <;> first | (cases h; done) | skip
  · exact map_write_ok (fun _ => sum_ok) h
  · exact map_write_ok (fun _ => sum_ok) h
  · exact map_write_ok (fun _ => product_ok) h
  · exact map_write_ok (fun _ => quotient_ok) h
theorem cn_fop (op : BinOp) (k : FloatKind) (x y : Nat) : cn k (fop op k x y) = fop op k x y := by
  unfold fop
  cases h : fopO op k x y with
  | none => exact cn_nan (nanB_qn k)
  | some r => exact cn_of (fopO_ok h)

theorem nan_of_rung (f : Ieee.Format) (hf : 1 ≤ f.exponentBits) (b : Nat) (h : f.infRung < b % f.signWeight) : (f.read b).isNaN = true := by
  have hi : f.binade ≤ f.infRung := by
    unfold Ieee.Format.infRung
    have h2 : 2 ≤ 2 ^ f.exponentBits := Nat.le_trans (by decide : 2 ≤ 2 ^ 1) (Nat.pow_le_pow_right (by decide) hf)
    exact Nat.le_mul_of_pos_left _ (by omega)
  unfold Ieee.Format.read
  simp only []
  rw [if_neg (by omega), if_neg (by omega), if_neg (by omega)]
  rfl
theorem inf32 : Ieee.single.infRung = 2139095040 := by decide
theorem inf64 : Ieee.double.infRung = 9218868437227405312 := by decide
theorem sw32 : Ieee.single.signWeight = 2147483648 := by decide
theorem sw64 : Ieee.double.signWeight = 9223372036854775808 := by decide
theorem nan32 (s m : Nat) (_hs : s < 2) (hm : m < 8388607) : nanB .f32 (s * 2147483648 + 2139095040 + 1 + m) = true := by
  refine nan_of_rung Ieee.single (by decide) _ ?_
  rw [inf32, sw32]
  omega
theorem nan64 (s m : Nat) (_hs : s < 2) (hm : m < 4503599627370495) : nanB .f64 (s * 9223372036854775808 + 9218868437227405312 + 1 + m) = true := by
  refine nan_of_rung Ieee.double (by decide) _ ?_
  rw [inf64, sw64]
  omega
theorem cut_nan (k : FloatKind) (x y t : Nat) : nanB k (Question.cut (.nanBits k x y) t) = true := by
  cases k
  · exact nan32 _ _ (Nat.mod_lt _ (by decide)) (Nat.mod_lt _ (by decide))
  · exact nan64 _ _ (Nat.mod_lt _ (by decide)) (Nat.mod_lt _ (by decide))
theorem cut_nanConv (k : FloatKind) (x t : Nat) : nanB k (Question.cut (.nanConv k x) t) = true := by
  cases k
  · exact nan32 _ _ (Nat.mod_lt _ (by decide)) (Nat.mod_lt _ (by decide))
  · exact nan64 _ _ (Nat.mod_lt _ (by decide)) (Nat.mod_lt _ (by decide))

theorem wf_lt (k : FloatKind) (b : Nat) (h : b < 2 ^ k.format.width) : (Lit.float k b).wf = true := by
  cases k
  · have : b < 2 ^ 32 := h
    simp [Lit.wf, this]
  · have : b < 2 ^ 64 := h
    simp [Lit.wf, this]
theorem fopO_wf {op : BinOp} {k : FloatKind} {x y r : Nat} (h : fopO op k x y = some r) : (Lit.float k r).wf = true := by
  refine wf_lt k r ?_
  cases op <;> simp only [fopO] at h <;> first | (cases h; done) | skip
  · exact k.format.add_lt h
  · exact k.format.sub_lt h
  · exact k.format.mul_lt h
  · exact k.format.div_lt h
theorem cut_wf32 (s m : Nat) (hs : s < 2) (hm : m < 8388607) : (Lit.float .f32 (s * 2147483648 + 2139095040 + 1 + m)).wf = true := by
  simp [Lit.wf]; omega
theorem cut_wf64 (s m : Nat) (hs : s < 2) (hm : m < 4503599627370495) : (Lit.float .f64 (s * 9223372036854775808 + 9218868437227405312 + 1 + m)).wf = true := by
  simp [Lit.wf]; omega
theorem cut_wf (k : FloatKind) (x y t : Nat) : (Lit.float k (Question.cut (.nanBits k x y) t)).wf = true := by
  cases k
  · exact cut_wf32 _ _ (Nat.mod_lt _ (by decide)) (Nat.mod_lt _ (by decide))
  · exact cut_wf64 _ _ (Nat.mod_lt _ (by decide)) (Nat.mod_lt _ (by decide))
theorem cut_wfConv (k : FloatKind) (x t : Nat) : (Lit.float k (Question.cut (.nanConv k x) t)).wf = true := by
  cases k
  · exact cut_wf32 _ _ (Nat.mod_lt _ (by decide)) (Nat.mod_lt _ (by decide))
  · exact cut_wf64 _ _ (Nat.mod_lt _ (by decide)) (Nat.mod_lt _ (by decide))
section run
variable {P : Program}
theorem run_farith (op : BinOp) (hop : isArith op = true) (t : TypeId) (k : FloatKind) (x y : Nat) (w : World) :
    ∃ r n, (binOp op t (.float k x) (.float k y)).run P w = .ok (.float k r) (w.drewN n) ∧ cn k r = fop op k (cn k x) (cn k y) ∧ (Lit.float k r).wf = true := by
  rw [fop_cn]
  cases h : fopO op k x y with
  | some r =>
    refine ⟨r, 0, ?_, ?_⟩
    · cases op <;> simp only [isArith, Bool.false_eq_true] at hop <;> simp only [fopO] at h <;> simp [binOp, Op.floatArith, h] <;> rfl
    · exact ⟨by rw [cn_of (fopO_ok h)]; simp [fop, h], fopO_wf h⟩
  | none =>
    refine ⟨Question.cut (.nanBits k x y) (w.tape w.drawn (.nanBits k x y)), 1, ?_, ?_⟩
    · cases op <;> simp only [isArith, Bool.false_eq_true] at hop <;> simp only [fopO] at h <;> simp [binOp, Op.floatArith, h, choose, Sem.run, Question.forced] <;> rfl
    · exact ⟨by rw [cn_nan (cut_nan ..)]; simp [fop, h], cut_wf ..⟩

/-- A conversion between the kinds: what comes of it in canonical bits, where the number isn't too great. -/
def fcv (k k' : FloatKind) (x : Nat) : Nat := if nanB k x then qn k' else k'.format.write (k.format.read x)
/-- The number isn't too great for the kind. -/
def fits (k k' : FloatKind) (x : Nat) : Prop := ∀ s m p, k.format.read x = .number s m p → (k'.format.read (k'.format.write (.number s m p))).isInfinity = false
theorem fcv_cn (k k' : FloatKind) (x : Nat) : fcv k k' (cn k x) = fcv k k' x := by
  unfold fcv
  rw [nanB_cn]
  cases h : nanB k x
  · rw [cn_of h]
  · rfl
theorem fits_cn {k k' : FloatKind} {x : Nat} (h : fits k k' (cn k x)) : fits k k' x := by
  intro s m p e
  have hn : nanB k x = false := by simp [nanB, e, Ieee.Datum.isNaN]
  rw [cn_of hn] at h
  exact h s m p e
theorem run_fconv (src dst : TypeId) (k k' : FloatKind) (hk : k ≠ k') (hs : P.underlying src = some (.float k)) (hd : P.underlying dst = some (.float k')) (x : Nat) (w : World) :
    ∃ r n, (convert src dst (.float k x)).run P w = .ok (.float k' r) (w.drewN n) ∧ (fits k k' (cn k x) → cn k' r = fcv k k' (cn k x) ∧ (Lit.float k' r).wf = true) := by
  have key : ∃ r n, (Conv.floatToFloat k x k').run P w = .ok (.float k' r) (w.drewN n) ∧ (fits k k' (cn k x) → cn k' r = fcv k k' (cn k x) ∧ (Lit.float k' r).wf = true) := by
    rw [fcv_cn]
    unfold Conv.floatToFloat
    rw [if_neg hk]
    show ∃ r n, Sem.run P (match k.format.read x with | .nan _ _ => _ | .infinity s => _ | .number s m e => _) w = _ ∧ _
    cases e : k.format.read x with
    | nan s f =>
      have hn : nanB k x = true := by simp [nanB, e, Ieee.Datum.isNaN]
      refine ⟨Question.cut (.nanConv k' x) (w.tape w.drawn (.nanConv k' x)), 1, ?_, fun _ => ?_⟩
      · simp [choose, Sem.run, Question.forced]; rfl
      · exact ⟨by rw [cn_nan (cut_nanConv ..)]; simp [fcv, hn], cut_wfConv ..⟩
    | infinity s =>
      have hn : nanB k x = false := by simp [nanB, e, Ieee.Datum.isNaN]
      refine ⟨k'.format.write (.infinity s), 0, rfl, fun _ => ?_⟩
      exact ⟨by rw [cn_of (write_ok k' rfl)]; simp [fcv, hn, e], wf_lt _ _ (k'.format.write_lt _)⟩
    | number s m p =>
      have hn : nanB k x = false := by simp [nanB, e, Ieee.Datum.isNaN]
      by_cases hi : (k'.format.read (k'.format.write (.number s m p))).isInfinity = true
      · refine ⟨Question.cut (.floatToFloat x) (w.tape w.drawn (.floatToFloat x)), 1, ?_, fun hf => ?_⟩
        · simp [FloatKind.decode, FloatKind.encode, hi, choose, Sem.run, Question.forced]; rfl
        · exact absurd hi (by rw [fits_cn hf s m p e]; simp)
      · refine ⟨k'.format.write (.number s m p), 0, ?_, fun _ => ?_⟩
        · simp [FloatKind.decode, FloatKind.encode, hi]; rfl
        · exact ⟨by rw [cn_of (write_ok k' rfl)]; simp [fcv, hn, e], wf_lt _ _ (k'.format.write_lt _)⟩
  obtain ⟨r, n, e, h⟩ := key
  refine ⟨r, n, ?_, h⟩
  rw [← e]
  simp [convert, run_underlying hs, run_underlying hd]

end run

section steps
variable {P : Program} {w : World} {ops : Array Oper} {rest : List Oper} {o : Oper} {a : Act} {Q : Exit → Act → World → Prop}
theorem wp_value {K : Act → World → Prop} {v : Value} {w' : World} (h : (execOp a.eval o).run P w = .ok (.value v) w') (hK : K (a.put o.dst v) w') : o.wp P a w K Q := by
  unfold Oper.wp; rw [h]; exact hK
theorem wpList_want (hw : Region.wanted o (yielded ops a.tmps) = true) (h : ∀ K : Act → World → Prop, (∀ a w, wpList P ops Q rest a w → K a w) → o.wp P a w K Q) : wpList P ops Q (o :: rest) a w := by
  unfold wpList
  rw [if_pos hw]
  exact .inl (h _ fun _ _ h => h)
/-- The step at '+', '-', '*', '/' of floats. -/
theorem wpL_farith (hgd : Region.wanted o (yielded ops a.tmps) = true) (op : BinOp) (t t2 : TypeId) (X Y : Operand) (ho : o.op = .binOp op t X Y t2) (hop : isArith op = true) (k : FloatKind) (x y : Nat) (hX : a.eval X = .float k x) (hY : a.eval Y = .float k y)
    (h : ∀ r n, cn k r = fop op k (cn k x) (cn k y) → (Lit.float k r).wf = true → wpList P ops Q rest (a.put o.dst (.float k r)) (w.drewN n)) : wpList P ops Q (o :: rest) a w :=
  wpList_want hgd fun K hK => by
    obtain ⟨r, n, e, hr, hw⟩ := run_farith (P := P) op hop t k x y w
    refine wp_value (v := .float k r) (w' := w.drewN n) ?_ (hK _ _ (h r n hr hw))
    unfold execOp
    rw [ho]
    have he : eqGuard op t X Y (Value.float k x) (Value.float k y) = pure () := by cases op <;> simp only [isArith, Bool.false_eq_true] at hop <;> rfl
    simp only [hX, hY, he, Sem.run_bind, Sem.run_pure, Result.andThen_ok, e]
/-- The step at a conversion between the kinds. -/
theorem wpL_fconv (hgd : Region.wanted o (yielded ops a.tmps) = true) (src dst : TypeId) (X : Operand) (ho : o.op = .convert src dst X) (k k' : FloatKind) (x : Nat) (hX : a.eval X = .float k x) (hk : k ≠ k') (hs : P.underlying src = some (.float k)) (hd : P.underlying dst = some (.float k'))
    (h : ∀ r n, (fits k k' (cn k x) → cn k' r = fcv k k' (cn k x) ∧ (Lit.float k' r).wf = true) → wpList P ops Q rest (a.put o.dst (.float k' r)) (w.drewN n)) : wpList P ops Q (o :: rest) a w :=
  wpList_want hgd fun K hK => by
    obtain ⟨r, n, e, hr⟩ := run_fconv (P := P) src dst k k' hk hs hd x w
    refine wp_value (v := .float k' r) (w' := w.drewN n) ?_ (hK _ _ (h r n hr))
    unfold execOp
    rw [ho]
    simp only [hX, Sem.run_bind, Sem.run_pure, Result.andThen_ok, e]
/-- .. of a number that fits. -/
theorem wpL_fconv_fits (hgd : Region.wanted o (yielded ops a.tmps) = true) (src dst : TypeId) (X : Operand) (ho : o.op = .convert src dst X) (k k' : FloatKind) (x : Nat) (hX : a.eval X = .float k x) (hk : k ≠ k') (hs : P.underlying src = some (.float k)) (hd : P.underlying dst = some (.float k'))
    (hf : fits k k' (cn k x)) (h : ∀ r n, cn k' r = fcv k k' (cn k x) → (Lit.float k' r).wf = true → wpList P ops Q rest (a.put o.dst (.float k' r)) (w.drewN n)) : wpList P ops Q (o :: rest) a w :=
  wpL_fconv hgd src dst X ho k k' x hX hk hs hd fun r n hr => h r n (hr hf).1 (hr hf).2
/-- A call of a function of one float without a body. -/
theorem wpL_ext1 (hgd : Region.wanted o (yielded ops a.tmps) = true) (f : FuncId) (X : Operand) (ts : Array TypeId) (ho : o.op = .call { callee := .value (.func f), args := #[X], argTypes := ts }) (x : Nat) (hX : a.eval X = .float .f64 x) (G : Nat → Nat)
    (hrun : ∀ w, ∃ r n, (callFunc f #[.float .f64 x]).run P w = .ok (.value (.float .f64 r)) (w.drewN n) ∧ cn .f64 r = G (cn .f64 x))
    (h : ∀ r n, cn .f64 r = G (cn .f64 x) → wpList P ops Q rest (a.put o.dst (.float .f64 r)) (w.drewN n)) : wpList P ops Q (o :: rest) a w :=
  wpList_want hgd fun K hK => by
    obtain ⟨r, n, e, hr⟩ := hrun w
    refine wp_value (v := .float .f64 r) (w' := w.drewN n) ?_ (hK _ _ (h r n hr))
    unfold execOp
    rw [ho]
    have e1 : a.eval (.func f) = .func (.func f) #[] #[] := rfl
    simp [resolve, invoke, Deferred.ofValue, hX, e1, Sem.run_bind, e]
end steps

end Go.Proofs.Ytnkfbinppikhkaa
