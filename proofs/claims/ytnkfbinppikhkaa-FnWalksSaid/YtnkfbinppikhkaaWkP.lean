/- Walks of legs at quarters, in plain words: how far a walk is from its marks. No condition. -/
import Derived.Test.YtnkfbinppikhkaaWkL
namespace Go.Proofs.Ytnkfbinppikhkaa
open Go.RowKit Ieee
set_option linter.unusedSimpArgs false
theorem isfB_val {k : FloatKind} {x : Nat} {r : Rat} (h : isfB k x r = true) : num k x ∧ fv k x = r := by
  unfold isfB at h
  cases e : k.format.read x with
  | number s m p =>
    rw [e] at h
    simp only [Bool.and_eq_true, decide_eq_true_eq] at h
    exact ⟨⟨s, m, p, e⟩, by unfold fv; rw [e]; exact h.1.1⟩
  | nan s f => rw [e] at h; cases h
  | infinity s => rw [e] at h; cases h
theorem qz_all : ∀ u : Fin 53, isfB .f32 (qz ((u.val : Int) - 16)) ((((u.val : Int) - 16 : Int) : Rat) / 4) = true := by decide +kernel
theorem qz_val {z : Int} (h1 : -16 ≤ z) (h2 : z ≤ 36) : num .f32 (qz z) ∧ fv .f32 (qz z) = (z : Rat) / 4 := by
  have := isfB_val (qz_all ⟨(z + 16).toNat, by omega⟩)
  simp only [show (((z + 16).toNat : Nat) : Int) - 16 = z by omega] at this
  exact this
theorem qz_suball : ∀ u : Fin 53, ∀ v : Fin 53, fop .sub .f32 (qz ((u.val : Int) - 16)) (qz ((v.val : Int) - 16)) = qz (((u.val : Int) - 16) - ((v.val : Int) - 16)) := by decide +kernel
theorem qz_sub {a b : Int} (h1 : -16 ≤ a) (h2 : a ≤ 36) (h3 : -16 ≤ b) (h4 : b ≤ 36) : fop .sub .f32 (qz a) (qz b) = qz (a - b) := by
  have := qz_suball ⟨(a + 16).toNat, by omega⟩ ⟨(b + 16).toNat, by omega⟩
  simp only [show (((a + 16).toNat : Nat) : Int) - 16 = a by omega, show (((b + 16).toNat : Nat) : Int) - 16 = b by omega] at this
  exact this
theorem p2_n15 : p2 (-15) = 1 / 32768 := by decide +kernel
/-- A grid of numbers that are floats. -/
theorem isf_grid (m : Int) (h : m.natAbs ≤ 4194304) : isf .f32 ((m : Rat) / 32768) := by
  have hb : ((m.natAbs : Nat) : Rat) ≤ ((4194304 : Nat) : Rat) := by exact_mod_cast h
  have h5 : p2 7 = 128 := by decide +kernel
  have h6 : p2 7 ≤ p2 (maxE FloatKind.f32.format) := p2_mono (by decide)
  have hE : ((m.natAbs : Nat) : Rat) * p2 (-15) ≤ p2 (maxE FloatKind.f32.format) := by
    refine Rat.le_trans ?_ h6
    rw [p2_n15, h5]
    grind
  obtain ⟨h1, h2⟩ := exact_nearest .f32 (decide (m < 0)) m.natAbs (-15) (Nat.lt_of_le_of_lt h (by decide)) (by decide) hE
  have hv : dval (.number (decide (m < 0)) m.natAbs (-15)) = (m : Rat) / 32768 := by
    by_cases hm : m < 0
    · rw [decide_eq_true hm, dval_neg, p2_n15]
      have : ((m.natAbs : Nat) : Rat) = -(m : Rat) := by
        rw [← Rat.intCast_natCast, show ((m.natAbs : Nat) : Int) = -m by omega]
        simp
      rw [this]
      grind
    · rw [decide_eq_false hm, dval_pos, p2_n15]
      have : ((m.natAbs : Nat) : Rat) = (m : Rat) := by
        rw [← Rat.intCast_natCast, show ((m.natAbs : Nat) : Int) = m by omega]
      rw [this]
      grind
  have e1 : (m : Rat) ≤ ((4194304 : Int) : Rat) := Rat.intCast_le_intCast.2 (by omega)
  have e2 : ((-4194304 : Int) : Rat) ≤ (m : Rat) := Rat.intCast_le_intCast.2 (by omega)
  refine ⟨⟨_, h1, by rw [h2, hv]⟩, ?_, ?_⟩
  · refine Rat.le_trans (Rat.neg_le_neg h6) ?_
    rw [h5]
    grind
  · refine Rat.le_trans ?_ h6
    rw [h5]
    grind
theorem isf_g {r : Rat} (m : Int) (h : m.natAbs ≤ 4194304) (e : (m : Rat) / 32768 = r) : isf .f32 r := e ▸ isf_grid m h
theorem eps_val : num .f32 eps ∧ fv .f32 eps = 1 / 32768 := isfB_val (by decide +kernel)
/-- What is known of a leg. -/
structure LgOk (dx dy : Int) (t l p q : Nat) : Prop where
  ft : num .f32 t
  fl : num .f32 l
  t0 : flt .f32 t 0 = false
  t1 : fgt .f32 t 1065353216 = false
  l0 : (1/8 : Rat) ≤ fv .f32 l
  l1 : fv .f32 l ≤ 8
  ph : phB (lgW t) = true
  px : inn .f32 p ((dx : Rat) / 4 - 1 / 32768) ((dx : Rat) / 4 + 1 / 32768)
  py : inn .f32 q ((dy : Rat) / 4 - 1 / 32768) ((dy : Rat) / 4 + 1 / 32768)
theorem side {z : Int} (h1 : -16 ≤ z) (h2 : z ≤ 16) {p : Nat} (hp : num .f32 p) (ha : fle .f32 (fop .sub .f32 (qz z) eps) p = true) (hb : fle .f32 p (fop .add .f32 (qz z) eps) = true) : inn .f32 p ((z : Rat) / 4 - 1 / 32768) ((z : Rat) / 4 + 1 / 32768) := by
  obtain ⟨n1, v1⟩ := qz_val h1 (by omega)
  obtain ⟨n2, v2⟩ := eps_val
  have s1 := (sub_rd n1 n2).same (isf_g (z * 8192 - 1) (by omega) (by rw [v1, v2]; push_cast; grind))
  have s2 := (add_rd n1 n2).same (isf_g (z * 8192 + 1) (by omega) (by rw [v1, v2]; push_cast; grind))
  rw [fle_val s1.1 hp, s1.2, v1, v2, decide_eq_true_eq] at ha
  rw [fle_val hp s2.1, s2.2, v1, v2, decide_eq_true_eq] at hb
  exact ⟨hp, ha, hb⟩
theorem v8th : num .f32 1040187392 ∧ fv .f32 1040187392 = 1 / 8 := isfB_val (by decide +kernel)
theorem v8 : num .f32 1090519040 ∧ fv .f32 1090519040 = 8 := isfB_val (by decide +kernel)
theorem lg_ok {dx dy : Int} (h1 : 1 ≤ dx) (h2 : dx ≤ 7) (h3 : -16 ≤ dy) (h4 : dy ≤ 16) :
    fits .f64 .f32 (fsq (pww (qz dx) (qz dy))) ∧ LgOk dx dy (lgT (qz dx) (qz dy)) (lng (qz dx) (qz dy)) (stX (lgT (qz dx) (qz dy)) (lng (qz dx) (qz dy))) (stY (lgT (qz dx) (qz dy)) (lng (qz dx) (qz dy))) := by
  have h := lg_all h1 h2 h3 h4
  unfold lgB at h
  simp only [Bool.and_eq_true, Bool.not_eq_true'] at h
  obtain ⟨⟨⟨⟨⟨⟨⟨⟨⟨⟨⟨⟨⟨a1, a2⟩, a3⟩, a4⟩, a5⟩, a6⟩, a7⟩, a8⟩, a9⟩, b1⟩, b2⟩, b3⟩, b4⟩, b5⟩ := h
  have nl := (fin_num _).1 a3
  have np := (fin_num _).1 a9
  have nq := (fin_num _).1 b1
  rw [fge_val nl v8th.1, v8th.2, decide_eq_true_eq] at a6
  rw [fle_val nl v8.1, v8.2, decide_eq_true_eq] at a7
  exact ⟨fits_ofB a1, (fin_num _).1 a2, nl, a4, a5, a6, a7, a8, side (by omega) (by omega) np b2 b3, side h3 h4 nq b4 b5⟩
/-- Marks: quarters that go on to the east. -/
structure Mk (n : Nat) (a b : Nat → Int) : Prop where
  n2 : 2 ≤ n
  n9 : n ≤ 9
  a0 : ∀ j, j < n → 4 * (j : Int) ≤ a j
  a1 : ∀ j, j < n → a j ≤ 4 * (j : Int) + 3
  b0 : ∀ j, j < n → -8 ≤ b j
  b1 : ∀ j, j < n → b j ≤ 8
namespace Mk
variable {n : Nat} {a b : Nat → Int}
def dx (a : Nat → Int) (j : Nat) : Int := a (j + 1) - a j
theorem step (h : Mk n a b) {j : Nat} (hj : j + 1 < n) : 1 ≤ dx a j ∧ dx a j ≤ 7 ∧ -16 ≤ dx b j ∧ dx b j ≤ 16 := by
  have h1 := h.a0 j (by omega)
  have h2 := h.a1 j (by omega)
  have h3 := h.a0 (j + 1) hj
  have h4 := h.a1 (j + 1) hj
  have h5 := h.b0 j (by omega)
  have h6 := h.b1 j (by omega)
  have h7 := h.b0 (j + 1) hj
  have h8 := h.b1 (j + 1) hj
  unfold dx
  push_cast at h3 h4
  omega
end Mk
/-- A leg's turn and length, a walk's places. -/
def lT (a b : Nat → Int) (j : Nat) : Nat := lgT (qz (Mk.dx a j)) (qz (Mk.dx b j))
def lL (a b : Nat → Int) (j : Nat) : Nat := lng (qz (Mk.dx a j)) (qz (Mk.dx b j))
def wX (a b : Nat → Int) : Nat → Nat
  | 0 => qz (a 0)
  | j + 1 => fop .add .f32 (wX a b j) (stX (lT a b j) (lL a b j))
def wY (a b : Nat → Int) : Nat → Nat
  | 0 => qz (b 0)
  | j + 1 => fop .add .f32 (wY a b j) (stY (lT a b j) (lL a b j))
theorem w_near {n : Nat} {a b : Nat → Int} (h : Mk n a b) : ∀ j, j < n → inn .f32 (wX a b j) ((a j : Rat) / 4 - (j : Rat) / 32768) ((a j : Rat) / 4 + (j : Rat) / 32768) ∧ inn .f32 (wY a b j) ((b j : Rat) / 4 - (j : Rat) / 32768) ((b j : Rat) / 4 + (j : Rat) / 32768)
  | 0, hj => by
    have h1 := h.a0 0 hj
    have h2 := h.a1 0 hj
    have h3 := h.b0 0 hj
    have h4 := h.b1 0 hj
    obtain ⟨m1, m2⟩ := qz_val (z := a 0) (by omega) (by omega)
    obtain ⟨m3, m4⟩ := qz_val (z := b 0) (by omega) (by omega)
    exact ⟨⟨m1, by unfold wX; rw [m2]; simp; grind, by unfold wX; rw [m2]; simp; grind⟩, ⟨m3, by unfold wY; rw [m4]; simp; grind, by unfold wY; rw [m4]; simp; grind⟩⟩
  | j + 1, hj => by
    obtain ⟨i1, i2⟩ := w_near h j (by omega)
    obtain ⟨s1, s2, s3, s4⟩ := h.step hj
    obtain ⟨-, k⟩ := lg_ok s1 s2 s3 s4
    have h3 := h.a0 (j + 1) hj
    have h4 := h.a1 (j + 1) hj
    have h7 := h.b0 (j + 1) hj
    have h8 := h.b1 (j + 1) hj
    have hn := h.n9
    have ea : ((Mk.dx a j : Int) : Rat) = (a (j + 1) : Rat) - (a j : Rat) := by unfold Mk.dx; push_cast; rfl
    have eb : ((Mk.dx b j : Int) : Rat) = (b (j + 1) : Rat) - (b j : Rat) := by unfold Mk.dx; push_cast; rfl
    have p1 := k.px.2.1
    have p2' := k.px.2.2
    have q1 := k.py.2.1
    have q2 := k.py.2.2
    have u1 := i1.2.1
    have u2 := i1.2.2
    have v1 := i2.2.1
    have v2 := i2.2.2
    rw [ea] at p1 p2'
    rw [eb] at q1 q2
    refine ⟨(add_rd i1.1 k.px.1).inn (isf_g (a (j + 1) * 8192 - ((j + 1 : Nat) : Int)) (by omega) (by push_cast; grind)) (isf_g (a (j + 1) * 8192 + ((j + 1 : Nat) : Int)) (by omega) (by push_cast; grind)) ?_ ?_, (add_rd i2.1 k.py.1).inn (isf_g (b (j + 1) * 8192 - ((j + 1 : Nat) : Int)) (by omega) (by push_cast; grind)) (isf_g (b (j + 1) * 8192 + ((j + 1 : Nat) : Int)) (by omega) (by push_cast; grind)) ?_ ?_⟩
    all_goals
      push_cast
      grind
end Go.Proofs.Ytnkfbinppikhkaa
