/- What one sees on small grids of small heights, in plain words. No condition. -/
import Derived.Test.YtpajakindpbepaaSFl
namespace Go.Proofs.Ytpajakindpbepaa
open Go.RowKit Ieee
set_option linter.unusedSimpArgs false
theorem isfB_val {k : FloatKind} {x : Nat} {r : Rat} (h : isfB k x r = true) : num k x ∧ fv k x = r := by
  unfold isfB at h
  cases e : k.format.read x with
  | number s m p =>
    rw [e] at h
    simp only [Bool.and_eq_true, decide_eq_true_eq] at h
    exact ⟨⟨s, m, p, e⟩, by unfold fv; rw [e]; exact h.1.1⟩
  | nan s f => rw [e] at h; cases h
  | infinity s => rw [e] at h; cases h
/-- Quarters. -/
def q4 (h : Nat) : Nat := fop .quo .f32 (fofI .f32 (h : Int)) 1082130432
theorem q4_all : ∀ u : Fin 42, isfB .f32 (q4 u.val) ((u.val : Rat) / 4) = true := by decide +kernel
theorem q4_inn {h : Nat} (hh : h ≤ 41) : inn .f32 (q4 h) ((h : Rat) / 4) ((h : Rat) / 4) := by
  have := isfB_val (q4_all ⟨h, by omega⟩)
  exact ⟨this.1, by rw [this.2]; exact Rat.le_refl, by rw [this.2]; exact Rat.le_refl⟩
theorem isf_q {h : Nat} (hh : h ≤ 41) : isf .f32 ((h : Rat) / 4) := isf_of _ (q4_all ⟨h, by omega⟩)
theorem isf32_8 : isf .f32 8 := isf_of 1090519040 (by decide +kernel)
theorem isf32_16 : isf .f32 16 := isf_of 1098907648 (by decide +kernel)
theorem isf32_32 : isf .f32 32 := isf_of 1107296256 (by decide +kernel)
theorem isf32_1000 : isf .f32 1000 := isf_of 1148846080 (by decide +kernel)
theorem isf32_1008 : isf .f32 1008 := isf_of 1148977152 (by decide +kernel)
theorem isf32_n1008 : isf .f32 (-1008) := isf_of 3296460800 (by decide +kernel)
theorem isf32_n992 : isf .f32 (-992) := isf_of 3296198656 (by decide +kernel)
theorem isf32_1016 : isf .f32 1016 := isf_of 1149108224 (by decide +kernel)
theorem isf32_n882 : isf .f32 (-882) := isf_of 3294396416 (by decide +kernel)
theorem isf32_118 : isf .f32 118 := isf_of 1122762752 (by decide +kernel)
theorem isf32_78 : isf .f32 (7/8) := isf_of 1063256064 (by decide +kernel)
theorem inn_1000 : inn .f32 1148846080 1000 1000 := by
  have := isfB_val (show isfB .f32 1148846080 1000 = true by decide +kernel)
  exact ⟨this.1, by rw [this.2]; exact Rat.le_refl, by rw [this.2]; exact Rat.le_refl⟩
theorem inn_one : inn .f32 1065353216 1 1 := by
  have := isfB_val (show isfB .f32 1065353216 1 = true by decide +kernel)
  exact ⟨this.1, by rw [this.2]; exact Rat.le_refl, by rw [this.2]; exact Rat.le_refl⟩
theorem inn_add {x y : Nat} {a b c d p q : Rat} (h : inn .f32 x a b) (h' : inn .f32 y c d) (e : a + c = p) (e' : b + d = q) (i : isf .f32 p) (j : isf .f32 q) : inn .f32 (fop .add .f32 x y) p q := by
  subst e e'
  have h1 := h.2.1
  have h2 := h.2.2
  have h3 := h'.2.1
  have h4 := h'.2.2
  exact (add_rd h.1 h'.1).inn i j (by grind) (by grind)
theorem inn_sub {x y : Nat} {a b c d p q : Rat} (h : inn .f32 x a b) (h' : inn .f32 y c d) (e : a - d = p) (e' : b - c = q) (i : isf .f32 p) (j : isf .f32 q) : inn .f32 (fop .sub .f32 x y) p q := by
  subst e e'
  have h1 := h.2.1
  have h2 := h.2.2
  have h3 := h'.2.1
  have h4 := h'.2.2
  exact (sub_rd h.1 h'.1).inn i j (by grind) (by grind)
/-- A share of what is not above nothing, or not below it. -/
theorem inn_share {x y : Nat} {a b t p q : Rat} (h : inn .f32 x a b) (h' : inn .f32 y 0 t) (ha : a ≤ 0) (hb : 0 ≤ b) (e : a * t = p) (e' : b * t = q) (i : isf .f32 p) (j : isf .f32 q) : inn .f32 (fop .mul .f32 x y) p q := by
  subst e e'
  have h1 := h.2.1
  have h2 := h.2.2
  have h3 := h'.2.1
  have h4 := h'.2.2
  have e1 := Rat.mul_le_mul_of_nonneg_right h1 h3
  have e2 := Rat.mul_le_mul_of_nonneg_right h2 h3
  have e3 := Rat.mul_le_mul_of_nonneg_left h4 hb
  have e4 := Rat.mul_le_mul_of_nonneg_left h4 (show (0 : Rat) ≤ -a by grind)
  exact (mul_rd h.1 h'.1).inn i j (by grind) (by grind)
theorem shr78 {k s : Nat} (h1 : k < s) (h3 : s ≤ 8) : inn .f32 (shrF k s) 0 (7/8) := by
  obtain ⟨nk, vk⟩ := fofI_val64 (u := k) (by omega)
  obtain ⟨ns, vs⟩ := fofI_val64 (u := s) (by omega)
  have s0 : (0 : Rat) < s := by exact_mod_cast (by omega : 0 < s)
  have k0 : (0 : Rat) ≤ k := Rat.natCast_nonneg
  have ks : (8 : Rat) * k ≤ 7 * s := by exact_mod_cast (by omega : 8 * k ≤ 7 * s)
  have i0 : 0 ≤ ((s : Rat))⁻¹ := Rat.le_of_lt (Rat.inv_pos.2 s0)
  have e := quo_rd nk ns (by rw [vs]; grind)
  rw [vk, vs, Rat.div_def] at e
  refine e.inn isf32_0 isf32_78 (Rat.mul_nonneg k0 i0) ?_
  have h := Rat.mul_le_mul_of_nonneg_right ks i0
  have h5 : (s : Rat) * ((s : Rat))⁻¹ = 1 := Rat.mul_inv_cancel _ (by grind)
  grind
theorem lerp_in {u p q : Nat} {b : Rat} (hb : isf .f32 b) (h2 : isf .f32 (b + b)) (hu : inn .f32 u 0 1) (hp : inn .f32 p 0 b) (hq : inn .f32 q 0 b) : inn .f32 (lerpF u p q) 0 (b + b) := by
  have u0 := hu.2.1
  have u1 := hu.2.2
  have p0 := hp.2.1
  have p1 := hp.2.2
  have q0 := hq.2.1
  have q1 := hq.2.2
  have s := (sub_rd num32_1 hu.1).inn isf32_0 isf32_1 (by rw [v32_1]; grind) (by rw [v32_1]; grind)
  have s0 := s.2.1
  have s1 := s.2.2
  have m1 := (mul_rd s.1 hp.1).inn isf32_0 hb (Rat.mul_nonneg s0 p0) (by have := Rat.mul_le_mul_of_nonneg_right s1 p0; grind)
  have m2 := (mul_rd hu.1 hq.1).inn isf32_0 hb (Rat.mul_nonneg u0 q0) (by have := Rat.mul_le_mul_of_nonneg_right u1 q0; grind)
  have a0 := m1.2.1
  have a1 := m1.2.2
  have b0 := m2.2.1
  have b1 := m2.2.2
  exact (add_rd m1.1 m2.1).inn isf32_0 h2 (by grind) (by grind)
def uB (W p q k s : Nat) : Bool := fin .f32 (htU (mixF (fofI .f32 (p : Int)) (fofI .f32 (q : Int)) (shrF k s)) W) && (fge .f32 (htU (mixF (fofI .f32 (p : Int)) (fofI .f32 (q : Int)) (shrF k s)) W) 0 && fle .f32 (htU (mixF (fofI .f32 (p : Int)) (fofI .f32 (q : Int)) (shrF k s)) W) 1065353216)
theorem u_all : ∀ W : Fin 4, ∀ p : Fin 5, ∀ q : Fin 5, ∀ s : Fin 9, ∀ k : Fin 9, p.val < W.val + 2 → q.val < W.val + 2 → 1 ≤ k.val → k.val < s.val → uB (W.val + 2) p.val q.val k.val s.val = true := by decide +kernel
theorem u_inn {W p q k s : Nat} (h1 : 2 ≤ W) (h2 : W ≤ 5) (hp : p < W) (hq : q < W) (hk : 1 ≤ k) (hks : k < s) (hs : s ≤ 8) : inn .f32 (htU (mixF (fofI .f32 (p : Int)) (fofI .f32 (q : Int)) (shrF k s)) W) 0 1 := by
  have h := u_all ⟨W - 2, by omega⟩ ⟨p, by omega⟩ ⟨q, by omega⟩ ⟨s, by omega⟩ ⟨k, by omega⟩ (by simp only; omega) (by simp only; omega) hk hks
  simp only [show W - 2 + 2 = W by omega] at h
  unfold uB at h
  simp only [Bool.and_eq_true] at h
  have n := (fin_num _).1 h.1
  have a := h.2.1
  have b := h.2.2
  rw [fge_val n (num_zero _), fv_zero] at a
  rw [fle_val n num32_1, v32_1] at b
  exact ⟨n, by simpa using a, by simpa using b⟩
theorem drop1 {F : Nat} (h : inn .f32 F 0 22) : inn .f32 (dropF F 1065353216) 0 0 := by
  have a := h.2.1
  have b := h.2.2
  have m := (mul_rd h.1 h.1).inn isf32_0 isf32_484 (Rat.mul_nonneg a a) (by have h1 := Rat.mul_le_mul_of_nonneg_left b a; have h2 := Rat.mul_le_mul_of_nonneg_right b (show (0 : Rat) ≤ 22 by decide); grind)
  have s := (sub_rd num32_1 num32_1).inn isf32_0 isf32_0 (by grind) (by grind)
  have s0 : fv .f32 (fop .sub .f32 1065353216 1065353216) = 0 := Rat.le_antisymm s.2.2 s.2.1
  have p := (mul_rd m.1 s.1).inn isf32_0 isf32_0 (by rw [s0]; grind) (by rw [s0]; grind)
  have p0 := Rat.le_antisymm p.2.2 p.2.1
  have q := quo_rd p.1 num32_2 (by rw [v32_2]; decide)
  unfold dropF
  rw [v32_2, p0] at q
  exact q.inn isf32_0 isf32_0 (by decide +kernel) (by decide +kernel)
theorem seeL_ok {G S : Nat → Nat} {s : Nat} (h : ∀ k, 1 ≤ k → k < s → (fin .f32 (G k) && fin .f32 (S k)) = true) : ∀ m k, k + m = s → 1 ≤ k → (seeL G S m k).2 = true
  | 0, _, _, _ => rfl
  | m + 1, k, e, h1 => by
    have hk := h k h1 (by omega)
    cases hf : fgt .f32 (G k) (S k)
    · rw [seeL_on hk hf]; exact seeL_ok h m (k + 1) (by omega) (by omega)
    · rw [seeL_hid hk hf]
theorem seeL_yes {G S : Nat → Nat} {s : Nat} (h : ∀ k, 1 ≤ k → k < s → (fin .f32 (G k) && fin .f32 (S k)) = true ∧ fgt .f32 (G k) (S k) = false) : ∀ m k, k + m = s → 1 ≤ k → seeL G S m k = (true, true)
  | 0, _, _, _ => rfl
  | m + 1, k, e, h1 => by
    obtain ⟨hk, hf⟩ := h k h1 (by omega)
    rw [seeL_on hk hf]; exact seeL_yes h m (k + 1) (by omega) (by omega)
/-- A small grid, two places of it, and how often one looks. -/
structure Small (W D f t s : Nat) : Prop where
  w1 : 2 ≤ W
  w2 : W ≤ 5
  d1 : 2 ≤ D
  d2 : D ≤ 5
  hf : f < W * D
  ht : t < W * D
  s1 : 1 ≤ s
  s2 : s ≤ 8
namespace Small
variable {W D f t s : Nat}
theorem far (h : Small W D f t s) : inn .f32 (farF W f t) 0 22 := lng_inn (dsq_le h.w1 (by have := h.w2; omega) h.d1 (by have := h.d2; omega) h.ht h.hf)
theorem ux (h : Small W D f t s) {k : Nat} (hk : 1 ≤ k) (hks : k < s) : inn .f32 (htU (seeX W f t (shrF k s)) W) 0 1 := by
  have m1 := Nat.mod_lt f (show 0 < W by have := h.w1; omega)
  have m2 := Nat.mod_lt t (show 0 < W by have := h.w1; omega)
  unfold seeX
  rw [show (f : Int) % (W : Int) = ((f % W : Nat) : Int) by omega, show (t : Int) % (W : Int) = ((t % W : Nat) : Int) by omega]
  exact u_inn h.w1 h.w2 m1 m2 hk hks h.s2
theorem uy (h : Small W D f t s) {k : Nat} (hk : 1 ≤ k) (hks : k < s) : inn .f32 (htU (seeY W f t (shrF k s)) D) 0 1 := by
  have m1 : f / W < D := Nat.div_lt_of_lt_mul h.hf
  have m2 : t / W < D := Nat.div_lt_of_lt_mul h.ht
  unfold seeY
  rw [show (f : Int) / (W : Int) = ((f / W : Nat) : Int) by simp, show (t : Int) / (W : Int) = ((t / W : Nat) : Int) by simp]
  exact u_inn h.d1 h.d2 m1 m2 hk hks h.s2
theorem ground (h : Small W D f t s) {X : Nat → Nat} (hX : ∀ j, inn .f32 (X j) 0 8) {k : Nat} (hk : 1 ≤ k) (hks : k < s) : inn .f32 (grdF X W D f t 1065353216 s k) 0 32 := by
  have hu := h.ux hk hks
  have hv := h.uy hk hks
  have e8 : (8 : Rat) + 8 = 16 := by decide +kernel
  have e16 : (16 : Rat) + 16 = 32 := by decide +kernel
  have l1 := lerp_in isf32_8 (e8 ▸ isf32_16) hu (hX (htC (seeY W f t (shrF k s)) D * W + htC (seeX W f t (shrF k s)) W)) (hX (htC (seeY W f t (shrF k s)) D * W + htC (seeX W f t (shrF k s)) W + 1))
  have l2 := lerp_in isf32_8 (e8 ▸ isf32_16) hu (hX (htC (seeY W f t (shrF k s)) D * W + htC (seeX W f t (shrF k s)) W + W)) (hX (htC (seeY W f t (shrF k s)) D * W + htC (seeX W f t (shrF k s)) W + W + 1))
  rw [e8] at l1 l2
  have l3 := lerp_in isf32_16 (e16 ▸ isf32_32) hv l1 l2
  rw [e16] at l3
  have d := drop1 (far_inn h.far (shr_inn (Nat.le_of_lt hks) h.s1 (by have := h.s2; omega)))
  exact inn_sub l3 d (by decide +kernel) (by decide +kernel) isf32_0 isf32_32
theorem tops (h : Small W D f t s) {X : Nat → Nat} (hX : ∀ j, inn .f32 (X j) 0 8) {E : Nat} (hE : inn .f32 E 0 1000) : inn .f32 (topF X f E) 0 1008 ∧ inn .f32 (endF X W f t 1065353216) 0 8 := by
  exact ⟨inn_add (hX f) hE (by decide +kernel) (by decide +kernel) isf32_0 isf32_1008, inn_sub (hX t) (drop1 h.far) (by decide +kernel) (by decide +kernel) isf32_0 isf32_8⟩
theorem sight (h : Small W D f t s) {X : Nat → Nat} (hX : ∀ j, inn .f32 (X j) 0 8) {E : Nat} (hE : inn .f32 E 0 1000) {k : Nat} (hks : k < s) : inn .f32 (sgtF X W f t E 1065353216 s k) (-1008) 1016 := by
  obtain ⟨a, b⟩ := h.tops hX hE
  have d := inn_sub b a (by decide +kernel) (by decide +kernel) isf32_n1008 isf32_8
  have m := inn_share d (shr_inn (Nat.le_of_lt hks) h.s1 (by have := h.s2; omega)) (by decide +kernel) (by decide +kernel) (by decide +kernel) (by decide +kernel) isf32_n1008 isf32_8
  exact inn_add a m (by decide +kernel) (by decide +kernel) isf32_n1008 isf32_1016
theorem fins (h : Small W D f t s) {X : Nat → Nat} (hX : ∀ j, inn .f32 (X j) 0 8) {E : Nat} (hE : inn .f32 E 0 1000) : (fin .f32 (topF X f E) && fin .f32 (endF X W f t 1065353216)) = true := by
  obtain ⟨a, b⟩ := h.tops hX hE
  rw [(fin_num _).2 a.1, (fin_num _).2 b.1]; rfl
theorem gs (h : Small W D f t s) {X : Nat → Nat} (hX : ∀ j, inn .f32 (X j) 0 8) {E : Nat} (hE : inn .f32 E 0 1000) {k : Nat} (hk : 1 ≤ k) (hks : k < s) : (fin .f32 (grdF X W D f t 1065353216 s k) && fin .f32 (sgtF X W f t E 1065353216 s k)) = true := by
  rw [(fin_num _).2 (h.ground hX hk hks).1, (fin_num _).2 (h.sight hX hE hks).1]; rfl
/-- One always learns whether one sees. -/
theorem told (h : Small W D f t s) {X : Nat → Nat} (hX : ∀ j, inn .f32 (X j) 0 8) {E : Nat} (hE : inn .f32 E 0 1000) : (seeF X W D f t E 1065353216 s).2 = true := by
  unfold seeF
  rw [if_pos (h.fins hX hE)]
  exact seeL_ok (s := s) (fun k hk hks => h.gs hX hE hk hks) _ _ (by have := h.s1; omega) (Nat.le_refl _)
/-- From high above one sees all. -/
theorem high (h : Small W D f t s) {X : Nat → Nat} (hX : ∀ j, inn .f32 (X j) 0 8) : seeF X W D f t 1148846080 1065353216 s = (true, true) := by
  have hE : inn .f32 1148846080 0 1000 := inn_1000.mono (by decide +kernel) Rat.le_refl
  unfold seeF
  rw [if_pos (h.fins hX hE)]
  refine seeL_yes (s := s) (fun k hk hks => ⟨h.gs hX hE hk hks, ?_⟩) _ _ (by have := h.s1; omega) (Nat.le_refl _)
  have g := h.ground hX hk hks
  have a := inn_add (hX f) inn_1000 (by decide +kernel) (by decide +kernel) isf32_1000 isf32_1008
  have b := (h.tops hX hE).2
  have d := inn_sub b a (by decide +kernel) (by decide +kernel) isf32_n1008 isf32_n992
  have m := inn_share (d.mono Rat.le_refl (show (-992 : Rat) ≤ 0 by decide +kernel)) (shr78 hks h.s2) (by decide +kernel) (by decide +kernel) (by decide +kernel) (by decide +kernel) isf32_n882 isf32_0
  have q := inn_add a m (by decide +kernel) (by decide +kernel) isf32_118 isf32_1008
  have q0 := q.2.1
  have g1 := g.2.2
  have e : fgt .f32 (grdF X W D f t 1065353216 s k) (sgtF X W f t 1148846080 1065353216 s k) = decide (fv .f32 (sgtF X W f t 1148846080 1065353216 s k) < fv .f32 (grdF X W D f t 1065353216 s k)) := fgt_val g.1 q.1
  rw [e, decide_eq_false_iff_not]
  have q1 : (118 : Rat) ≤ fv .f32 (sgtF X W f t 1148846080 1065353216 s k) := q0
  grind
/-- What is near is seen. -/
theorem near (h : Small W D f t 1) {X : Nat → Nat} (hX : ∀ j, inn .f32 (X j) 0 8) {E : Nat} (hE : inn .f32 E 0 1000) : seeF X W D f t E 1065353216 1 = (true, true) := by
  unfold seeF
  rw [if_pos (h.fins hX hE)]
  rfl
end Small
end Go.Proofs.Ytpajakindpbepaa
