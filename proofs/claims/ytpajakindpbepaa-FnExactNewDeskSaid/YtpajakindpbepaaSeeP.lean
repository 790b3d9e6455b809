/- Sights in plain words: shares, distances, drops are small numbers. No condition. -/
import Derived.Test.YtpajakindpbepaaAti
namespace Go.Proofs.Ytpajakindpbepaa
open Go.RowKit Ieee
set_option linter.unusedSimpArgs false
theorem num_between {k : FloatKind} {x a b : Nat} (ha : num k a) (hb : num k b) (h1 : fge k x a = true) (h2 : fle k x b = true) : num k x := by
  obtain ⟨s1, m1, p1, e1⟩ := ha
  obtain ⟨s2, m2, p2, e2⟩ := hb
  unfold fge Format.order at h1
  unfold fle Format.order at h2
  rw [e1] at h1
  rw [e2] at h2
  cases e : k.format.read x with
  | nan s t => rw [e] at h1; simp [Datum.order] at h1
  | infinity s =>
    rw [e] at h1 h2
    cases s
    · simp [Datum.order] at h2
    · simp [Datum.order] at h1
  | number s m p => exact ⟨s, m, p, e⟩
theorem int64_all : ∀ u : Fin 65, (isfB .f32 (fofI .f32 (u.val : Int)) (u.val : Rat)) = true := by decide +kernel
theorem fofI_val64 {u : Nat} (h : u ≤ 64) : num .f32 (fofI .f32 (u : Int)) ∧ fv .f32 (fofI .f32 (u : Int)) = (u : Rat) := by
  have h1 := int64_all ⟨u, by omega⟩
  unfold isfB at h1
  simp only at h1
  cases e : FloatKind.f32.format.read (fofI .f32 (u : Int)) with
  | number s m p =>
    rw [e] at h1
    simp only [Bool.and_eq_true, decide_eq_true_eq] at h1
    exact ⟨⟨s, m, p, e⟩, by unfold fv; rw [e]; exact h1.1.1⟩
  | nan s f => rw [e] at h1; cases h1
  | infinity s => rw [e] at h1; cases h1
def shrF (k s : Nat) : Nat := fop .quo .f32 (fofI .f32 (k : Int)) (fofI .f32 (s : Int))
theorem shr_inn {k s : Nat} (h1 : k ≤ s) (h2 : 1 ≤ s) (h3 : s ≤ 64) : inn .f32 (shrF k s) 0 1 := by
  obtain ⟨nk, vk⟩ := fofI_val64 (u := k) (by omega)
  obtain ⟨ns, vs⟩ := fofI_val64 (u := s) h3
  have s0 : (0 : Rat) < s := by exact_mod_cast h2
  have k0 : (0 : Rat) ≤ k := Rat.natCast_nonneg
  have ks : (k : Rat) ≤ s := by exact_mod_cast h1
  have i0 : 0 ≤ ((s : Rat))⁻¹ := Rat.le_of_lt (Rat.inv_pos.2 s0)
  have e := quo_rd nk ns (by rw [vs]; grind)
  rw [vk, vs, Rat.div_def] at e
  refine e.inn isf32_0 isf32_1 (Rat.mul_nonneg k0 i0) ?_
  have h := Rat.mul_le_mul_of_nonneg_right ks i0
  have h5 : (s : Rat) * ((s : Rat))⁻¹ = 1 := Rat.mul_inv_cancel _ (by grind)
  rw [h5] at h
  exact h
theorem lng22_all : ∀ N : Fin 451, (fin .f32 (lngN N.val) && (fge .f32 (lngN N.val) 0 && fle .f32 (lngN N.val) 1102053376)) = true := by decide +kernel
theorem num22 : num .f32 1102053376 := num_of _ (by decide +kernel)
theorem v22 : fv .f32 1102053376 = 22 := by decide +kernel
theorem isf32_22 : isf .f32 22 := isf_of 1102053376 (by decide +kernel)
theorem isf32_484 : isf .f32 484 := isf_of 1139933184 (by decide +kernel)
theorem lng_inn {N : Nat} (h : N ≤ 450) : inn .f32 (lngN N) 0 22 := by
  have h1 := lng22_all ⟨N, by omega⟩
  simp only [Bool.and_eq_true] at h1
  have h2 := (fin_num _).1 h1.1
  have h3 := h1.2.1
  have h4 := h1.2.2
  rw [fge_val h2 (num_zero _), fv_zero] at h3
  rw [fle_val h2 num22, v22] at h4
  exact ⟨h2, by simpa using h3, by simpa using h4⟩
theorem far_inn {F T : Nat} (h : inn .f32 F 0 22) (hT : inn .f32 T 0 1) : inn .f32 (fop .mul .f32 F T) 0 22 := by
  have a := h.2.1
  have b := h.2.2
  have c := hT.2.1
  have d := hT.2.2
  have h1 := Rat.mul_nonneg a c
  have h2 := Rat.mul_le_mul_of_nonneg_left d a
  exact (mul_rd h.1 hT.1).inn isf32_0 isf32_22 h1 (by grind)
theorem num32_1 : num .f32 1065353216 := num_of _ (by decide +kernel)
theorem v32_1 : fv .f32 1065353216 = 1 := by decide +kernel
theorem num32_2 : num .f32 1073741824 := num_of _ (by decide +kernel)
theorem v32_2 : fv .f32 1073741824 = 2 := by decide +kernel
theorem share_inn {B : Nat} (h : shareF B = true) : inn .f32 B 0 1 := by
  unfold shareF at h
  rw [Bool.and_eq_true] at h
  have n := num_between (num_zero _) num32_1 h.1 h.2
  have h3 := h.1
  have h4 := h.2
  rw [fge_val n (num_zero _), fv_zero] at h3
  rw [fle_val n num32_1, v32_1] at h4
  exact ⟨n, by simpa using h3, by simpa using h4⟩
theorem drop_inn {F B : Nat} (h : inn .f32 F 0 22) (hB : inn .f32 B 0 1) : inn .f32 (dropF F B) 0 484 := by
  have a := h.2.1
  have b := h.2.2
  have c := hB.2.1
  have d := hB.2.2
  have m := (mul_rd h.1 h.1).inn isf32_0 isf32_484 (Rat.mul_nonneg a a) (by have h1 := Rat.mul_le_mul_of_nonneg_left b a; have h2 := Rat.mul_le_mul_of_nonneg_right b (show (0 : Rat) ≤ 22 by decide); grind)
  have s := (sub_rd num32_1 hB.1).inn isf32_0 isf32_1 (by rw [v32_1]; grind) (by rw [v32_1]; grind)
  have m0 := m.2.1
  have m1 := m.2.2
  have s0 := s.2.1
  have s1 := s.2.2
  have p := (mul_rd m.1 s.1).inn isf32_0 isf32_484 (Rat.mul_nonneg m0 s0) (by have h1 := Rat.mul_le_mul_of_nonneg_left s1 m0; grind)
  have p0 := p.2.1
  have p1 := p.2.2
  have q := quo_rd p.1 num32_2 (by rw [v32_2]; decide)
  unfold dropF
  rw [v32_2] at q
  exact q.inn isf32_0 isf32_484 (by grind) (by grind)
theorem least_of {F : Nat} {m : Rat} (h : inn .f32 F 0 m) : leastF F = true := by
  unfold leastF
  rw [(fin_num _).2 h.1, fge_val h.1 (num_zero _), fv_zero]
  simp
  exact h.2.1
end Go.Proofs.Ytpajakindpbepaa
