/- Which is further apart than half a turn, in both spellings. No condition. -/
import Derived.Test.YtnkimeeofmbhkaaOpp
namespace Go.Proofs.Ytnkimeeofmbhkaa
set_option linter.unusedSimpArgs false
theorem neg_isf {x : Nat} (h : inn .f32 x (-128) 128) : isf .f32 (-fv .f32 x) := by
  obtain ⟨⟨s, m, p, hr⟩, h1, h2⟩ := h
  obtain ⟨hm, hp⟩ := read_digits hr
  have hv : fv .f32 x = dval (.number s m p) := by unfold fv; rw [hr]
  have hneg : dval (.number (!s) m p) = -dval (.number s m p) := by
    cases s
    · rw [dval_pos]; exact dval_neg ..
    · rw [dval_neg]
      have := dval_pos (m := m) (p := p)
      grind
  have hE : (m : Rat) * p2 p ≤ p2 (maxE FloatKind.f32.format) := by
    have h3 : (128 : Rat) ≤ p2 (maxE FloatKind.f32.format) := by decide +kernel
    cases s
    · rw [hv, dval_pos] at h2; grind
    · rw [hv, dval_neg] at h1; grind
  have e := exact_nearest .f32 (!s) m p hm hp hE
  have h3 : (128 : Rat) ≤ p2 (maxE FloatKind.f32.format) := by decide +kernel
  exact ⟨⟨_, e.1, by rw [e.2, hneg, hv]⟩, by grind, by grind⟩
/-- How great a number is, as the reference reckons it. -/
def szS (X : Nat) : Nat := if fle .f32 X 0 then fop .sub .f32 0 X else X
theorem zero_num : num .f32 0 ∧ fv .f32 0 = 0 := by
  refine ⟨⟨false, 0, -149, by decide +kernel⟩, ?_⟩
  unfold fv
  rw [show FloatKind.f32.format.read 0 = .number false 0 (-149) by decide +kernel]
  simp [dval]
theorem szS_val {X : Nat} (h : inn .f32 X (-128) 128) : num .f32 (szS X) ∧ fv .f32 (szS X) = if fv .f32 X < 0 then -fv .f32 X else fv .f32 X := by
  unfold szS
  rw [fle_val h.1 zero_num.1, zero_num.2]
  by_cases c : fv .f32 X ≤ 0
  · rw [if_pos (by simpa using c)]
    have hr := sub_rd (k := .f32) zero_num.1 h.1
    rw [zero_num.2] at hr
    have e := hr.same (by rw [show (0 : Rat) - fv .f32 X = -fv .f32 X by grind]; exact neg_isf h)
    refine ⟨e.1, ?_⟩
    rw [e.2]
    split <;> grind
  · rw [if_neg (by simpa using c), if_neg (by grind)]
    exact ⟨h.1, rfl⟩
/-- .. as the program does. -/
def szI (X : Nat) : Nat := fcv .f64 .f32 (fabs (fcv .f32 .f64 X))
theorem szI_val {X : Nat} (h : inn .f32 X (-128) 128) : num .f32 (szI X) ∧ fv .f32 (szI X) = if fv .f32 X < 0 then -fv .f32 X else fv .f32 X := by
  obtain ⟨n1, e1⟩ := wide_num h.1
  obtain ⟨n2, e2⟩ := abs_val n1
  rw [e1] at e2
  have hr := conv_rd (k' := .f32) n2
  rw [e2] at hr
  have h3 : (128 : Rat) ≤ p2 (maxE FloatKind.f32.format) := by decide +kernel
  obtain ⟨h0, h1, h2⟩ := h
  have hi : isf .f32 (if fv .f32 X < 0 then -fv .f32 X else fv .f32 X) := by
    split
    · exact neg_isf ⟨h0, h1, h2⟩
    · exact isf_fv h0 (by grind) (by grind)
  exact hr.same hi
/-- Both spellings find the same numbers greater than a half. -/
theorem sz_same {X : Nat} (h : inn .f32 X (-128) 128) (H : Nat) (hH : num .f32 H) : fgt .f32 (szS X) H = fgt .f32 (szI X) H := by
  obtain ⟨n1, e1⟩ := szS_val h
  obtain ⟨n2, e2⟩ := szI_val h
  rw [fgt_val n1 hH, fgt_val n2 hH, e1, e2]
/-- The program's number needs no chance: it fits. -/
theorem szI_fits {X : Nat} (h : inn .f32 X (-128) 128) : fits .f64 .f32 (fabs (fcv .f32 .f64 X)) := by
  obtain ⟨n1, e1⟩ := wide_num h.1
  obtain ⟨n2, e2⟩ := abs_val n1
  rw [e1] at e2
  obtain ⟨h0, h1, h2⟩ := h
  have hin : inn .f64 (fabs (fcv .f32 .f64 X)) (-128) 128 := ⟨n2, by rw [e2]; split <;> grind, by rw [e2]; split <;> grind⟩
  exact hin.fits (E := 7) (by decide) (by decide) (by decide +kernel) (by decide +kernel)
theorem isf32_16 : isf .f32 16 := isf_of 1098907648 (by decide +kernel)
theorem isf32_n16 : isf .f32 (-16) := isf_of 3246391296 (by decide +kernel)
theorem isf32_32 : isf .f32 32 := isf_of 1107296256 (by decide +kernel)
theorem isf32_n32 : isf .f32 (-32) := isf_of 3254779904 (by decide +kernel)
theorem isf32_64 : isf .f32 64 := isf_of 1115684864 (by decide +kernel)
theorem isf32_n64 : isf .f32 (-64) := isf_of 3263168512 (by decide +kernel)
/-- What is brought back stays small. -/
theorem Wrap_inn {X : Nat} (h : inn .f32 X (-4) 4) : inn .f32 (Wrap X) (-32) 32 := by
  have hf := (floor_small (half_inn h)).1
  have a1 := h.2.1
  have a2 := h.2.2
  have b1 := hf.2.1
  have b2 := hf.2.2
  have hc := (conv_rd (k' := .f32) hf.1).inn isf32_n16 isf32_16 b1 b2
  have c1 := hc.2.1
  have c2 := hc.2.2
  have hy : inn .f32 (WrapY X) (-32) 32 := (sub_rd h.1 hc.1).inn isf32_n32 isf32_32 (by grind) (by grind)
  unfold Wrap
  split
  · exact ⟨num32_nh, by rw [v32_nh]; grind, by rw [v32_nh]; grind⟩
  · exact hy
/-- How far east of the border a place lies. -/
def EastF (B Y : Nat) : Nat := Wrap (fop .sub .f32 (fop .sub .f32 Y B) 1056964608)
theorem east_arg {B Y : Nat} (hB : inn .f32 B (-1/2) (1/2)) (hY : inn .f32 Y (-1/2) (1/2)) : inn .f32 (fop .sub .f32 (fop .sub .f32 Y B) 1056964608) (-4) 4 := by
  have a1 := hB.2.1
  have a2 := hB.2.2
  have b1 := hY.2.1
  have b2 := hY.2.2
  have h1 := (sub_rd hY.1 hB.1).inn isf32_n2 isf32_2 (by grind) (by grind)
  have c1 := h1.2.1
  have c2 := h1.2.2
  exact (by
    have h4 := (sub_rd h1.1 num32_h)
    have i4 : isf .f32 4 := isf_of 1082130432 (by decide +kernel)
    have in4 : isf .f32 (-4) := isf_of 3229614080 (by decide +kernel)
    exact h4.inn in4 i4 (by rw [v32_h]; grind) (by rw [v32_h]; grind))
theorem border_inn {B : Nat} (h : (fge .f32 B 3204448256 && fle .f32 B 1056964608) = true) : inn .f32 B (-1/2) (1/2) := by
  simp only [Bool.and_eq_true] at h
  obtain ⟨h1, h2⟩ := h
  have n := num_between num32_nh num32_h h1 h2
  rw [fge_val n num32_nh, v32_nh] at h1
  rw [fle_val n num32_h, v32_h] at h2
  simp only [decide_eq_true_eq] at h1 h2
  exact ⟨n, by grind, by grind⟩
theorem diff_inn {F G : Nat} (h1 : inn .f32 F (-32) 32) (h2 : inn .f32 G (-32) 32) : inn .f32 (fop .sub .f32 F G) (-128) 128 := by
  have a1 := h1.2.1
  have a2 := h1.2.2
  have b1 := h2.2.1
  have b2 := h2.2.2
  exact ((sub_rd h1.1 h2.1).inn isf32_n64 isf32_64 (by grind) (by grind)).mono (by decide +kernel) (by decide +kernel)
/-- Whether a piece begins at place i. -/
def cutAt (B : Nat) (Y : Nat → Nat) (i : Nat) : Bool := if i = 0 then true else fgt .f32 (szI (fop .sub .f32 (EastF B (Y i)) (EastF B (Y (i - 1))))) 1056964608
theorem cutAt_zero {B : Nat} {Y : Nat → Nat} : cutAt B Y 0 = true := rfl
end Go.Proofs.Ytnkimeeofmbhkaa
