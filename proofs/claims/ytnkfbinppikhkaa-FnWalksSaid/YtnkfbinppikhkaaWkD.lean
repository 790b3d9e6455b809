/- Contracts of phasors and ways. No condition. -/
import Derived.Test.YtnkfbinppikhkaaWkC
namespace Go.Proofs.Ytnkfbinppikhkaa
open Go.RowKit
set_option linter.unusedSimpArgs false
theorem qua_stop {m f q : Nat} (h : fge .f64 f 4598175219545276416 = false) : Qua m f q = (f, q) := by
  cases m
  · rfl
  · unfold Qua; rw [if_neg (by rw [h]; decide)]
theorem qua_go {m f q : Nat} (h : fge .f64 f 4598175219545276416 = true) : Qua (m + 1) f q = Qua m (fop .sub .f64 f 4598175219545276416) (q + 1) := by
  show (if fge .f64 f 4598175219545276416 then _ else _) = _
  rw [if_pos h]
theorem phC0 (f : Nat) : phC f 0 = SineF (Frac (fop .sub .f64 4598175219545276416 f)) := rfl
theorem phC1 (f : Nat) : phC f 1 = fop .sub .f64 0 (SineF (Frac f)) := rfl
theorem phC2 (f : Nat) : phC f 2 = fop .sub .f64 0 (SineF (Frac (fop .sub .f64 4598175219545276416 f))) := rfl
theorem phC3 (f : Nat) : phC f 3 = SineF (Frac f) := rfl
theorem phS0 (f : Nat) : phS f 0 = SineF (Frac f) := rfl
theorem phS1 (f : Nat) : phS f 1 = SineF (Frac (fop .sub .f64 4598175219545276416 f)) := rfl
theorem phS2 (f : Nat) : phS f 2 = fop .sub .f64 0 (SineF (Frac f)) := rfl
theorem phS3 (f : Nat) : phS f 3 = fop .sub .f64 0 (SineF (Frac (fop .sub .f64 4598175219545276416 f))) := rfl
set_option maxRecDepth 100000 in
set_option maxHeartbeats 4000000 in
theorem phasor_c (x X : Nat) (hx : cn .f64 x = X) (hB : phB X = true) (w : World) : Calls Try.prog 38 #[.float .f64 x] w (Ret (RC (fcv .f64 .f32 (PhC X)) (fcv .f64 .f32 (PhS X))) w) := by
  unfold phB at hB
  simp only [Bool.and_eq_true, Bool.not_eq_true'] at hB
  obtain ⟨⟨⟨⟨f1, f2⟩, f3⟩, f4⟩, f5⟩ := hB
  have H4 := Lib.hid (fits_ofB f4)
  have H5 := Lib.hid (fits_ofB f5)
  have HI := Lib.hid (fun w => f1 ▸ iisFinite_c x X hx w)
  obtain ⟨F, hF⟩ : ∃ F, Frac X = F := ⟨_, rfl⟩
  have HF := Lib.hid hF
  rw [hF] at f3
  have H3 := Lib.hid f3
  clear f1 f4 f5 hF f3
  go_enter Try.func38, Try.ntmps38
  go_wp2_with (first | (go_at_call 49; ((with_reducible refine (HI.out _).mono ?_); rintro e w1 ⟨⟨v, rfl, rfl⟩, hb⟩)) | (go_at_call 46; ((with_reducible refine (abs_c _ _ (by assumption) _).mono ?_); rintro e w1 ⟨⟨v, rfl, r, rfl, hr, hw⟩, hb⟩)) | (go_at_call 50; ((with_reducible refine (frac_c _ _ (by assumption) _).mono ?_); rintro e w1 ⟨⟨v, rfl, r, rfl, hr, hw⟩, hb⟩)))
  go_loopw [4, 5] (fun f k wr => ∃ (m q r : Nat), q + m = 3 ∧ k = .int .i64 (q : Int) ∧ f = .float .f64 r ∧ Qua m (cn .f64 r) q = Qua 3 F 0 ∧ Below w.heap.size w wr) (fun _ k _ => 3 - (intOf k).toNat)
  case atStart => exact ⟨3, 0, _, rfl, rfl, rfl, by rw [← HF.out]; simp only [*], by (with_reducible repeat (first | exact Below.refl _ _ | apply below_alloc | apply below_dN | apply below_d | refine below_setCell ?_ (by dsimp only; omega) | refine below_call (by assumption) ?_))⟩
  case round =>
    obtain ⟨m, q, r, hm, rfl, rfl, hq, hB⟩ := hrel
    have HB := Lib.hid hB
    clear hB
    cases c : fge .f64 (cn .f64 r) 4598175219545276416
    · have e := hq.symm.trans (qua_stop c)
      have h4 : fits .f64 .f32 (phC (cn .f64 r) q) := by have := H4.out; unfold PhC at this; rw [HF.out, e] at this; exact this
      have h5 : fits .f64 .f32 (phS (cn .f64 r) q) := by have := H5.out; unfold PhS at this; rw [HF.out, e] at this; exact this
      have g4 : PhC X = phC (cn .f64 r) q := by unfold PhC; rw [HF.out, e]
      have g5 : PhS X = phS (cn .f64 r) q := by unfold PhS; rw [HF.out, e]
      clear hq e
      obtain ⟨V, hV⟩ : ∃ V, cn .f64 r = V := ⟨_, rfl⟩
      rw [hV] at h4 h5 c g4 g5
      rcases (by omega : q = 0 ∨ q = 1 ∨ q = 2 ∨ q = 3) with rfl | rfl | rfl | rfl
      all_goals
        simp only [phC0, phC1, phC2, phC3, phS0, phS1, phS2, phS3] at h4 h5 g4 g5
        have G4 := Lib.hid g4
        have G5 := Lib.hid g5
        clear g4 g5
        clear hm
        (go_wp2_with (first | (go_at_call 51; ((with_reducible refine (sine_c _ _ _ (by assumption) rfl _).mono ?_); rintro e w1 ⟨⟨v, rfl, r, rfl, hr, hw⟩, hb⟩)) | (refine wpL_farith rfl _ _ _ _ _ rfl rfl _ _ _ rfl rfl ?_; intro r n hr hw) | (refine wpL_fconv_fits rfl 35 36 _ rfl .f64 .f32 _ rfl (by decide) Try.underlying35 Try.underlying36 (by simp only [*, cnc_f64_0, cnc_f64_4598175219545276416]) ?_; intro r n hr hw)))
        go_ret
        exact ⟨⟨_, rfl, _, _, rfl, by rw [G4.out]; simp only [*, cnc_f64_0, cnc_f64_4598175219545276416], by rw [G5.out]; simp only [*, cnc_f64_0, cnc_f64_4598175219545276416], okf_of (by assumption), okf_of (by assumption)⟩, by have := HB.out; (with_reducible repeat (first | exact Below.refl _ _ | apply below_alloc | apply below_dN | apply below_d | refine below_setCell ?_ (by dsimp only; omega) | refine below_call (by assumption) ?_))⟩
    · obtain ⟨k, rfl⟩ : ∃ k, m = k + 1 := by
        cases m
        · have : (cn .f64 r) = (Qua 3 F 0).1 := by rw [← hq]; rfl
          rw [this] at c
          have h3 := H3.out
          rw [h3] at c
          cases c
        · exact ⟨_, rfl⟩
      have e := (qua_go c).symm.trans hq
      have HE := Lib.hid e
      clear hq e
      go_wp2_with (refine wpL_farith rfl _ _ _ _ _ rfl rfl _ _ _ rfl rfl ?_; intro r n hr hw)
      go_roundw
      case rel => exact ⟨k, q + 1, _, by omega, by go_num, rfl, by rw [← HE.out]; simp only [*, cnc_f64_4598175219545276416], by have := HB.out; (with_reducible repeat (first | exact Below.refl _ _ | apply below_alloc | apply below_dN | apply below_d | refine below_setCell ?_ (by dsimp only; omega) | refine below_call (by assumption) ?_))⟩
      case measure => first | (simp [intOf]; done) | (simp [intOf]; omega)
set_option maxHeartbeats 400000 in
theorem wayOf_c (x X : Nat) (hx : cn .f32 x = X) (hB : phB (lgW X) = true) (w : World) : Calls Try.prog 24 #[.float .f32 x] w (Ret (RC (fcv .f64 .f32 (PhC (lgW X))) (fcv .f64 .f32 (PhS (lgW X)))) w) := by
  have HP := Lib.hid (fun r hr w => phasor_c r (lgW X) hr hB w)
  have hl : lgW X = fcv .f32 .f64 (fop .sub .f32 1048576000 X) := rfl
  have HL := Lib.hid hl
  clear hB hl
  go_enter Try.func24, Try.ntmps24
  go_wp2_with (first | (refine wpL_farith rfl _ _ _ _ _ rfl rfl _ _ _ rfl rfl ?_; intro r n hr hw) | (refine wpL_fconv_fits rfl 36 35 _ rfl .f32 .f64 _ rfl (by decide) Try.underlying36 Try.underlying35 (fits_wide _) ?_; intro r n hr hw) | (go_at_call 38; ((with_reducible refine (HP.out _ (by rw [HL.out]; simp only [*, cnc_f32_1048576000]) _).mono ?_); rintro e w1 ⟨⟨v, rfl, a, b, rfl, ha, hb, oa, ob⟩, hbe⟩)))
  go_ret
  exact ⟨⟨_, rfl, _, _, rfl, ha, hb, oa, ob⟩, by (with_reducible repeat (first | exact Below.refl _ _ | apply below_alloc | apply below_dN | apply below_d | refine below_setCell ?_ (by dsimp only; omega) | refine below_call (by assumption) ?_))⟩
end Go.Proofs.Ytnkfbinppikhkaa
