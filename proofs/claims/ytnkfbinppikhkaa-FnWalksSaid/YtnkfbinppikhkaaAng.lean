/- Contracts of the angle of a point and of roots in both spellings. No condition. -/
import Derived.Test.YtnkfbinppikhkaaAngN
import Derived.Test.YtnkfbinppikhkaaDot
import Derived.Deep.DeepCutAuto
import Derived.Deep.CutBlock
namespace Go.Proofs.Ytnkfbinppikhkaa
open Go.RowKit
set_option linter.unusedSimpArgs false

theorem fits_eq {r Z : Nat} (hf : fits .f64 .f32 Z) (h : cn .f64 r = Z) : fits .f64 .f32 (cn .f64 r) := by rw [h]; exact hf
def RtI (T : Nat) : Nat → Nat
  | 0 => T
  | 1 => Rt T
  | 2 => Rt (Rt T)
  | _ => Rt (Rt (Rt T))
theorem RtI_succ (T m : Nat) (hm : m < 3) : RtI T (m + 1) = Rt (RtI T m) := by
  match m, hm with
  | 0, _ => rfl
  | 1, _ => rfl
  | 2, _ => rfl


set_option maxRecDepth 100000 in
set_option maxHeartbeats 4000000 in
theorem iAng_c (y x Y X : Nat) (hy : cn .f32 y = Y) (hx : cn .f32 x = X) (w : World) : Calls Try.prog 34 #[.float .f32 y, .float .f32 x] w (Ret (RF .f32 (AngF Y X)) w) := by
  have hn := cvn
  by_cases hf : (fin .f32 X && fin .f32 Y) = true
  rotate_left
  · have HA : AngF Y X = qn .f32 := by unfold AngF; rw [if_neg hf]
    rw [HA]
    clear HA hn
    cases f1 : fin .f32 X <;> cases f2 : fin .f32 Y <;> rw [f1, f2] at hf <;> first | (exact absurd rfl hf) | skip
    all_goals
      clear hf
      go_enter Try.func34, Try.ntmps34
      go_wp2_with (first | (go_at_call 20; ((with_reducible refine (areFinite2_c _ _ _ _ _ _ _ (by simp) (by simp) (by simp) hx hy).mono ?_); rintro e w1 ⟨⟨v, rfl, rfl⟩, hb⟩)) | (go_at_call 45; ((with_reducible refine (nan_c _).mono ?_); rintro e w1 ⟨⟨v, rfl, r, rfl, hr, hw⟩, hb⟩)) | (refine wpL_fconv_fits rfl 35 36 _ rfl .f64 .f32 _ rfl (by decide) Try.underlying35 Try.underlying36 (by rw [hr]; exact fits_nan (nanB_qn _)) ?_; intro r n hr hw))
      go_ret
      exact ⟨⟨_, rfl, _, rfl, by simp only [*, cvn], okf_of (by assumption)⟩, by (with_reducible repeat (first | exact Below.refl _ _ | apply below_alloc | apply below_dN | apply below_d | refine below_setCell ?_ (by dsimp only; omega) | refine below_call (by assumption) ?_))⟩
  obtain ⟨f1, f2⟩ : fin .f32 X = true ∧ fin .f32 Y = true := by simpa using hf
  clear hf
  have n1 := (fin_num X).1 f1
  have n2 := (fin_num Y).1 f2
  cases e0 : (feq .f32 X 0 && feq .f32 Y 0)
  · have HA : AngF Y X = fcv .f64 .f32 (ang3 (fabs (wid Y)) (fabs (wid X)) (flt .f32 X 0) (flt .f32 Y 0)) := by unfold AngF; rw [f1, f2, e0]; rfl
    have HF := Lib.hid (ang_fits n1 n2 e0 (flt .f32 X 0) (flt .f32 Y 0))
    rw [HA]
    clear HA hn n1 n2
    unfold wid at *
    obtain ⟨T, hT⟩ : ∃ T, angT (fabs (fcv .f32 .f64 Y)) (fabs (fcv .f32 .f64 X)) = T := ⟨_, rfl⟩
    have HT := Lib.hid hT
    clear hT
    go_enter Try.func34, Try.ntmps34
    go_upto_block 0 with fail
    go_cut [] (fun wx => Below w.heap.size w wx)
    case first =>
      cases e1 : feq .f32 X 0 <;> cases e2 : feq .f32 Y 0 <;> rw [e1, e2] at e0 <;> first | (exact absurd e0 (by decide)) | skip
      all_goals
        clear e0
        go_wp2_with ((go_at_call 20; ((with_reducible refine (areFinite2_c _ _ _ _ _ _ _ (by simp) (by simp) (by simp) hx hy).mono ?_); rintro e w1 ⟨⟨v, rfl, rfl⟩, hb⟩)))
        go_meet
        case rel => (with_reducible repeat (first | exact Below.refl _ _ | apply below_alloc | apply below_dN | apply below_d | refine below_setCell ?_ (by dsimp only; omega) | refine below_call (by assumption) ?_))
    case rest =>
    go_upto_if 38 with (first | (go_at_call 46; ((with_reducible refine (abs_c _ _ (by assumption) _).mono ?_); rintro e w1 ⟨⟨v, rfl, r, rfl, hr, hw⟩, hb⟩)) | (go_at_call 35; ((with_reducible refine (sqrt_c _ _ (by assumption) _).mono ?_); rintro e w1 ⟨⟨v, rfl, r, rfl, hr, hw⟩, hb⟩)) | (refine wpL_farith rfl _ _ _ _ _ rfl rfl _ _ _ rfl rfl ?_; intro r n hr hw) | (refine wpL_fconv_fits rfl 36 35 _ rfl .f32 .f64 _ rfl (by decide) Try.underlying36 Try.underlying35 (fits_wide _) ?_; intro r n hr hw))
    go_cut [7] (fun t wx => ∃ q, t = .float .f64 q ∧ cn .f64 q = T ∧ Below w.heap.size w wx)
    case first =>
      cases c1 : fgt .f64 (fabs (fcv .f32 .f64 Y)) (fabs (fcv .f32 .f64 X))
      all_goals
        go_wp2_with (first | (go_at_call 46; ((with_reducible refine (abs_c _ _ (by assumption) _).mono ?_); rintro e w1 ⟨⟨v, rfl, r, rfl, hr, hw⟩, hb⟩)) | (go_at_call 35; ((with_reducible refine (sqrt_c _ _ (by assumption) _).mono ?_); rintro e w1 ⟨⟨v, rfl, r, rfl, hr, hw⟩, hb⟩)) | (refine wpL_farith rfl _ _ _ _ _ rfl rfl _ _ _ rfl rfl ?_; intro r n hr hw) | (refine wpL_fconv_fits rfl 36 35 _ rfl .f32 .f64 _ rfl (by decide) Try.underlying36 Try.underlying35 (fits_wide _) ?_; intro r n hr hw))
        go_meet
        case rel => exact ⟨_, rfl, by simp [← HT.out, angT, *], by (with_reducible repeat (first | exact Below.refl _ _ | apply below_alloc | apply below_dN | apply below_d | refine below_setCell ?_ (by dsimp only; omega) | refine below_call (by assumption) ?_))⟩
    case rest =>
    obtain ⟨q, rfl, hq, hcB⟩ := hcut
    go_wp2_with (first | (go_at_call 46; ((with_reducible refine (abs_c _ _ (by assumption) _).mono ?_); rintro e w1 ⟨⟨v, rfl, r, rfl, hr, hw⟩, hb⟩)) | (go_at_call 35; ((with_reducible refine (sqrt_c _ _ (by assumption) _).mono ?_); rintro e w1 ⟨⟨v, rfl, r, rfl, hr, hw⟩, hb⟩)) | (refine wpL_farith rfl _ _ _ _ _ rfl rfl _ _ _ rfl rfl ?_; intro r n hr hw) | (refine wpL_fconv_fits rfl 36 35 _ rfl .f32 .f64 _ rfl (by decide) Try.underlying36 Try.underlying35 (fits_wide _) ?_; intro r n hr hw))
    go_loopw [7, 42] (fun t k wr => ∃ (m : Nat) (q : Nat), m ≤ 3 ∧ k = .int .i64 m ∧ t = .float .f64 q ∧ cn .f64 q = RtI T m ∧ Below w.heap.size w wr) (fun _ k _ => 3 - (intOf k).toNat)
    case atStart => exact ⟨0, _, by omega, rfl, rfl, hq, by (with_reducible repeat (first | exact Below.refl _ _ | apply below_alloc | apply below_dN | apply below_d | refine below_setCell ?_ (by dsimp only; omega) | refine below_call (by assumption) ?_))⟩
    case round =>
      obtain ⟨m, q, hm, rfl, rfl, hq, hB⟩ := hrel
      by_cases hlt : m < 3
      · have HQ := Lib.hid hq
        clear hq
        go_wp2_with (first | (go_at_call 46; ((with_reducible refine (abs_c _ _ (by assumption) _).mono ?_); rintro e w1 ⟨⟨v, rfl, r, rfl, hr, hw⟩, hb⟩)) | (go_at_call 35; ((with_reducible refine (sqrt_c _ _ (by assumption) _).mono ?_); rintro e w1 ⟨⟨v, rfl, r, rfl, hr, hw⟩, hb⟩)) | (refine wpL_farith rfl _ _ _ _ _ rfl rfl _ _ _ rfl rfl ?_; intro r n hr hw) | (refine wpL_fconv_fits rfl 36 35 _ rfl .f32 .f64 _ rfl (by decide) Try.underlying36 Try.underlying35 (fits_wide _) ?_; intro r n hr hw))
        go_roundw
        case rel => exact ⟨m + 1, _, by omega, by go_num, rfl, by rw [RtI_succ _ _ hlt, ← HQ.out]; simp [Rt, *], by (with_reducible repeat (first | exact Below.refl _ _ | apply below_alloc | apply below_dN | apply below_d | refine below_setCell ?_ (by dsimp only; omega) | refine below_call (by assumption) ?_))⟩
        case measure => first | (simp [intOf]; done) | (simp [intOf]; omega)
      · obtain rfl : m = 3 := by omega
        obtain ⟨T3, hT3⟩ : ∃ T3, Rt (Rt (Rt T)) = T3 := ⟨_, rfl⟩
        have hq3 : cn .f64 q = T3 := by rw [hq, ← hT3]; rfl
        have HT3 := Lib.hid hT3
        clear hq hT3
        go_wp2_with (first | (go_at_call 46; ((with_reducible refine (abs_c _ _ (by assumption) _).mono ?_); rintro e w1 ⟨⟨v, rfl, r, rfl, hr, hw⟩, hb⟩)) | (go_at_call 35; ((with_reducible refine (sqrt_c _ _ (by assumption) _).mono ?_); rintro e w1 ⟨⟨v, rfl, r, rfl, hr, hw⟩, hb⟩)) | (refine wpL_farith rfl _ _ _ _ _ rfl rfl _ _ _ rfl rfl ?_; intro r n hr hw) | (refine wpL_fconv_fits rfl 36 35 _ rfl .f32 .f64 _ rfl (by decide) Try.underlying36 Try.underlying35 (fits_wide _) ?_; intro r n hr hw))
        go_loopw [9, 10] (fun p k wr => ∃ (m : Nat) (q : Nat), m ≤ 8 ∧ k = .int .i64 (2 * (m : Int) - 1) ∧ p = .float .f64 q ∧ angP (fop .mul .f64 T3 T3) m (cn .f64 q) = angP (fop .mul .f64 T3 T3) 8 0 ∧ Below w.heap.size w wr) (fun _ k _ => (intOf k + 1).toNat)
        case atStart => exact ⟨8, _, by omega, by go_num, rfl, by simp, by (with_reducible repeat (first | exact Below.refl _ _ | apply below_alloc | apply below_dN | apply below_d | refine below_setCell ?_ (by dsimp only; omega) | refine below_call (by assumption) ?_))⟩
        case round =>
          obtain ⟨m, p, hm, hk, rfl, hp, hB2⟩ := hrel
          have HP := Lib.hid hp
          clear hp
          by_cases hlt : 1 ≤ m
          · obtain ⟨j, rfl⟩ : ∃ j, m = j + 1 := ⟨m - 1, by omega⟩
            rw [show (2 * ((j + 1 : Nat) : Int) - 1) = 2 * (j : Int) + 1 by omega] at hk
            subst hk
            go_wp2_with (first | (go_at_call 46; ((with_reducible refine (abs_c _ _ (by assumption) _).mono ?_); rintro e w1 ⟨⟨v, rfl, r, rfl, hr, hw⟩, hb⟩)) | (go_at_call 35; ((with_reducible refine (sqrt_c _ _ (by assumption) _).mono ?_); rintro e w1 ⟨⟨v, rfl, r, rfl, hr, hw⟩, hb⟩)) | (refine wpL_farith rfl _ _ _ _ _ rfl rfl _ _ _ rfl rfl ?_; intro r n hr hw) | (refine wpL_fconv_fits rfl 36 35 _ rfl .f32 .f64 _ rfl (by decide) Try.underlying36 Try.underlying35 (fits_wide _) ?_; intro r n hr hw))
            go_roundw
            case rel => exact ⟨j, _, by omega, by go_num, rfl, by rw [← HP.out, angP_succ]; simp [angS, *], by (with_reducible repeat (first | exact Below.refl _ _ | apply below_alloc | apply below_dN | apply below_d | refine below_setCell ?_ (by dsimp only; omega) | refine below_call (by assumption) ?_))⟩
            case measure => first | (simp [intOf]; done) | (simp [intOf]; omega)
          · obtain rfl : m = 0 := by omega
            subst hk
            obtain ⟨P8, hP8⟩ : ∃ P8, angP (fop .mul .f64 T3 T3) 8 0 = P8 := ⟨_, rfl⟩
            have hp8 : cn .f64 p = P8 := by have := HP.out; rw [angP_zero, hP8] at this; exact this
            have hO : angO (fabs (fcv .f32 .f64 Y)) (fabs (fcv .f32 .f64 X)) = fop .quo .f64 (fop .mul .f64 4620693217682128896 (fop .mul .f64 T3 P8)) 4618760256179416344 := by
              unfold angO; rw [HT.out, HT3.out, hP8]
            have HO := Lib.hid hO
            clear hO hP8 HP
            go_wp2_with (first | (refine wpL_farith rfl _ _ _ _ _ rfl rfl _ _ _ rfl rfl ?_; intro r n hr hw) | (refine wpL_fconv_fits rfl 35 36 _ rfl .f64 .f32 _ rfl (by decide) Try.underlying35 Try.underlying36 (fits_eq HF.out (by have hO := HO.out; simp [ang3, ang2, ang1, hO, *])) ?_; intro r n hr hw))
            all_goals
              go_ret
              exact ⟨⟨_, rfl, _, rfl, by have hO := HO.out; simp [ang3, ang2, ang1, hO, *], okf_of (by assumption)⟩, by (with_reducible repeat (first | exact Below.refl _ _ | apply below_alloc | apply below_dN | apply below_d | refine below_setCell ?_ (by dsimp only; omega) | refine below_call (by assumption) ?_))⟩
  · have HA : AngF Y X = 0 := by unfold AngF; rw [f1, f2, e0]; rfl
    simp only [Bool.and_eq_true] at e0
    obtain ⟨e1, e2⟩ := e0
    rw [HA]
    clear HA hn n1 n2
    go_enter Try.func34, Try.ntmps34
    go_wp2_with ((go_at_call 20; ((with_reducible refine (areFinite2_c _ _ _ _ _ _ _ (by simp) (by simp) (by simp) hx hy).mono ?_); rintro e w1 ⟨⟨v, rfl, rfl⟩, hb⟩)))
    go_ret
    exact ⟨⟨_, rfl, _, rfl, by simp only [cnc_f32_0], okf_of (by decide)⟩, by (with_reducible repeat (first | exact Below.refl _ _ | apply below_alloc | apply below_dN | apply below_d | refine below_setCell ?_ (by dsimp only; omega) | refine below_call (by assumption) ?_))⟩

-- left out here: iRoot_c
/-- The angle in 64 bits. -/
def AngW (y x : Nat) : Nat :=
  if fin .f32 x && fin .f32 y then
    if feq .f32 x 0 && feq .f32 y 0 then 0 else ang3 (fabs (wid y)) (fabs (wid x)) (flt .f32 x 0) (flt .f32 y 0)
  else qn .f64
theorem angW_F (y x : Nat) : fcv .f64 .f32 (AngW y x) = AngF y x := by
  unfold AngW AngF
  split
  · split
    · exact cv0
    · rfl
  · exact cvn
theorem angW_fits (y x : Nat) : fits .f64 .f32 (AngW y x) := by
  unfold AngW
  split
  · rename_i h
    simp only [Bool.and_eq_true] at h
    split
    · exact (sym_of 0 0 (by decide +kernel) (by decide +kernel) (by decide +kernel)).fits (by omega) (by omega)
    · rename_i e0
      exact ang_fits ((fin_num x).1 h.1) ((fin_num y).1 h.2) (by simpa using e0) _ _
  · exact fits_nan (nanB_qn _)

-- left out here: sAngW_c
-- left out here: sAng_c
-- left out here: sRoot_c
end Go.Proofs.Ytnkfbinppikhkaa
