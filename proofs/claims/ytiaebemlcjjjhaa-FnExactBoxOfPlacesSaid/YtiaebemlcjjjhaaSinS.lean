/- Contracts of the reference's sine and cosine. No condition. -/
import Derived.Test.YtiaebemlcjjjhaaSinC
namespace Go.Proofs.Ytiaebemlcjjjhaa
open Go.RowKit
set_option linter.unusedSimpArgs false

theorem run_toint {P : Program} (src dst : TypeId) (s : FloatKind) (k : IntKind) (b : Nat) (n : Int) (w : World) (hs : (P.underlying src).isSome = true) (hd : P.underlying dst = some (.int k)) (h : (s.decode b).toInt .zero = some n) (h1 : k.min ≤ n) (h2 : n ≤ k.max) :
    (convert src dst (.float s b)).run P w = .ok (.int k n) w := by
  obtain ⟨u, hs'⟩ := Option.isSome_iff_exists.1 hs
  cases u <;> simp [convert, run_underlying hs', run_underlying hd, Conv.floatToInt, h, h1, h2]
theorem raw_of {k : FloatKind} {r Y : Nat} (hn : nanB k Y = false) (h : cn k r = Y) : r = Y := by
  cases hb : nanB k r
  · rw [cn_of hb] at h; exact h
  · rw [cn_nan hb] at h; rw [← h, nanB_qn] at hn; cases hn

theorem num64_nb : num .f64 14064741636278059008 := num_of _ (by decide +kernel)
theorem v64_nb : fv .f64 14064741636278059008 = -4503599627370496 := by decide +kernel
theorem far_iff {Y : Nat} (hn : num .f64 Y) : fge .f64 (fabs Y) 4841369599423283200 = (fge .f64 Y 4841369599423283200 || fle .f64 Y 14064741636278059008) := by
  obtain ⟨n, e⟩ := abs_val hn
  rw [fge_val n num64_b, fge_val hn num64_b, fle_val hn num64_nb, v64_b, v64_nb, e]
  rw [Bool.eq_iff_iff]
  simp
  split <;> grind


set_option maxHeartbeats 400000 in
theorem sSineNan_c (y Y : Nat) (hy : cn .f64 y = Y) (w : World) (c1 : fin .f64 Y = false) : Calls Try.prog 111 #[.float .f64 y] w (Ret (RF .f64 (qn .f64)) w) := by
  have c1' : feq .f64 (fop .sub .f64 Y Y) 0 = false := c1
  clear c1
  go_enter Try.func111, Try.ntmps111
  go_wp2_with (first | (refine wpL_farith rfl _ _ _ _ _ rfl rfl _ _ _ rfl rfl ?_; intro r n hr hw) | (go_at_call 107; ((with_reducible refine (nan_c _).mono ?_); rintro e w1 ⟨⟨v, rfl, r, rfl, hr, hw⟩, hb⟩)))
  go_ret
  exact ⟨⟨_, rfl, _, rfl, by assumption, okf64⟩, by (with_reducible repeat (first | exact Below.refl _ _ | apply below_alloc | apply below_dN | apply below_d | refine below_setCell ?_ (by dsimp only; omega) | refine below_call (by assumption) ?_))⟩

set_option maxHeartbeats 400000 in
theorem sSineFar_c (y Y : Nat) (hy : cn .f64 y = Y) (w : World) (c1 : fin .f64 Y = true) (c2 : (fge .f64 Y 4841369599423283200 || fle .f64 Y 14064741636278059008) = true) : Calls Try.prog 111 #[.float .f64 y] w (Ret (RF .f64 0) w) := by
  have c1' : feq .f64 (fop .sub .f64 Y Y) 0 = true := c1
  clear c1
  cases c3 : fge .f64 Y 4841369599423283200
  · have c4 : fle .f64 Y 14064741636278059008 = true := by rw [c3] at c2; exact c2
    clear c2
    go_enter Try.func111, Try.ntmps111
    go_wp2_with (first | (refine wpL_farith rfl _ _ _ _ _ rfl rfl _ _ _ rfl rfl ?_; intro r n hr hw))
    go_ret
    exact ⟨⟨_, rfl, _, rfl, by simp, okf64⟩, by (with_reducible repeat (first | exact Below.refl _ _ | apply below_alloc | apply below_dN | apply below_d | refine below_setCell ?_ (by dsimp only; omega) | refine below_call (by assumption) ?_))⟩
  · clear c2
    go_enter Try.func111, Try.ntmps111
    go_wp2_with (first | (refine wpL_farith rfl _ _ _ _ _ rfl rfl _ _ _ rfl rfl ?_; intro r n hr hw))
    go_ret
    exact ⟨⟨_, rfl, _, rfl, by simp, okf64⟩, by (with_reducible repeat (first | exact Below.refl _ _ | apply below_alloc | apply below_dN | apply below_d | refine below_setCell ?_ (by dsimp only; omega) | refine below_call (by assumption) ?_))⟩


set_option maxHeartbeats 1000000 in
theorem sSineNear_c (y Y T F : Nat) (n : Int) (hy : cn .f64 y = Y) (w : World) (c1 : feq .f64 (fop .sub .f64 Y Y) 0 = true) (c2 : fge .f64 Y 4841369599423283200 = false) (c3 : fle .f64 Y 14064741636278059008 = false)
    (hcv : ∀ r w, cn .f64 r = Y → (convert 50 2 (.float .f64 r)).run Try.prog w = .ok (.int .i64 n) w) (hT : fop .sub .f64 Y (fofI .f64 n) = T) (hF : (if flt .f64 T 0 then fop .add .f64 T 4607182418800017408 else T) = F) : Calls Try.prog 111 #[.float .f64 y] w (Ret (RF .f64 (SineF F)) w) := by
  cases c4 : flt .f64 T 0
  · obtain rfl : F = T := by rw [c4] at hF; exact hF.symm
    clear hF
    cases c5 : fge .f64 F 4602678819172646912
    · cases c6 : fgt .f64 F 4598175219545276416
      · (go_enter Try.func111, Try.ntmps111; go_wp2_with (first | (refine wpL_farith rfl _ _ _ _ _ rfl rfl _ _ _ rfl rfl ?_; intro r n hr hw)))
        (go_loopw [7, 8] (fun p k wr => ∃ (m : Nat) (q : Nat), m ≤ 8 ∧ k = .int .i64 m ∧ p = .float .f64 q ∧ sineP (fop .mul .f64 (sinZ F) (sinZ F)) m (cn .f64 q) = sineP (fop .mul .f64 (sinZ F) (sinZ F)) 8 4607182418800017408 ∧ Below w.heap.size w wr) (fun _ k _ => (intOf k).toNat))
        case atStart => exact ⟨8, 4607182418800017408, by omega, rfl, rfl, by simp, by (with_reducible repeat (first | exact Below.refl _ _ | apply below_alloc | apply below_dN | apply below_d | refine below_setCell ?_ (by dsimp only; omega) | refine below_call (by assumption) ?_))⟩
        case round =>
          obtain ⟨m, q, hm, rfl, rfl, hp, hB⟩ := hrel; have HP := Lib.hid hp; clear hp; by_cases hlt : 1 ≤ m
          · obtain ⟨m, rfl⟩ : ∃ j, m = j + 1 := ⟨m - 1, by omega⟩; have hwk := wrapK hm; go_wp2_with (first | (refine wpL_farith rfl _ _ _ _ _ rfl rfl _ _ _ rfl rfl ?_; intro r n hr hw)); go_roundw
            case rel => exact ⟨m, _, by omega, by go_num, rfl, by rw [← HP.out]; simp [sineP, sinZ, sin2, sin1, *], by (with_reducible repeat (first | exact Below.refl _ _ | apply below_alloc | apply below_dN | apply below_d | refine below_setCell ?_ (by dsimp only; omega) | refine below_call (by assumption) ?_))⟩
            case measure => first | (simp [intOf]; done) | (simp [intOf]; omega)
          · obtain rfl : m = 0 := (by omega); have hp : cn .f64 q = sineP (fop .mul .f64 (sinZ F) (sinZ F)) 8 4607182418800017408 := HP.out; have HQ := Lib.hid hp; clear HP hp; go_wp2_with (first | (refine wpL_farith rfl _ _ _ _ _ rfl rfl _ _ _ rfl rfl ?_; intro r n hr hw)); go_ret; exact ⟨⟨_, rfl, _, rfl, by have hp := HQ.out; simp only [SineF, sinO, ← hp]; clear hp; simp [sinZ, sin2, sin1, *], okf64⟩, by (with_reducible repeat (first | exact Below.refl _ _ | apply below_alloc | apply below_dN | apply below_d | refine below_setCell ?_ (by dsimp only; omega) | refine below_call (by assumption) ?_))⟩
      · (go_enter Try.func111, Try.ntmps111; go_wp2_with (first | (refine wpL_farith rfl _ _ _ _ _ rfl rfl _ _ _ rfl rfl ?_; intro r n hr hw)))
        (go_loopw [7, 8] (fun p k wr => ∃ (m : Nat) (q : Nat), m ≤ 8 ∧ k = .int .i64 m ∧ p = .float .f64 q ∧ sineP (fop .mul .f64 (sinZ F) (sinZ F)) m (cn .f64 q) = sineP (fop .mul .f64 (sinZ F) (sinZ F)) 8 4607182418800017408 ∧ Below w.heap.size w wr) (fun _ k _ => (intOf k).toNat))
        case atStart => exact ⟨8, 4607182418800017408, by omega, rfl, rfl, by simp, by (with_reducible repeat (first | exact Below.refl _ _ | apply below_alloc | apply below_dN | apply below_d | refine below_setCell ?_ (by dsimp only; omega) | refine below_call (by assumption) ?_))⟩
        case round =>
          obtain ⟨m, q, hm, rfl, rfl, hp, hB⟩ := hrel; have HP := Lib.hid hp; clear hp; by_cases hlt : 1 ≤ m
          · obtain ⟨m, rfl⟩ : ∃ j, m = j + 1 := ⟨m - 1, by omega⟩; have hwk := wrapK hm; go_wp2_with (first | (refine wpL_farith rfl _ _ _ _ _ rfl rfl _ _ _ rfl rfl ?_; intro r n hr hw)); go_roundw
            case rel => exact ⟨m, _, by omega, by go_num, rfl, by rw [← HP.out]; simp [sineP, sinZ, sin2, sin1, *], by (with_reducible repeat (first | exact Below.refl _ _ | apply below_alloc | apply below_dN | apply below_d | refine below_setCell ?_ (by dsimp only; omega) | refine below_call (by assumption) ?_))⟩
            case measure => first | (simp [intOf]; done) | (simp [intOf]; omega)
          · obtain rfl : m = 0 := (by omega); have hp : cn .f64 q = sineP (fop .mul .f64 (sinZ F) (sinZ F)) 8 4607182418800017408 := HP.out; have HQ := Lib.hid hp; clear HP hp; go_wp2_with (first | (refine wpL_farith rfl _ _ _ _ _ rfl rfl _ _ _ rfl rfl ?_; intro r n hr hw)); go_ret; exact ⟨⟨_, rfl, _, rfl, by have hp := HQ.out; simp only [SineF, sinO, ← hp]; clear hp; simp [sinZ, sin2, sin1, *], okf64⟩, by (with_reducible repeat (first | exact Below.refl _ _ | apply below_alloc | apply below_dN | apply below_d | refine below_setCell ?_ (by dsimp only; omega) | refine below_call (by assumption) ?_))⟩
    · cases c6 : fgt .f64 (fop .sub .f64 F 4602678819172646912) 4598175219545276416
      · (go_enter Try.func111, Try.ntmps111; go_wp2_with (first | (refine wpL_farith rfl _ _ _ _ _ rfl rfl _ _ _ rfl rfl ?_; intro r n hr hw)))
        (go_loopw [7, 8] (fun p k wr => ∃ (m : Nat) (q : Nat), m ≤ 8 ∧ k = .int .i64 m ∧ p = .float .f64 q ∧ sineP (fop .mul .f64 (sinZ F) (sinZ F)) m (cn .f64 q) = sineP (fop .mul .f64 (sinZ F) (sinZ F)) 8 4607182418800017408 ∧ Below w.heap.size w wr) (fun _ k _ => (intOf k).toNat))
        case atStart => exact ⟨8, 4607182418800017408, by omega, rfl, rfl, by simp, by (with_reducible repeat (first | exact Below.refl _ _ | apply below_alloc | apply below_dN | apply below_d | refine below_setCell ?_ (by dsimp only; omega) | refine below_call (by assumption) ?_))⟩
        case round =>
          obtain ⟨m, q, hm, rfl, rfl, hp, hB⟩ := hrel; have HP := Lib.hid hp; clear hp; by_cases hlt : 1 ≤ m
          · obtain ⟨m, rfl⟩ : ∃ j, m = j + 1 := ⟨m - 1, by omega⟩; have hwk := wrapK hm; go_wp2_with (first | (refine wpL_farith rfl _ _ _ _ _ rfl rfl _ _ _ rfl rfl ?_; intro r n hr hw)); go_roundw
            case rel => exact ⟨m, _, by omega, by go_num, rfl, by rw [← HP.out]; simp [sineP, sinZ, sin2, sin1, *], by (with_reducible repeat (first | exact Below.refl _ _ | apply below_alloc | apply below_dN | apply below_d | refine below_setCell ?_ (by dsimp only; omega) | refine below_call (by assumption) ?_))⟩
            case measure => first | (simp [intOf]; done) | (simp [intOf]; omega)
          · obtain rfl : m = 0 := (by omega); have hp : cn .f64 q = sineP (fop .mul .f64 (sinZ F) (sinZ F)) 8 4607182418800017408 := HP.out; have HQ := Lib.hid hp; clear HP hp; go_wp2_with (first | (refine wpL_farith rfl _ _ _ _ _ rfl rfl _ _ _ rfl rfl ?_; intro r n hr hw)); go_ret; exact ⟨⟨_, rfl, _, rfl, by have hp := HQ.out; simp only [SineF, sinO, ← hp]; clear hp; simp [sinZ, sin2, sin1, *], okf64⟩, by (with_reducible repeat (first | exact Below.refl _ _ | apply below_alloc | apply below_dN | apply below_d | refine below_setCell ?_ (by dsimp only; omega) | refine below_call (by assumption) ?_))⟩
      · (go_enter Try.func111, Try.ntmps111; go_wp2_with (first | (refine wpL_farith rfl _ _ _ _ _ rfl rfl _ _ _ rfl rfl ?_; intro r n hr hw)))
        (go_loopw [7, 8] (fun p k wr => ∃ (m : Nat) (q : Nat), m ≤ 8 ∧ k = .int .i64 m ∧ p = .float .f64 q ∧ sineP (fop .mul .f64 (sinZ F) (sinZ F)) m (cn .f64 q) = sineP (fop .mul .f64 (sinZ F) (sinZ F)) 8 4607182418800017408 ∧ Below w.heap.size w wr) (fun _ k _ => (intOf k).toNat))
        case atStart => exact ⟨8, 4607182418800017408, by omega, rfl, rfl, by simp, by (with_reducible repeat (first | exact Below.refl _ _ | apply below_alloc | apply below_dN | apply below_d | refine below_setCell ?_ (by dsimp only; omega) | refine below_call (by assumption) ?_))⟩
        case round =>
          obtain ⟨m, q, hm, rfl, rfl, hp, hB⟩ := hrel; have HP := Lib.hid hp; clear hp; by_cases hlt : 1 ≤ m
          · obtain ⟨m, rfl⟩ : ∃ j, m = j + 1 := ⟨m - 1, by omega⟩; have hwk := wrapK hm; go_wp2_with (first | (refine wpL_farith rfl _ _ _ _ _ rfl rfl _ _ _ rfl rfl ?_; intro r n hr hw)); go_roundw
            case rel => exact ⟨m, _, by omega, by go_num, rfl, by rw [← HP.out]; simp [sineP, sinZ, sin2, sin1, *], by (with_reducible repeat (first | exact Below.refl _ _ | apply below_alloc | apply below_dN | apply below_d | refine below_setCell ?_ (by dsimp only; omega) | refine below_call (by assumption) ?_))⟩
            case measure => first | (simp [intOf]; done) | (simp [intOf]; omega)
          · obtain rfl : m = 0 := (by omega); have hp : cn .f64 q = sineP (fop .mul .f64 (sinZ F) (sinZ F)) 8 4607182418800017408 := HP.out; have HQ := Lib.hid hp; clear HP hp; go_wp2_with (first | (refine wpL_farith rfl _ _ _ _ _ rfl rfl _ _ _ rfl rfl ?_; intro r n hr hw)); go_ret; exact ⟨⟨_, rfl, _, rfl, by have hp := HQ.out; simp only [SineF, sinO, ← hp]; clear hp; simp [sinZ, sin2, sin1, *], okf64⟩, by (with_reducible repeat (first | exact Below.refl _ _ | apply below_alloc | apply below_dN | apply below_d | refine below_setCell ?_ (by dsimp only; omega) | refine below_call (by assumption) ?_))⟩
  · have hF : fop .add .f64 T 4607182418800017408 = F := by rw [c4] at hF; exact hF
    cases c5 : fge .f64 F 4602678819172646912
    · cases c6 : fgt .f64 F 4598175219545276416
      · (go_enter Try.func111, Try.ntmps111; go_wp2_with (first | (refine wpL_farith rfl _ _ _ _ _ rfl rfl _ _ _ rfl rfl ?_; intro r n hr hw)))
        (go_loopw [7, 8] (fun p k wr => ∃ (m : Nat) (q : Nat), m ≤ 8 ∧ k = .int .i64 m ∧ p = .float .f64 q ∧ sineP (fop .mul .f64 (sinZ F) (sinZ F)) m (cn .f64 q) = sineP (fop .mul .f64 (sinZ F) (sinZ F)) 8 4607182418800017408 ∧ Below w.heap.size w wr) (fun _ k _ => (intOf k).toNat))
        case atStart => exact ⟨8, 4607182418800017408, by omega, rfl, rfl, by simp, by (with_reducible repeat (first | exact Below.refl _ _ | apply below_alloc | apply below_dN | apply below_d | refine below_setCell ?_ (by dsimp only; omega) | refine below_call (by assumption) ?_))⟩
        case round =>
          obtain ⟨m, q, hm, rfl, rfl, hp, hB⟩ := hrel; have HP := Lib.hid hp; clear hp; by_cases hlt : 1 ≤ m
          · obtain ⟨m, rfl⟩ : ∃ j, m = j + 1 := ⟨m - 1, by omega⟩; have hwk := wrapK hm; go_wp2_with (first | (refine wpL_farith rfl _ _ _ _ _ rfl rfl _ _ _ rfl rfl ?_; intro r n hr hw)); go_roundw
            case rel => exact ⟨m, _, by omega, by go_num, rfl, by rw [← HP.out]; simp [sineP, sinZ, sin2, sin1, *], by (with_reducible repeat (first | exact Below.refl _ _ | apply below_alloc | apply below_dN | apply below_d | refine below_setCell ?_ (by dsimp only; omega) | refine below_call (by assumption) ?_))⟩
            case measure => first | (simp [intOf]; done) | (simp [intOf]; omega)
          · obtain rfl : m = 0 := (by omega); have hp : cn .f64 q = sineP (fop .mul .f64 (sinZ F) (sinZ F)) 8 4607182418800017408 := HP.out; have HQ := Lib.hid hp; clear HP hp; go_wp2_with (first | (refine wpL_farith rfl _ _ _ _ _ rfl rfl _ _ _ rfl rfl ?_; intro r n hr hw)); go_ret; exact ⟨⟨_, rfl, _, rfl, by have hp := HQ.out; simp only [SineF, sinO, ← hp]; clear hp; simp [sinZ, sin2, sin1, *], okf64⟩, by (with_reducible repeat (first | exact Below.refl _ _ | apply below_alloc | apply below_dN | apply below_d | refine below_setCell ?_ (by dsimp only; omega) | refine below_call (by assumption) ?_))⟩
      · (go_enter Try.func111, Try.ntmps111; go_wp2_with (first | (refine wpL_farith rfl _ _ _ _ _ rfl rfl _ _ _ rfl rfl ?_; intro r n hr hw)))
        (go_loopw [7, 8] (fun p k wr => ∃ (m : Nat) (q : Nat), m ≤ 8 ∧ k = .int .i64 m ∧ p = .float .f64 q ∧ sineP (fop .mul .f64 (sinZ F) (sinZ F)) m (cn .f64 q) = sineP (fop .mul .f64 (sinZ F) (sinZ F)) 8 4607182418800017408 ∧ Below w.heap.size w wr) (fun _ k _ => (intOf k).toNat))
        case atStart => exact ⟨8, 4607182418800017408, by omega, rfl, rfl, by simp, by (with_reducible repeat (first | exact Below.refl _ _ | apply below_alloc | apply below_dN | apply below_d | refine below_setCell ?_ (by dsimp only; omega) | refine below_call (by assumption) ?_))⟩
        case round =>
          obtain ⟨m, q, hm, rfl, rfl, hp, hB⟩ := hrel; have HP := Lib.hid hp; clear hp; by_cases hlt : 1 ≤ m
          · obtain ⟨m, rfl⟩ : ∃ j, m = j + 1 := ⟨m - 1, by omega⟩; have hwk := wrapK hm; go_wp2_with (first | (refine wpL_farith rfl _ _ _ _ _ rfl rfl _ _ _ rfl rfl ?_; intro r n hr hw)); go_roundw
            case rel => exact ⟨m, _, by omega, by go_num, rfl, by rw [← HP.out]; simp [sineP, sinZ, sin2, sin1, *], by (with_reducible repeat (first | exact Below.refl _ _ | apply below_alloc | apply below_dN | apply below_d | refine below_setCell ?_ (by dsimp only; omega) | refine below_call (by assumption) ?_))⟩
            case measure => first | (simp [intOf]; done) | (simp [intOf]; omega)
          · obtain rfl : m = 0 := (by omega); have hp : cn .f64 q = sineP (fop .mul .f64 (sinZ F) (sinZ F)) 8 4607182418800017408 := HP.out; have HQ := Lib.hid hp; clear HP hp; go_wp2_with (first | (refine wpL_farith rfl _ _ _ _ _ rfl rfl _ _ _ rfl rfl ?_; intro r n hr hw)); go_ret; exact ⟨⟨_, rfl, _, rfl, by have hp := HQ.out; simp only [SineF, sinO, ← hp]; clear hp; simp [sinZ, sin2, sin1, *], okf64⟩, by (with_reducible repeat (first | exact Below.refl _ _ | apply below_alloc | apply below_dN | apply below_d | refine below_setCell ?_ (by dsimp only; omega) | refine below_call (by assumption) ?_))⟩
    · cases c6 : fgt .f64 (fop .sub .f64 F 4602678819172646912) 4598175219545276416
      · (go_enter Try.func111, Try.ntmps111; go_wp2_with (first | (refine wpL_farith rfl _ _ _ _ _ rfl rfl _ _ _ rfl rfl ?_; intro r n hr hw)))
        (go_loopw [7, 8] (fun p k wr => ∃ (m : Nat) (q : Nat), m ≤ 8 ∧ k = .int .i64 m ∧ p = .float .f64 q ∧ sineP (fop .mul .f64 (sinZ F) (sinZ F)) m (cn .f64 q) = sineP (fop .mul .f64 (sinZ F) (sinZ F)) 8 4607182418800017408 ∧ Below w.heap.size w wr) (fun _ k _ => (intOf k).toNat))
        case atStart => exact ⟨8, 4607182418800017408, by omega, rfl, rfl, by simp, by (with_reducible repeat (first | exact Below.refl _ _ | apply below_alloc | apply below_dN | apply below_d | refine below_setCell ?_ (by dsimp only; omega) | refine below_call (by assumption) ?_))⟩
        case round =>
          obtain ⟨m, q, hm, rfl, rfl, hp, hB⟩ := hrel; have HP := Lib.hid hp; clear hp; by_cases hlt : 1 ≤ m
          · obtain ⟨m, rfl⟩ : ∃ j, m = j + 1 := ⟨m - 1, by omega⟩; have hwk := wrapK hm; go_wp2_with (first | (refine wpL_farith rfl _ _ _ _ _ rfl rfl _ _ _ rfl rfl ?_; intro r n hr hw)); go_roundw
            case rel => exact ⟨m, _, by omega, by go_num, rfl, by rw [← HP.out]; simp [sineP, sinZ, sin2, sin1, *], by (with_reducible repeat (first | exact Below.refl _ _ | apply below_alloc | apply below_dN | apply below_d | refine below_setCell ?_ (by dsimp only; omega) | refine below_call (by assumption) ?_))⟩
            case measure => first | (simp [intOf]; done) | (simp [intOf]; omega)
          · obtain rfl : m = 0 := (by omega); have hp : cn .f64 q = sineP (fop .mul .f64 (sinZ F) (sinZ F)) 8 4607182418800017408 := HP.out; have HQ := Lib.hid hp; clear HP hp; go_wp2_with (first | (refine wpL_farith rfl _ _ _ _ _ rfl rfl _ _ _ rfl rfl ?_; intro r n hr hw)); go_ret; exact ⟨⟨_, rfl, _, rfl, by have hp := HQ.out; simp only [SineF, sinO, ← hp]; clear hp; simp [sinZ, sin2, sin1, *], okf64⟩, by (with_reducible repeat (first | exact Below.refl _ _ | apply below_alloc | apply below_dN | apply below_d | refine below_setCell ?_ (by dsimp only; omega) | refine below_call (by assumption) ?_))⟩
      · (go_enter Try.func111, Try.ntmps111; go_wp2_with (first | (refine wpL_farith rfl _ _ _ _ _ rfl rfl _ _ _ rfl rfl ?_; intro r n hr hw)))
        (go_loopw [7, 8] (fun p k wr => ∃ (m : Nat) (q : Nat), m ≤ 8 ∧ k = .int .i64 m ∧ p = .float .f64 q ∧ sineP (fop .mul .f64 (sinZ F) (sinZ F)) m (cn .f64 q) = sineP (fop .mul .f64 (sinZ F) (sinZ F)) 8 4607182418800017408 ∧ Below w.heap.size w wr) (fun _ k _ => (intOf k).toNat))
        case atStart => exact ⟨8, 4607182418800017408, by omega, rfl, rfl, by simp, by (with_reducible repeat (first | exact Below.refl _ _ | apply below_alloc | apply below_dN | apply below_d | refine below_setCell ?_ (by dsimp only; omega) | refine below_call (by assumption) ?_))⟩
        case round =>
          obtain ⟨m, q, hm, rfl, rfl, hp, hB⟩ := hrel; have HP := Lib.hid hp; clear hp; by_cases hlt : 1 ≤ m
          · obtain ⟨m, rfl⟩ : ∃ j, m = j + 1 := ⟨m - 1, by omega⟩; have hwk := wrapK hm; go_wp2_with (first | (refine wpL_farith rfl _ _ _ _ _ rfl rfl _ _ _ rfl rfl ?_; intro r n hr hw)); go_roundw
            case rel => exact ⟨m, _, by omega, by go_num, rfl, by rw [← HP.out]; simp [sineP, sinZ, sin2, sin1, *], by (with_reducible repeat (first | exact Below.refl _ _ | apply below_alloc | apply below_dN | apply below_d | refine below_setCell ?_ (by dsimp only; omega) | refine below_call (by assumption) ?_))⟩
            case measure => first | (simp [intOf]; done) | (simp [intOf]; omega)
          · obtain rfl : m = 0 := (by omega); have hp : cn .f64 q = sineP (fop .mul .f64 (sinZ F) (sinZ F)) 8 4607182418800017408 := HP.out; have HQ := Lib.hid hp; clear HP hp; go_wp2_with (first | (refine wpL_farith rfl _ _ _ _ _ rfl rfl _ _ _ rfl rfl ?_; intro r n hr hw)); go_ret; exact ⟨⟨_, rfl, _, rfl, by have hp := HQ.out; simp only [SineF, sinO, ← hp]; clear hp; simp [sinZ, sin2, sin1, *], okf64⟩, by (with_reducible repeat (first | exact Below.refl _ _ | apply below_alloc | apply below_dN | apply below_d | refine below_setCell ?_ (by dsimp only; omega) | refine below_call (by assumption) ?_))⟩

theorem sSineWide_c (y Y : Nat) (hy : cn .f64 y = Y) (w : World) : Calls Try.prog 111 #[.float .f64 y] w (Ret (RF .f64 (SinW Y)) w) := by
  unfold SinW
  cases c1 : fin .f64 Y
  · exact sSineNan_c y Y hy w c1
  · have hn := (fin_num Y).1 c1
    rw [far_iff hn]
    cases c2 : (fge .f64 Y 4841369599423283200 || fle .f64 Y 14064741636278059008)
    · have c3 : fge .f64 (fabs Y) 4841369599423283200 = false := by rw [far_iff hn, c2]
      obtain ⟨h1, h2⟩ := small_of hn c3
      obtain ⟨_, _, _, n, n1, n2, n3, n4⟩ := whole_val hn h1 h2
      simp only [Bool.or_eq_false_iff] at c2
      refine sSineNear_c y Y _ (Frac Y) n hy w c1 c2.1 c2.2 (fun r w hr => ?_) rfl (by rw [Frac_eq, n4])
      rw [raw_of (num_notnan hn) hr]
      exact run_toint _ _ _ _ _ n w (by rw [Try.underlying50]; rfl) Try.underlying2 n3 (Int.le_of_lt (Int.lt_trans (by decide) n1)) (Int.le_of_lt (Int.lt_trans n2 (by decide)))
    · exact sSineFar_c y Y hy w c1 c2


set_option maxHeartbeats 400000 in
theorem sNarrow_c (x X : Nat) (hx : cn .f64 x = X) (hf : fits .f64 .f32 X) (w : World) : Calls Try.prog 103 #[.float .f64 x] w (Ret (RF .f32 (fcv .f64 .f32 X)) w) := by
  go_enter Try.func103, Try.ntmps103
  go_wp2_with (first | (refine wpL_fconv_fits rfl 50 22 _ rfl .f64 .f32 _ rfl (by decide) Try.underlying50 Try.underlying22 (by rw [hx]; exact hf) ?_; intro r n hr hw))
  go_ret
  exact ⟨⟨_, rfl, _, rfl, by rw [hr, hx], okf_of (by assumption)⟩, by (with_reducible repeat (first | exact Below.refl _ _ | apply below_alloc | apply below_dN | apply below_d | refine below_setCell ?_ (by dsimp only; omega) | refine below_call (by assumption) ?_))⟩

set_option maxHeartbeats 400000 in
theorem sSine_c (x X : Nat) (hx : cn .f32 x = X) (w : World) : Calls Try.prog 92 #[.float .f32 x] w (Ret (RF .f32 (SinT X)) w) := by
  unfold SinT
  have hf := sinW_fits (fcv .f32 .f64 X)
  subst hx
  go_enter Try.func92, Try.ntmps92
  go_wp2_with (first | (go_at_call 103; ((with_reducible refine (sNarrow_c _ _ (by assumption) hf _).mono ?_); rintro e w1 ⟨⟨v, rfl, r, rfl, hr, hw⟩, hb⟩)) | (go_at_call 111; ((with_reducible refine (sSineWide_c _ _ (by assumption) _).mono ?_); rintro e w1 ⟨⟨v, rfl, r, rfl, hr, hw⟩, hb⟩)) | (refine wpL_fconv_fits rfl 22 50 _ rfl .f32 .f64 _ rfl (by decide) Try.underlying22 Try.underlying50 (fits_wide _) ?_; intro r n hr hw))
  go_ret
  exact ⟨⟨_, rfl, _, rfl, by assumption, by assumption⟩, by (with_reducible repeat (first | exact Below.refl _ _ | apply below_alloc | apply below_dN | apply below_d | refine below_setCell ?_ (by dsimp only; omega) | refine below_call (by assumption) ?_))⟩

set_option maxHeartbeats 400000 in
theorem iCos_c (x X : Nat) (hx : cn .f32 x = X) (w : World) : Calls Try.prog 94 #[.float .f32 x] w (Ret (RF .f32 (Cos X)) w) := by
  subst hx
  go_enter Try.func94, Try.ntmps94
  go_wp2_with (first | (go_at_call 95; ((with_reducible refine (sineT_c _ _ (by assumption) _).mono ?_); rintro e w1 ⟨⟨v, rfl, r, rfl, hr, hw⟩, hb⟩)) | (refine wpL_farith rfl _ _ _ _ _ rfl rfl _ _ _ rfl rfl ?_; intro r n hr hw))
  go_ret
  exact ⟨⟨_, rfl, _, rfl, by simp only [Cos, *]; simp only [cnc_f32_1048576000], by assumption⟩, by (with_reducible repeat (first | exact Below.refl _ _ | apply below_alloc | apply below_dN | apply below_d | refine below_setCell ?_ (by dsimp only; omega) | refine below_call (by assumption) ?_))⟩

set_option maxHeartbeats 400000 in
theorem sCos_c (x X : Nat) (hx : cn .f32 x = X) (w : World) : Calls Try.prog 91 #[.float .f32 x] w (Ret (RF .f32 (Cos X)) w) := by
  subst hx
  go_enter Try.func91, Try.ntmps91
  go_wp2_with (first | (go_at_call 92; ((with_reducible refine (sSine_c _ _ (by assumption) _).mono ?_); rintro e w1 ⟨⟨v, rfl, r, rfl, hr, hw⟩, hb⟩)) | (refine wpL_farith rfl _ _ _ _ _ rfl rfl _ _ _ rfl rfl ?_; intro r n hr hw))
  go_ret
  exact ⟨⟨_, rfl, _, rfl, by simp only [Cos, *]; simp only [cnc_f32_1048576000], by assumption⟩, by (with_reducible repeat (first | exact Below.refl _ _ | apply below_alloc | apply below_dN | apply below_d | refine below_setCell ?_ (by dsimp only; omega) | refine below_call (by assumption) ?_))⟩
end Go.Proofs.Ytiaebemlcjjjhaa
