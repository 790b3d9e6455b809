/- Contracts of the sine of a number of turns, and of what it calls. No condition. -/
import Derived.Test.YtnkfbinppikhkaaPure
namespace Go.Proofs.Ytnkfbinppikhkaa
open Go.RowKit
set_option linter.unusedSimpArgs false

def fofI (k : FloatKind) (n : Int) : Nat := k.nearest n
@[go_sem] theorem run_int_float {P : Program} (src dst : TypeId) (q : IntKind) (k : FloatKind) (n : Int) (w : World) (hs : (P.underlying src).isSome = true) (hd : P.underlying dst = some (.float k)) :
    (convert src dst (.int q n)).run P w = .ok (.float k (fofI k n)) w := by
  obtain ⟨s, hs'⟩ := Option.isSome_iff_exists.1 hs
  cases s <;> simp [convert, run_underlying hs', run_underlying hd, Conv.intToFloat, fofI]
@[go_sem, simp] theorem cn_fofI (k : FloatKind) (n : Int) : cn k (fofI k n) = fofI k n := cn_of (write_ok k (d := .number (n < 0) n.natAbs 0) rfl)

/-- A finite number. -/
def fin (k : FloatKind) (x : Nat) : Bool := feq k (fop .sub k x x) 0

theorem andNot_sign (b : Nat) : bits BinOp.andNot IntKind.u64 (b : Int) 9223372036854775808 = ((b % 9223372036854775808 : Nat) : Int) := by
  unfold bits
  have e1 : (BitVec.ofInt 64 (b : Int) &&& ~~~BitVec.ofInt 64 9223372036854775808).toNat = b % 9223372036854775808 := by
    rw [BitVec.toNat_and, show (~~~BitVec.ofInt 64 9223372036854775808).toNat = 2 ^ 63 - 1 from by decide, Nat.and_two_pow_sub_one_eq_mod]
    simp
  show IntKind.u64.wrap ((BitVec.ofInt 64 (b : Int) &&& ~~~BitVec.ofInt 64 9223372036854775808).toNat : Int) = _
  rw [e1]
  have : b % 9223372036854775808 < 9223372036854775808 := Nat.mod_lt _ (by decide)
  show (((b % 9223372036854775808 : Nat) : Int)) % 18446744073709551616 = _
  omega


set_option maxHeartbeats 400000 in
theorem iisFinite_c (x X : Nat) (hx : cn .f64 x = X) (w : World) : Calls Try.prog 49 #[.float .f64 x] w (Ret (RV (.bool (fin .f64 X))) w) := by
  go_enter Try.func49, Try.ntmps49
  go_wp2_with (refine wpL_farith rfl _ _ _ _ _ rfl rfl _ _ _ rfl rfl ?_; intro r n hr hw)
  go_ret
  exact ⟨⟨_, rfl, rfl⟩, by (with_reducible repeat (first | exact Below.refl _ _ | apply below_alloc | apply below_dN | apply below_d | refine below_setCell ?_ (by dsimp only; omega) | refine below_call (by assumption) ?_))⟩


set_option maxHeartbeats 400000 in
theorem trunc_c (x X : Nat) (hx : cn .f64 x = X) (w : World) : Calls Try.prog 56 #[.float .f64 x] w (Ret (RF .f64 (fint .zero X)) w) := by
  go_enter Try.func56, Try.ntmps56
  go_wp2_with (refine wpL_ext1 rfl 57 _ _ rfl _ rfl (fint .zero) (call_trunc _) ?_; intro r n hr)
  go_ret
  exact ⟨⟨_, rfl, _, rfl, by simp only [*], okf64⟩, by (with_reducible repeat (first | exact Below.refl _ _ | apply below_alloc | apply below_dN | apply below_d | refine below_setCell ?_ (by dsimp only; omega) | refine below_call (by assumption) ?_))⟩

-- left out here: floor_c
set_option maxHeartbeats 400000 in
theorem sqrt_c (x X : Nat) (hx : cn .f64 x = X) (w : World) : Calls Try.prog 35 #[.float .f64 x] w (Ret (RF .f64 (fsq X)) w) := by
  go_enter Try.func35, Try.ntmps35
  go_wp2_with (refine wpL_ext1 rfl 47 _ _ rfl _ rfl fsq (call_sqrt _) ?_; intro r n hr)
  go_ret
  exact ⟨⟨_, rfl, _, rfl, by simp only [*], okf64⟩, by (with_reducible repeat (first | exact Below.refl _ _ | apply below_alloc | apply below_dN | apply below_d | refine below_setCell ?_ (by dsimp only; omega) | refine below_call (by assumption) ?_))⟩

set_option maxHeartbeats 400000 in
theorem abs_c (x X : Nat) (hx : cn .f64 x = X) (w : World) : Calls Try.prog 46 #[.float .f64 x] w (Ret (RF .f64 (fabs X)) w) := by
  have h1 := andNot_sign x
  have h2 := cn_abs x
  rw [hx] at h2
  go_enter Try.func46, Try.ntmps46
  go_wp2
  go_ret
  exact ⟨⟨_, rfl, _, rfl, h2, okf64⟩, by (with_reducible repeat (first | exact Below.refl _ _ | apply below_alloc | apply below_dN | apply below_d | refine below_setCell ?_ (by dsimp only; omega) | refine below_call (by assumption) ?_))⟩

set_option maxHeartbeats 400000 in
theorem nan_c (w : World) : Calls Try.prog 45 #[] w (Ret (RF .f64 (qn .f64)) w) := by
  go_enter Try.func45, Try.ntmps45
  go_wp2
  go_ret
  exact ⟨⟨_, rfl, _, rfl, by decide +kernel, okf64⟩, by (with_reducible repeat (first | exact Below.refl _ _ | apply below_alloc | apply below_dN | apply below_d | refine below_setCell ?_ (by dsimp only; omega) | refine below_call (by assumption) ?_))⟩

/-- A number of turns less whole turns. -/
def Frac (t : Nat) : Nat :=
  let f := fop .sub .f64 t (if feq .f64 (fint .zero t) 0 then 0 else fint .zero t)
  if flt .f64 f 0 then fop .add .f64 f 4607182418800017408 else f

set_option maxHeartbeats 400000 in
theorem frac_c (x X : Nat) (hx : cn .f64 x = X) (w : World) : Calls Try.prog 50 #[.float .f64 x] w (Ret (RF .f64 (Frac X)) w) := by
  by_cases c1 : feq .f64 (fint .zero X) 0 = true
  · by_cases c2 : flt .f64 (fop .sub .f64 X 0) 0 = true
    · go_enter Try.func50, Try.ntmps50
      go_wp2_with (first | (refine wpL_farith rfl _ _ _ _ _ rfl rfl _ _ _ rfl rfl ?_; intro r n hr hw) | (go_at_call 56; ((with_reducible refine (trunc_c _ _ (by assumption) _).mono ?_); rintro e w1 ⟨⟨v, rfl, r, rfl, hr, hw⟩, hb⟩)))
      go_ret
      exact ⟨⟨_, rfl, _, rfl, by simp [Frac, *], by first | exact okf64 | exact okf_of (by assumption) | assumption⟩, by (with_reducible repeat (first | exact Below.refl _ _ | apply below_alloc | apply below_dN | apply below_d | refine below_setCell ?_ (by dsimp only; omega) | refine below_call (by assumption) ?_))⟩
    · have c2 : flt .f64 (fop .sub .f64 X 0) 0 = false := by simpa using c2
      go_enter Try.func50, Try.ntmps50
      go_wp2_with (first | (refine wpL_farith rfl _ _ _ _ _ rfl rfl _ _ _ rfl rfl ?_; intro r n hr hw) | (go_at_call 56; ((with_reducible refine (trunc_c _ _ (by assumption) _).mono ?_); rintro e w1 ⟨⟨v, rfl, r, rfl, hr, hw⟩, hb⟩)))
      go_ret
      exact ⟨⟨_, rfl, _, rfl, by simp [Frac, *], by first | exact okf64 | exact okf_of (by assumption) | assumption⟩, by (with_reducible repeat (first | exact Below.refl _ _ | apply below_alloc | apply below_dN | apply below_d | refine below_setCell ?_ (by dsimp only; omega) | refine below_call (by assumption) ?_))⟩
  · have c1 : feq .f64 (fint .zero X) 0 = false := by simpa using c1
    by_cases c2 : flt .f64 (fop .sub .f64 X (fint .zero X)) 0 = true
    · go_enter Try.func50, Try.ntmps50
      go_wp2_with (first | (refine wpL_farith rfl _ _ _ _ _ rfl rfl _ _ _ rfl rfl ?_; intro r n hr hw) | (go_at_call 56; ((with_reducible refine (trunc_c _ _ (by assumption) _).mono ?_); rintro e w1 ⟨⟨v, rfl, r, rfl, hr, hw⟩, hb⟩)))
      go_ret
      exact ⟨⟨_, rfl, _, rfl, by simp [Frac, *], by first | exact okf64 | exact okf_of (by assumption) | assumption⟩, by (with_reducible repeat (first | exact Below.refl _ _ | apply below_alloc | apply below_dN | apply below_d | refine below_setCell ?_ (by dsimp only; omega) | refine below_call (by assumption) ?_))⟩
    · have c2 : flt .f64 (fop .sub .f64 X (fint .zero X)) 0 = false := by simpa using c2
      go_enter Try.func50, Try.ntmps50
      go_wp2_with (first | (refine wpL_farith rfl _ _ _ _ _ rfl rfl _ _ _ rfl rfl ?_; intro r n hr hw) | (go_at_call 56; ((with_reducible refine (trunc_c _ _ (by assumption) _).mono ?_); rintro e w1 ⟨⟨v, rfl, r, rfl, hr, hw⟩, hb⟩)))
      go_ret
      exact ⟨⟨_, rfl, _, rfl, by simp [Frac, *], by first | exact okf64 | exact okf_of (by assumption) | assumption⟩, by (with_reducible repeat (first | exact Below.refl _ _ | apply below_alloc | apply below_dN | apply below_d | refine below_setCell ?_ (by dsimp only; omega) | refine below_call (by assumption) ?_))⟩

/-- The polynomial of the sine, k steps before its end. -/
def sineP (u : Nat) : Nat → Nat → Nat
  | 0, p => p
  | k + 1, p => sineP u k (fop .sub .f64 4607182418800017408 (fop .quo .f64 (fop .mul .f64 u p) (fofI .f64 (2 * ((k : Int) + 1) * (2 * ((k : Int) + 1) + 1)))))

def sin1 (f : Nat) : Nat := if fge .f64 f 4602678819172646912 then fop .sub .f64 f 4602678819172646912 else f
def sin2 (f : Nat) : Nat := if fgt .f64 (sin1 f) 4598175219545276416 then fop .sub .f64 4602678819172646912 (sin1 f) else sin1 f
def sinZ (f : Nat) : Nat := fop .mul .f64 (sin2 f) 4618760256179416344
def sinO (f : Nat) : Nat := fop .mul .f64 (sinZ f) (sineP (fop .mul .f64 (sinZ f) (sinZ f)) 8 4607182418800017408)
/-- The sine of a fraction of a turn. -/
def SineF (f : Nat) : Nat := if fge .f64 f 4602678819172646912 then fneg .f64 (sinO f) else sinO f


theorem wrapK {m : Nat} (hm : m + 1 ≤ 8) : wrap64 (2 * ((m : Int) + 1) * (2 * ((m : Int) + 1) + 1)) = 2 * ((m : Int) + 1) * (2 * ((m : Int) + 1) + 1) := by
  match m, hm with
  | 0, _ => simp [wrap64]
  | 1, _ => simp [wrap64]
  | 2, _ => simp [wrap64]
  | 3, _ => simp [wrap64]
  | 4, _ => simp [wrap64]
  | 5, _ => simp [wrap64]
  | 6, _ => simp [wrap64]
  | 7, _ => simp [wrap64]
  | m + 8, h => omega


set_option maxHeartbeats 1000000 in
theorem sine_c (x X F : Nat) (hx : cn .f64 x = X) (hF : Frac X = F) (w : World) : Calls Try.prog 51 #[.float .f64 x] w (Ret (RF .f64 (SineF F)) w) := by
  by_cases c1 : fge .f64 F 4602678819172646912 = true
  · by_cases c2 : fgt .f64 (fop .sub .f64 F 4602678819172646912) 4598175219545276416 = true
    · go_enter Try.func51, Try.ntmps51; go_wp2_with (first | (refine wpL_farith rfl _ _ _ _ _ rfl rfl _ _ _ rfl rfl ?_; intro r n hr hw) | (go_at_call 50; ((with_reducible refine (frac_c _ _ (by assumption) _).mono ?_); rintro e w1 ⟨⟨v, rfl, r, rfl, hr, hw⟩, hb⟩))); (go_loopw [7, 8] (fun p k wr => ∃ (m : Nat) (q : Nat), m ≤ 8 ∧ k = .int .i64 m ∧ p = .float .f64 q ∧ sineP (fop .mul .f64 (sinZ F) (sinZ F)) m (cn .f64 q) = sineP (fop .mul .f64 (sinZ F) (sinZ F)) 8 4607182418800017408 ∧ Below w.heap.size w wr) (fun _ k _ => (intOf k).toNat))
      case atStart => exact ⟨8, 4607182418800017408, by omega, rfl, rfl, by simp, by (with_reducible repeat (first | exact Below.refl _ _ | apply below_alloc | apply below_dN | apply below_d | refine below_setCell ?_ (by dsimp only; omega) | refine below_call (by assumption) ?_))⟩
      case round =>
        obtain ⟨m, q, hm, rfl, rfl, hp, hB⟩ := hrel; have HP := Lib.hid hp; clear hp; by_cases hlt : 1 ≤ m
        · obtain ⟨m, rfl⟩ : ∃ j, m = j + 1 := ⟨m - 1, by omega⟩; have hwk := wrapK hm; go_wp2_with (first | (refine wpL_farith rfl _ _ _ _ _ rfl rfl _ _ _ rfl rfl ?_; intro r n hr hw)); go_roundw
          case rel => exact ⟨m, _, by omega, by go_num, rfl, by rw [← HP.out]; simp [sineP, sinZ, sin2, sin1, *], by (with_reducible repeat (first | exact Below.refl _ _ | apply below_alloc | apply below_dN | apply below_d | refine below_setCell ?_ (by dsimp only; omega) | refine below_call (by assumption) ?_))⟩
          case measure => first | (simp [intOf]; done) | (simp [intOf]; omega)
        · obtain rfl : m = 0 := (by omega); have hp : cn .f64 q = sineP (fop .mul .f64 (sinZ F) (sinZ F)) 8 4607182418800017408 := HP.out; have HQ := Lib.hid hp; clear HP hp; go_wp2_with (first | (refine wpL_farith rfl _ _ _ _ _ rfl rfl _ _ _ rfl rfl ?_; intro r n hr hw)); go_ret; exact ⟨⟨_, rfl, _, rfl, by have hp := HQ.out; simp only [SineF, sinO, ← hp]; clear hp; simp [sinZ, sin2, sin1, *], okf64⟩, by (with_reducible repeat (first | exact Below.refl _ _ | apply below_alloc | apply below_dN | apply below_d | refine below_setCell ?_ (by dsimp only; omega) | refine below_call (by assumption) ?_))⟩
    · have c2 : fgt .f64 (fop .sub .f64 F 4602678819172646912) 4598175219545276416 = false := by simpa using c2
      go_enter Try.func51, Try.ntmps51; go_wp2_with (first | (refine wpL_farith rfl _ _ _ _ _ rfl rfl _ _ _ rfl rfl ?_; intro r n hr hw) | (go_at_call 50; ((with_reducible refine (frac_c _ _ (by assumption) _).mono ?_); rintro e w1 ⟨⟨v, rfl, r, rfl, hr, hw⟩, hb⟩))); (go_loopw [7, 8] (fun p k wr => ∃ (m : Nat) (q : Nat), m ≤ 8 ∧ k = .int .i64 m ∧ p = .float .f64 q ∧ sineP (fop .mul .f64 (sinZ F) (sinZ F)) m (cn .f64 q) = sineP (fop .mul .f64 (sinZ F) (sinZ F)) 8 4607182418800017408 ∧ Below w.heap.size w wr) (fun _ k _ => (intOf k).toNat))
      case atStart => exact ⟨8, 4607182418800017408, by omega, rfl, rfl, by simp, by (with_reducible repeat (first | exact Below.refl _ _ | apply below_alloc | apply below_dN | apply below_d | refine below_setCell ?_ (by dsimp only; omega) | refine below_call (by assumption) ?_))⟩
      case round =>
        obtain ⟨m, q, hm, rfl, rfl, hp, hB⟩ := hrel; have HP := Lib.hid hp; clear hp; by_cases hlt : 1 ≤ m
        · obtain ⟨m, rfl⟩ : ∃ j, m = j + 1 := ⟨m - 1, by omega⟩; have hwk := wrapK hm; go_wp2_with (first | (refine wpL_farith rfl _ _ _ _ _ rfl rfl _ _ _ rfl rfl ?_; intro r n hr hw)); go_roundw
          case rel => exact ⟨m, _, by omega, by go_num, rfl, by rw [← HP.out]; simp [sineP, sinZ, sin2, sin1, *], by (with_reducible repeat (first | exact Below.refl _ _ | apply below_alloc | apply below_dN | apply below_d | refine below_setCell ?_ (by dsimp only; omega) | refine below_call (by assumption) ?_))⟩
          case measure => first | (simp [intOf]; done) | (simp [intOf]; omega)
        · obtain rfl : m = 0 := (by omega); have hp : cn .f64 q = sineP (fop .mul .f64 (sinZ F) (sinZ F)) 8 4607182418800017408 := HP.out; have HQ := Lib.hid hp; clear HP hp; go_wp2_with (first | (refine wpL_farith rfl _ _ _ _ _ rfl rfl _ _ _ rfl rfl ?_; intro r n hr hw)); go_ret; exact ⟨⟨_, rfl, _, rfl, by have hp := HQ.out; simp only [SineF, sinO, ← hp]; clear hp; simp [sinZ, sin2, sin1, *], okf64⟩, by (with_reducible repeat (first | exact Below.refl _ _ | apply below_alloc | apply below_dN | apply below_d | refine below_setCell ?_ (by dsimp only; omega) | refine below_call (by assumption) ?_))⟩
  · have c1 : fge .f64 F 4602678819172646912 = false := by simpa using c1
    by_cases c2 : fgt .f64 F 4598175219545276416 = true
    · go_enter Try.func51, Try.ntmps51; go_wp2_with (first | (refine wpL_farith rfl _ _ _ _ _ rfl rfl _ _ _ rfl rfl ?_; intro r n hr hw) | (go_at_call 50; ((with_reducible refine (frac_c _ _ (by assumption) _).mono ?_); rintro e w1 ⟨⟨v, rfl, r, rfl, hr, hw⟩, hb⟩))); (go_loopw [7, 8] (fun p k wr => ∃ (m : Nat) (q : Nat), m ≤ 8 ∧ k = .int .i64 m ∧ p = .float .f64 q ∧ sineP (fop .mul .f64 (sinZ F) (sinZ F)) m (cn .f64 q) = sineP (fop .mul .f64 (sinZ F) (sinZ F)) 8 4607182418800017408 ∧ Below w.heap.size w wr) (fun _ k _ => (intOf k).toNat))
      case atStart => exact ⟨8, 4607182418800017408, by omega, rfl, rfl, by simp, by (with_reducible repeat (first | exact Below.refl _ _ | apply below_alloc | apply below_dN | apply below_d | refine below_setCell ?_ (by dsimp only; omega) | refine below_call (by assumption) ?_))⟩
      case round =>
        obtain ⟨m, q, hm, rfl, rfl, hp, hB⟩ := hrel; have HP := Lib.hid hp; clear hp; by_cases hlt : 1 ≤ m
        · obtain ⟨m, rfl⟩ : ∃ j, m = j + 1 := ⟨m - 1, by omega⟩; have hwk := wrapK hm; go_wp2_with (first | (refine wpL_farith rfl _ _ _ _ _ rfl rfl _ _ _ rfl rfl ?_; intro r n hr hw)); go_roundw
          case rel => exact ⟨m, _, by omega, by go_num, rfl, by rw [← HP.out]; simp [sineP, sinZ, sin2, sin1, *], by (with_reducible repeat (first | exact Below.refl _ _ | apply below_alloc | apply below_dN | apply below_d | refine below_setCell ?_ (by dsimp only; omega) | refine below_call (by assumption) ?_))⟩
          case measure => first | (simp [intOf]; done) | (simp [intOf]; omega)
        · obtain rfl : m = 0 := (by omega); have hp : cn .f64 q = sineP (fop .mul .f64 (sinZ F) (sinZ F)) 8 4607182418800017408 := HP.out; have HQ := Lib.hid hp; clear HP hp; go_wp2_with (first | (refine wpL_farith rfl _ _ _ _ _ rfl rfl _ _ _ rfl rfl ?_; intro r n hr hw)); go_ret; exact ⟨⟨_, rfl, _, rfl, by have hp := HQ.out; simp only [SineF, sinO, ← hp]; clear hp; simp [sinZ, sin2, sin1, *], okf64⟩, by (with_reducible repeat (first | exact Below.refl _ _ | apply below_alloc | apply below_dN | apply below_d | refine below_setCell ?_ (by dsimp only; omega) | refine below_call (by assumption) ?_))⟩
    · have c2 : fgt .f64 F 4598175219545276416 = false := by simpa using c2
      go_enter Try.func51, Try.ntmps51; go_wp2_with (first | (refine wpL_farith rfl _ _ _ _ _ rfl rfl _ _ _ rfl rfl ?_; intro r n hr hw) | (go_at_call 50; ((with_reducible refine (frac_c _ _ (by assumption) _).mono ?_); rintro e w1 ⟨⟨v, rfl, r, rfl, hr, hw⟩, hb⟩))); (go_loopw [7, 8] (fun p k wr => ∃ (m : Nat) (q : Nat), m ≤ 8 ∧ k = .int .i64 m ∧ p = .float .f64 q ∧ sineP (fop .mul .f64 (sinZ F) (sinZ F)) m (cn .f64 q) = sineP (fop .mul .f64 (sinZ F) (sinZ F)) 8 4607182418800017408 ∧ Below w.heap.size w wr) (fun _ k _ => (intOf k).toNat))
      case atStart => exact ⟨8, 4607182418800017408, by omega, rfl, rfl, by simp, by (with_reducible repeat (first | exact Below.refl _ _ | apply below_alloc | apply below_dN | apply below_d | refine below_setCell ?_ (by dsimp only; omega) | refine below_call (by assumption) ?_))⟩
      case round =>
        obtain ⟨m, q, hm, rfl, rfl, hp, hB⟩ := hrel; have HP := Lib.hid hp; clear hp; by_cases hlt : 1 ≤ m
        · obtain ⟨m, rfl⟩ : ∃ j, m = j + 1 := ⟨m - 1, by omega⟩; have hwk := wrapK hm; go_wp2_with (first | (refine wpL_farith rfl _ _ _ _ _ rfl rfl _ _ _ rfl rfl ?_; intro r n hr hw)); go_roundw
          case rel => exact ⟨m, _, by omega, by go_num, rfl, by rw [← HP.out]; simp [sineP, sinZ, sin2, sin1, *], by (with_reducible repeat (first | exact Below.refl _ _ | apply below_alloc | apply below_dN | apply below_d | refine below_setCell ?_ (by dsimp only; omega) | refine below_call (by assumption) ?_))⟩
          case measure => first | (simp [intOf]; done) | (simp [intOf]; omega)
        · obtain rfl : m = 0 := (by omega); have hp : cn .f64 q = sineP (fop .mul .f64 (sinZ F) (sinZ F)) 8 4607182418800017408 := HP.out; have HQ := Lib.hid hp; clear HP hp; go_wp2_with (first | (refine wpL_farith rfl _ _ _ _ _ rfl rfl _ _ _ rfl rfl ?_; intro r n hr hw)); go_ret; exact ⟨⟨_, rfl, _, rfl, by have hp := HQ.out; simp only [SineF, sinO, ← hp]; clear hp; simp [sinZ, sin2, sin1, *], okf64⟩, by (with_reducible repeat (first | exact Below.refl _ _ | apply below_alloc | apply below_dN | apply below_d | refine below_setCell ?_ (by dsimp only; omega) | refine below_call (by assumption) ?_))⟩

end Go.Proofs.Ytnkfbinppikhkaa
