/- Finite numbers. No condition. -/
import Derived.Test.YtpajakindpbepaaGr
namespace Go.Proofs.Ytpajakindpbepaa
open Go.RowKit
set_option linter.unusedSimpArgs false

theorem abs_val {x : Nat} (hx : num .f64 x) : num .f64 (fabs x) ∧ fv .f64 (fabs x) = if fv .f64 x < 0 then -fv .f64 x else fv .f64 x := by
  have hn := num_notnan hx
  obtain ⟨s, m, p, e⟩ := hx
  have hs : FloatKind.f64.format.signWeight = 9223372036854775808 := rfl
  have hf : fabs x = x % 9223372036854775808 := by unfold fabs; rw [hn]; rfl
  have hr : FloatKind.f64.format.read (x % 9223372036854775808) = .number false m p := by
    have h1 : x % 9223372036854775808 % FloatKind.f64.format.signWeight = x % FloatKind.f64.format.signWeight := by rw [hs]; exact Nat.mod_mod _ _
    have h2 : (x % 9223372036854775808 / FloatKind.f64.format.signWeight % 2 == 1) = false := by rw [hs, Nat.div_eq_of_lt (Nat.mod_lt _ (by decide))]; rfl
    unfold Ieee.Format.read at e ⊢
    simp only [h1, h2] at e ⊢
    split at e
    · rename_i h; rw [if_pos h]; cases e; rfl
    · rename_i h
      rw [if_neg h]
      split at e
      · rename_i h; rw [if_pos h]; cases e; rfl
      · split at e <;> cases e
  have h3 := sgn_nonneg m p
  rw [hf]
  refine ⟨⟨_, _, _, hr⟩, ?_⟩
  unfold fv
  rw [hr, e]
  cases s
  · rw [dval_pos, if_neg (by grind)]
  · rw [dval_pos, dval_neg]
    split <;> grind

theorem fits_nan {k k' : FloatKind} {x : Nat} (h : nanB k x = true) : fits k k' x := by
  intro s m p e
  unfold nanB at h
  rw [e] at h
  cases h
theorem wide_num {x : Nat} (hx : num .f32 x) : num .f64 (fcv .f32 .f64 x) ∧ fv .f64 (fcv .f32 .f64 x) = fv .f32 x := by
  have hn := num_notnan hx
  have hx' := hx
  obtain ⟨s, m, p, e⟩ := hx
  obtain ⟨h1, h2⟩ := read_digits e
  have h3 := read_le e
  have hE : (m : Rat) * p2 p ≤ p2 (maxE FloatKind.f64.format) := by
    have a := num_bound hx'
    have b : p2 (maxE FloatKind.f32.format + 1) ≤ p2 (maxE FloatKind.f64.format) := p2_mono (by decide)
    unfold fv at a
    rw [e] at a
    cases s
    · rw [dval_pos] at a; grind
    · rw [dval_neg] at a; grind
  have h4 := exact_nearest .f64 s m p (Nat.lt_of_lt_of_le h1 (by decide)) (Int.le_trans (by decide) h2) hE
  have hf : fcv .f32 .f64 x = FloatKind.f64.format.nearest s m p := by unfold fcv; rw [hn, e, write_number, if_neg (by decide)]
  rw [hf]
  exact ⟨h4.1, by rw [h4.2]; unfold fv; rw [e]⟩

theorem not_num {k : FloatKind} {x : Nat} (h : ∀ s m p, k.format.read x ≠ .number s m p) : ¬ num k x := fun ⟨s, m, p, e⟩ => h s m p e
theorem fin_wide (X : Nat) : fin .f64 (fcv .f32 .f64 X) = fin .f32 X := by
  rw [Bool.eq_iff_iff, fin_num, fin_num]
  constructor
  · intro h
    have hn := num_notnan h
    unfold fcv at h
    cases hb : nanB .f32 X
    · rw [hb, if_neg (by decide)] at h
      cases e : FloatKind.f32.format.read X with
      | nan s t => unfold nanB at hb; rw [e] at hb; cases hb
      | infinity s =>
        rw [e] at h
        cases s
        · exact absurd h (by intro ⟨s, m, p, h⟩; revert h; rw [show FloatKind.f64.format.read (FloatKind.f64.format.write (.infinity false)) = .infinity false by decide +kernel]; exact fun h => by cases h)
        · exact absurd h (by intro ⟨s, m, p, h⟩; revert h; rw [show FloatKind.f64.format.read (FloatKind.f64.format.write (.infinity true)) = .infinity true by decide +kernel]; exact fun h => by cases h)
      | number s m p => exact ⟨s, m, p, e⟩
    · rw [hb, if_pos rfl] at h
      have := num_notnan h
      rw [nanB_qn] at this
      cases this
  · exact fun h => (wide_num h).1

set_option maxHeartbeats 400000 in
theorem iFinite_c (x X : Nat) (hx : cn .f32 x = X) (w : World) : Calls Try.prog 55 #[.float .f32 x] w (Ret (RV (.bool (fin .f32 X))) w) := by
  subst hx
  go_enter Try.func55, Try.ntmps55
  go_wp2_with (first | (go_at_call 95; ((with_reducible refine (iisFinite_c _ _ (by assumption) _).mono ?_); rintro e w1 ⟨⟨v, rfl, rfl⟩, hb⟩)) | (refine wpL_fconv_fits rfl 25 62 _ rfl .f32 .f64 _ rfl (by decide) Try.underlying25 Try.underlying62 (fits_wide _) ?_; intro r n hr hw))
  go_ret
  exact ⟨⟨_, rfl, by rw [fin_wide]; rfl⟩, by (with_reducible repeat (first | exact Below.refl _ _ | apply below_alloc | apply below_dN | apply below_d | refine below_setCell ?_ (by dsimp only; omega) | refine below_call (by assumption) ?_))⟩

set_option maxHeartbeats 400000 in
theorem sFinite_c (x X : Nat) (hx : cn .f32 x = X) (w : World) : Calls Try.prog 50 #[.float .f32 x] w (Ret (RV (.bool (fin .f32 X))) w) := by
  subst hx
  go_enter Try.func50, Try.ntmps50
  go_wp2_with (first | (refine wpL_farith rfl _ _ _ _ _ rfl rfl _ _ _ rfl rfl ?_; intro r n hr hw))
  go_ret
  exact ⟨⟨_, rfl, rfl⟩, by (with_reducible repeat (first | exact Below.refl _ _ | apply below_alloc | apply below_dN | apply below_d | refine below_setCell ?_ (by dsimp only; omega) | refine below_call (by assumption) ?_))⟩

/-! Lists of numbers. -/
def allF (X : Nat → Nat) (n : Nat) : Bool := (List.range n).all fun j => fin .f32 (X j)
theorem allF_true {X : Nat → Nat} {n : Nat} (h : ∀ j, j < n → fin .f32 (X j) = true) : allF X n = true := by simpa [allF] using h
theorem allF_false {X : Nat → Nat} {n m : Nat} (hm : m < n) (h : fin .f32 (X m) = false) : allF X n = false := by
  simp only [allF, List.all_eq_false, List.mem_range]
  exact ⟨m, hm, by simp [h]⟩

set_option maxHeartbeats 1000000 in
theorem areFinite_c (b : Nat) (n cap : Nat) (X : Nat → Nat) (w : World) (hb : b < w.heap.size) (hn : n < 1000)
    (hX : ∀ j, j < n → ∃ r, w.cell? ⟨b, j, none⟩ = some (.float .f32 r) ∧ cn .f32 r = X j) :
    Calls Try.prog 79 #[.slice (some ⟨b, 0, none⟩) n cap] w (Ret (RV (.bool (allF X n))) w) := by
  go_enter Try.func79, Try.ntmps79
  go_wp2
  go_loopw [7] (fun k wr => ∃ m : Nat, m ≤ n ∧ k = .int .i64 m ∧ (∀ j, j < m → fin .f32 (X j) = true) ∧ Below w.heap.size w wr) (fun k _ => n - (intOf k).toNat)
  case atStart => exact ⟨0, by omega, rfl, by omega, by (with_reducible repeat (first | exact Below.refl _ _ | apply below_alloc | apply below_dN | apply below_d | refine below_setCell ?_ (by dsimp only; omega) | refine below_call (by assumption) ?_))⟩
  case round =>
    obtain ⟨m, hm, rfl, hall, hB⟩ := hrel
    have HA := Lib.hid hall
    clear hall
    by_cases hlt : m < n
    · obtain ⟨r0, hr0, hc0⟩ := hX m hlt
      have HX := Lib.hid hX
      clear hX
      rw [← hB.cell (p := ⟨b, m, none⟩) hb] at hr0
      cases c : fin .f32 (X m)
      · go_wp2_with (first | (go_at_call 55; ((with_reducible refine (iFinite_c _ _ hc0 _).mono ?_); rintro e w1 ⟨⟨v, rfl, rfl⟩, hb⟩)))
        go_ret
        exact ⟨⟨_, rfl, by simp [RV, allF_false hlt c]⟩, by (with_reducible repeat (first | exact Below.refl _ _ | apply below_alloc | apply below_dN | apply below_d | refine below_setCell ?_ (by dsimp only; omega) | refine below_call (by assumption) ?_))⟩
      · go_wp2_with (first | (go_at_call 55; ((with_reducible refine (iFinite_c _ _ hc0 _).mono ?_); rintro e w1 ⟨⟨v, rfl, rfl⟩, hb⟩)))
        go_roundw
        case rel => exact ⟨m + 1, by omega, by go_num, fun j hj => by
          by_cases h : j < m
          · exact HA.out j h
          · obtain rfl : j = m := by omega
            exact c, by (with_reducible repeat (first | exact Below.refl _ _ | apply below_alloc | apply below_dN | apply below_d | refine below_setCell ?_ (by dsimp only; omega) | refine below_call (by assumption) ?_))⟩
        case measure => first | (simp [intOf]; done) | (simp [intOf]; omega)
    · obtain rfl : m = n := by omega
      go_wp2
      go_ret
      exact ⟨⟨_, rfl, by simp [RV, allF_true HA.out]⟩, by (with_reducible repeat (first | exact Below.refl _ _ | apply below_alloc | apply below_dN | apply below_d | refine below_setCell ?_ (by dsimp only; omega) | refine below_call (by assumption) ?_))⟩


end Go.Proofs.Ytpajakindpbepaa
