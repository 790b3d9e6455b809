/- Contracts about places, by canonical bits; finite numbers. No condition. -/
import Derived.Test.YtnkfbinppikhkaaEq
namespace Go.Proofs.Ytnkfbinppikhkaa
open Go.RowKit
set_option linter.unusedSimpArgs false

/-- North and East of a valid place. -/
def vplace (x y : Nat) : Bool := fge .f32 x 3196059648 && (fle .f32 x 1048576000 && (fge .f32 y 3204448256 && flt .f32 y 1056964608))

-- left out here: inside_c
-- left out here: toPlace_any
-- left out here: l02Is_c
-- left out here: iValidPlace_c
/-! Finite numbers. -/
theorem not_num {k : FloatKind} {x : Nat} (h : ∀ s m p, k.format.read x ≠ .number s m p) : ¬ num k x := fun ⟨s, m, p, e⟩ => h s m p e
theorem fin_wide (X : Nat) : fin .f64 (fcv .f32 .f64 X) = fin .f32 X := by
  rw [Bool.eq_iff_iff, fin_num, fin_num]
  constructor
  · intro h
    have hn := num_notnan h
    unfold fcv at h
    cases hb : nanB .f32 X
    · rw [hb, if_neg (by decide)] at h
      cases e : FloatKind.f32.format.read X with
      | nan s t => unfold nanB at hb; rw [e] at hb; cases hb
      | infinity s =>
        rw [e] at h
        cases s
        · exact absurd h (by intro ⟨s, m, p, h⟩; revert h; rw [show FloatKind.f64.format.read (FloatKind.f64.format.write (.infinity false)) = .infinity false by decide +kernel]; exact fun h => by cases h)
        · exact absurd h (by intro ⟨s, m, p, h⟩; revert h; rw [show FloatKind.f64.format.read (FloatKind.f64.format.write (.infinity true)) = .infinity true by decide +kernel]; exact fun h => by cases h)
      | number s m p => exact ⟨s, m, p, e⟩
    · rw [hb, if_pos rfl] at h
      have := num_notnan h
      rw [nanB_qn] at this
      cases this
  · exact fun h => (wide_num h).1

set_option maxHeartbeats 400000 in
theorem iFinite_c (x X : Nat) (hx : cn .f32 x = X) (w : World) : Calls Try.prog 37 #[.float .f32 x] w (Ret (RV (.bool (fin .f32 X))) w) := by
  subst hx
  go_enter Try.func37, Try.ntmps37
  go_wp2_with (first | (go_at_call 49; ((with_reducible refine (iisFinite_c _ _ (by assumption) _).mono ?_); rintro e w1 ⟨⟨v, rfl, rfl⟩, hb⟩)) | (refine wpL_fconv_fits rfl 36 35 _ rfl .f32 .f64 _ rfl (by decide) Try.underlying36 Try.underlying35 (fits_wide _) ?_; intro r n hr hw))
  go_ret
  exact ⟨⟨_, rfl, by rw [fin_wide]; rfl⟩, by (with_reducible repeat (first | exact Below.refl _ _ | apply below_alloc | apply below_dN | apply below_d | refine below_setCell ?_ (by dsimp only; omega) | refine below_call (by assumption) ?_))⟩

-- left out here: sFinite_c
/-! Lists of numbers. -/
def allF (X : Nat → Nat) (n : Nat) : Bool := (List.range n).all fun j => fin .f32 (X j)
theorem allF_true {X : Nat → Nat} {n : Nat} (h : ∀ j, j < n → fin .f32 (X j) = true) : allF X n = true := by simpa [allF] using h
theorem allF_false {X : Nat → Nat} {n m : Nat} (hm : m < n) (h : fin .f32 (X m) = false) : allF X n = false := by
  simp only [allF, List.all_eq_false, List.mem_range]
  exact ⟨m, hm, by simp [h]⟩

set_option maxHeartbeats 1000000 in
theorem areFinite_c (b : Nat) (n cap : Nat) (X : Nat → Nat) (w : World) (hb : b < w.heap.size) (hn : n < 1000)
    (hX : ∀ j, j < n → ∃ r, w.cell? ⟨b, j, none⟩ = some (.float .f32 r) ∧ cn .f32 r = X j) :
    Calls Try.prog 20 #[.slice (some ⟨b, 0, none⟩) n cap] w (Ret (RV (.bool (allF X n))) w) := by
  go_enter Try.func20, Try.ntmps20
  go_wp2
  go_loopw [7] (fun k wr => ∃ m : Nat, m ≤ n ∧ k = .int .i64 m ∧ (∀ j, j < m → fin .f32 (X j) = true) ∧ Below w.heap.size w wr) (fun k _ => n - (intOf k).toNat)
  case atStart => exact ⟨0, by omega, rfl, by omega, by (with_reducible repeat (first | exact Below.refl _ _ | apply below_alloc | apply below_dN | apply below_d | refine below_setCell ?_ (by dsimp only; omega) | refine below_call (by assumption) ?_))⟩
  case round =>
    obtain ⟨m, hm, rfl, hall, hB⟩ := hrel
    have HA := Lib.hid hall
    clear hall
    by_cases hlt : m < n
    · obtain ⟨r0, hr0, hc0⟩ := hX m hlt
      have HX := Lib.hid hX
      clear hX
      rw [← hB.cell (p := ⟨b, m, none⟩) hb] at hr0
      cases c : fin .f32 (X m)
      · go_wp2_with (first | (go_at_call 37; ((with_reducible refine (iFinite_c _ _ hc0 _).mono ?_); rintro e w1 ⟨⟨v, rfl, rfl⟩, hb⟩)))
        go_ret
        exact ⟨⟨_, rfl, by simp [RV, allF_false hlt c]⟩, by (with_reducible repeat (first | exact Below.refl _ _ | apply below_alloc | apply below_dN | apply below_d | refine below_setCell ?_ (by dsimp only; omega) | refine below_call (by assumption) ?_))⟩
      · go_wp2_with (first | (go_at_call 37; ((with_reducible refine (iFinite_c _ _ hc0 _).mono ?_); rintro e w1 ⟨⟨v, rfl, rfl⟩, hb⟩)))
        go_roundw
        case rel => exact ⟨m + 1, by omega, by go_num, fun j hj => by
          by_cases h : j < m
          · exact HA.out j h
          · obtain rfl : j = m := by omega
            exact c, by (with_reducible repeat (first | exact Below.refl _ _ | apply below_alloc | apply below_dN | apply below_d | refine below_setCell ?_ (by dsimp only; omega) | refine below_call (by assumption) ?_))⟩
        case measure => first | (simp [intOf]; done) | (simp [intOf]; omega)
    · obtain rfl : m = n := by omega
      go_wp2
      go_ret
      exact ⟨⟨_, rfl, by simp [RV, allF_true HA.out]⟩, by (with_reducible repeat (first | exact Below.refl _ _ | apply below_alloc | apply below_dN | apply below_d | refine below_setCell ?_ (by dsimp only; omega) | refine below_call (by assumption) ?_))⟩

theorem areFinite3_c (b cap x y z X Y Z : Nat) (w : World) (hb : b < w.heap.size) (h0 : w.cell? ⟨b, 0, none⟩ = some (.float .f32 x)) (h1 : w.cell? ⟨b, 1, none⟩ = some (.float .f32 y)) (h2 : w.cell? ⟨b, 2, none⟩ = some (.float .f32 z))
    (hx : cn .f32 x = X) (hy : cn .f32 y = Y) (hz : cn .f32 z = Z) : Calls Try.prog 20 #[.slice (some ⟨b, 0, none⟩) 3 cap] w (Ret (RV (.bool (fin .f32 X && (fin .f32 Y && fin .f32 Z)))) w) := by
  have := areFinite_c b 3 cap (fun j => if j = 0 then X else if j = 1 then Y else Z) w hb (by decide) (by
    intro j hj
    match j, hj with
    | 0, _ => exact ⟨x, h0, hx⟩
    | 1, _ => exact ⟨y, h1, hy⟩
    | 2, _ => exact ⟨z, h2, hz⟩)
  rwa [show allF (fun j => if j = 0 then X else if j = 1 then Y else Z) 3 = (fin .f32 X && (fin .f32 Y && fin .f32 Z)) by simp [allF, List.range, List.range.loop]] at this

theorem areFinite2_c (b cap x y X Y : Nat) (w : World) (hb : b < w.heap.size) (h0 : w.cell? ⟨b, 0, none⟩ = some (.float .f32 x)) (h1 : w.cell? ⟨b, 1, none⟩ = some (.float .f32 y))
    (hx : cn .f32 x = X) (hy : cn .f32 y = Y) : Calls Try.prog 20 #[.slice (some ⟨b, 0, none⟩) 2 cap] w (Ret (RV (.bool (fin .f32 X && fin .f32 Y))) w) := by
  have := areFinite_c b 2 cap (fun j => if j = 0 then X else Y) w hb (by decide) (by
    intro j hj
    match j, hj with
    | 0, _ => exact ⟨x, h0, hx⟩
    | 1, _ => exact ⟨y, h1, hy⟩)
  rwa [show allF (fun j => if j = 0 then X else Y) 2 = (fin .f32 X && fin .f32 Y) by simp [allF, List.range, List.range.loop]] at this

/-- A number, or 0. -/
def gd (b : Bool) (x : Nat) : Nat := if b then x else 0
/-- Two results. -/
def RP (R R' : Value → Prop) (v : Value) : Prop := ∃ a b, v = .tuple #[a, b] ∧ R a ∧ R' b
end Go.Proofs.Ytnkfbinppikhkaa
