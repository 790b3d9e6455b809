/- Contracts about places, by canonical bits; finite numbers. No condition. -/
import Derived.Test.YtnkimeeofmbhkaaEq
namespace Go.Proofs.Ytnkimeeofmbhkaa
open Go.RowKit
set_option linter.unusedSimpArgs false

/-- North and East of a valid place. -/
def vplace (x y : Nat) : Bool := fge .f32 x 3196059648 && (fle .f32 x 1048576000 && (fge .f32 y 3204448256 && flt .f32 y 1056964608))

set_option maxHeartbeats 400000 in
theorem inside_c (x a b X A B : Nat) (hx : cn .f32 x = X) (ha : cn .f32 a = A) (hb : cn .f32 b = B) (w : World) :
    Calls Try.prog 43 #[.float .f32 x, .float .f32 a, .float .f32 b] w (Ret (RV (.bool (fge .f32 X A && fle .f32 X B))) w) := by
  cases h : fge .f32 X A <;>
  (go_enter Try.func43, Try.ntmps43
   go_wp2
   go_ret
   exact ⟨⟨_, rfl, by simp [RV, *]⟩, by (with_reducible repeat (first | exact Below.refl _ _ | apply below_alloc | apply below_dN | apply below_d | refine below_setCell ?_ (by dsimp only; omega) | refine below_call (by assumption) ?_))⟩)

set_option maxHeartbeats 400000 in
theorem toPlace_any (x a : Nat) (w : World) :
    Calls Try.prog 41 #[.agg #[.float .f32 x, .float .f32 a]] w fun e w' => e = .returned (.agg #[.float .f32 x, .float .f32 a]) ∧ Below w.heap.size w w' := by
  go_enter Try.func41, Try.ntmps41
  go_wp2
  go_returns
  exact ⟨rfl, by (with_reducible repeat (first | exact Below.refl _ _ | apply below_alloc | apply below_dN | apply below_d | refine below_setCell ?_ (by dsimp only; omega) | refine below_call (by assumption) ?_))⟩

set_option maxHeartbeats 1000000 in
theorem l02Is_c (x y b o X Y : Nat) (hx : cn .f32 x = X) (hy : cn .f32 y = Y) (w : World) (h0 : w.cell? ⟨b, o, none⟩ = some (.float .f32 x)) (h1 : w.cell? ⟨b, o + 1, none⟩ = some (.float .f32 y)) :
    Calls Try.prog 72 #[.pointer (some ⟨b, o, none⟩)] w fun e w' => e = .returned (.bool (vplace X Y)) ∧ w = w' := by
  cases c1 : fge .f32 X 3196059648 <;> cases c2 : fle .f32 X 1048576000 <;> cases c3 : fge .f32 Y 3204448256 <;>
  (go_enter Try.func72, Try.ntmps72
   go_wp2
   go_ret
   exact ⟨by simp [vplace, *], rfl⟩)

set_option maxHeartbeats 400000 in
theorem iValidPlace_c (x y X Y : Nat) (hx : cn .f32 x = X) (hy : cn .f32 y = Y) (w : World) :
    Calls Try.prog 95 #[.agg #[.float .f32 x, .float .f32 y]] w (Ret (RV (.bool (vplace X Y))) w) := by
  cases c1 : (fge .f32 X 3196059648 && fle .f32 X 1048576000) <;> cases c3 : fge .f32 Y 3204448256 <;>
  (go_enter Try.func95, Try.ntmps95
   go_wp2_with (go_at_call 43; ((with_reducible refine (inside_c _ _ _ _ _ _ hx rfl rfl _).mono ?_); rintro e w1 ⟨⟨v, rfl, rfl⟩, hb⟩); obtain ⟨hc, hfz⟩ := bcell hb; (try simp only [World.heap_drewN] at hc hfz); have hz : w.heap.size + 1 ≤ w1.heap.size := (by (have hz_ := hb.size; (try simp at hz_); omega)); have hz0 : w.heap.size < w1.heap.size := (by omega))
   go_ret
   exact ⟨⟨_, rfl, by simp only [RV, vplace, ← Bool.and_assoc, *]; rfl⟩, by (with_reducible repeat (first | exact Below.refl _ _ | apply below_alloc | apply below_dN | apply below_d | refine below_setCell ?_ (by dsimp only; omega) | refine below_call (by assumption) ?_))⟩)

/-! Finite numbers. -/
theorem not_num {k : FloatKind} {x : Nat} (h : ∀ s m p, k.format.read x ≠ .number s m p) : ¬ num k x := fun ⟨s, m, p, e⟩ => h s m p e
theorem fin_wide (X : Nat) : fin .f64 (fcv .f32 .f64 X) = fin .f32 X := by
  rw [Bool.eq_iff_iff, fin_num, fin_num]
  constructor
  · intro h
    have hn := num_notnan h
    unfold fcv at h
    cases hb : nanB .f32 X
    · rw [hb, if_neg (by decide)] at h
      cases e : FloatKind.f32.format.read X with
      | nan s t => unfold nanB at hb; rw [e] at hb; cases hb
      | infinity s =>
        rw [e] at h
        cases s
        · exact absurd h (by intro ⟨s, m, p, h⟩; revert h; rw [show FloatKind.f64.format.read (FloatKind.f64.format.write (.infinity false)) = .infinity false by decide +kernel]; exact fun h => by cases h)
        · exact absurd h (by intro ⟨s, m, p, h⟩; revert h; rw [show FloatKind.f64.format.read (FloatKind.f64.format.write (.infinity true)) = .infinity true by decide +kernel]; exact fun h => by cases h)
      | number s m p => exact ⟨s, m, p, e⟩
    · rw [hb, if_pos rfl] at h
      have := num_notnan h
      rw [nanB_qn] at this
      cases this
  · exact fun h => (wide_num h).1

set_option maxHeartbeats 400000 in
theorem iFinite_c (x X : Nat) (hx : cn .f32 x = X) (w : World) : Calls Try.prog 88 #[.float .f32 x] w (Ret (RV (.bool (fin .f32 X))) w) := by
  subst hx
  go_enter Try.func88, Try.ntmps88
  go_wp2_with (first | (go_at_call 103; ((with_reducible refine (iisFinite_c _ _ (by assumption) _).mono ?_); rintro e w1 ⟨⟨v, rfl, rfl⟩, hb⟩)) | (refine wpL_fconv_fits rfl 22 98 _ rfl .f32 .f64 _ rfl (by decide) Try.underlying22 Try.underlying98 (fits_wide _) ?_; intro r n hr hw))
  go_ret
  exact ⟨⟨_, rfl, by rw [fin_wide]; rfl⟩, by (with_reducible repeat (first | exact Below.refl _ _ | apply below_alloc | apply below_dN | apply below_d | refine below_setCell ?_ (by dsimp only; omega) | refine below_call (by assumption) ?_))⟩

-- left out here: loop.example/g01341/spec.l01Finite

/-! Lists of numbers. -/
def allF (X : Nat → Nat) (n : Nat) : Bool := (List.range n).all fun j => fin .f32 (X j)
theorem allF_true {X : Nat → Nat} {n : Nat} (h : ∀ j, j < n → fin .f32 (X j) = true) : allF X n = true := by simpa [allF] using h
theorem allF_false {X : Nat → Nat} {n m : Nat} (hm : m < n) (h : fin .f32 (X m) = false) : allF X n = false := by
  simp only [allF, List.all_eq_false, List.mem_range]
  exact ⟨m, hm, by simp [h]⟩

set_option maxHeartbeats 1000000 in
theorem areFinite_c (b : Nat) (n cap : Nat) (X : Nat → Nat) (w : World) (hb : b < w.heap.size) (hn : n < 1000)
    (hX : ∀ j, j < n → ∃ r, w.cell? ⟨b, j, none⟩ = some (.float .f32 r) ∧ cn .f32 r = X j) :
    Calls Try.prog 61 #[.slice (some ⟨b, 0, none⟩) n cap] w (Ret (RV (.bool (allF X n))) w) := by
  go_enter Try.func61, Try.ntmps61
  go_wp2
  go_loopw [7] (fun k wr => ∃ m : Nat, m ≤ n ∧ k = .int .i64 m ∧ (∀ j, j < m → fin .f32 (X j) = true) ∧ Below w.heap.size w wr) (fun k _ => n - (intOf k).toNat)
  case atStart => exact ⟨0, by omega, rfl, by omega, by (with_reducible repeat (first | exact Below.refl _ _ | apply below_alloc | apply below_dN | apply below_d | refine below_setCell ?_ (by dsimp only; omega) | refine below_call (by assumption) ?_))⟩
  case round =>
    obtain ⟨m, hm, rfl, hall, hB⟩ := hrel
    have HA := Lib.hid hall
    clear hall
    by_cases hlt : m < n
    · obtain ⟨r0, hr0, hc0⟩ := hX m hlt
      have HX := Lib.hid hX
      clear hX
      rw [← hB.cell (p := ⟨b, m, none⟩) hb] at hr0
      cases c : fin .f32 (X m)
      · go_wp2_with (first | (go_at_call 88; ((with_reducible refine (iFinite_c _ _ hc0 _).mono ?_); rintro e w1 ⟨⟨v, rfl, rfl⟩, hb⟩)))
        go_ret
        exact ⟨⟨_, rfl, by simp [RV, allF_false hlt c]⟩, by (with_reducible repeat (first | exact Below.refl _ _ | apply below_alloc | apply below_dN | apply below_d | refine below_setCell ?_ (by dsimp only; omega) | refine below_call (by assumption) ?_))⟩
      · go_wp2_with (first | (go_at_call 88; ((with_reducible refine (iFinite_c _ _ hc0 _).mono ?_); rintro e w1 ⟨⟨v, rfl, rfl⟩, hb⟩)))
        go_roundw
        case rel => exact ⟨m + 1, by omega, by go_num, fun j hj => by
          by_cases h : j < m
          · exact HA.out j h
          · obtain rfl : j = m := by omega
            exact c, by (with_reducible repeat (first | exact Below.refl _ _ | apply below_alloc | apply below_dN | apply below_d | refine below_setCell ?_ (by dsimp only; omega) | refine below_call (by assumption) ?_))⟩
        case measure => first | (simp [intOf]; done) | (simp [intOf]; omega)
    · obtain rfl : m = n := by omega
      go_wp2
      go_ret
      exact ⟨⟨_, rfl, by simp [RV, allF_true HA.out]⟩, by (with_reducible repeat (first | exact Below.refl _ _ | apply below_alloc | apply below_dN | apply below_d | refine below_setCell ?_ (by dsimp only; omega) | refine below_call (by assumption) ?_))⟩

theorem areFinite3_c (b cap x y z X Y Z : Nat) (w : World) (hb : b < w.heap.size) (h0 : w.cell? ⟨b, 0, none⟩ = some (.float .f32 x)) (h1 : w.cell? ⟨b, 1, none⟩ = some (.float .f32 y)) (h2 : w.cell? ⟨b, 2, none⟩ = some (.float .f32 z))
    (hx : cn .f32 x = X) (hy : cn .f32 y = Y) (hz : cn .f32 z = Z) : Calls Try.prog 61 #[.slice (some ⟨b, 0, none⟩) 3 cap] w (Ret (RV (.bool (fin .f32 X && (fin .f32 Y && fin .f32 Z)))) w) := by
  have := areFinite_c b 3 cap (fun j => if j = 0 then X else if j = 1 then Y else Z) w hb (by decide) (by
    intro j hj
    match j, hj with
    | 0, _ => exact ⟨x, h0, hx⟩
    | 1, _ => exact ⟨y, h1, hy⟩
    | 2, _ => exact ⟨z, h2, hz⟩)
  rwa [show allF (fun j => if j = 0 then X else if j = 1 then Y else Z) 3 = (fin .f32 X && (fin .f32 Y && fin .f32 Z)) by simp [allF, List.range, List.range.loop]] at this

theorem areFinite2_c (b cap x y X Y : Nat) (w : World) (hb : b < w.heap.size) (h0 : w.cell? ⟨b, 0, none⟩ = some (.float .f32 x)) (h1 : w.cell? ⟨b, 1, none⟩ = some (.float .f32 y))
    (hx : cn .f32 x = X) (hy : cn .f32 y = Y) : Calls Try.prog 61 #[.slice (some ⟨b, 0, none⟩) 2 cap] w (Ret (RV (.bool (fin .f32 X && fin .f32 Y))) w) := by
  have := areFinite_c b 2 cap (fun j => if j = 0 then X else Y) w hb (by decide) (by
    intro j hj
    match j, hj with
    | 0, _ => exact ⟨x, h0, hx⟩
    | 1, _ => exact ⟨y, h1, hy⟩)
  rwa [show allF (fun j => if j = 0 then X else Y) 2 = (fin .f32 X && fin .f32 Y) by simp [allF, List.range, List.range.loop]] at this

/-- A number, or 0. -/
def gd (b : Bool) (x : Nat) : Nat := if b then x else 0
/-- Two results. -/
def RP (R R' : Value → Prop) (v : Value) : Prop := ∃ a b, v = .tuple #[a, b] ∧ R a ∧ R' b
end Go.Proofs.Ytnkimeeofmbhkaa
