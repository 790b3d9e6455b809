/- Contracts about places, by canonical bits; finite numbers. No condition. -/
import Derived.Test.YteecbhmgogndaaaEq
namespace Go.Proofs.Yteecbhmgogndaaa
open Go.RowKit
set_option linter.unusedSimpArgs false

/-- North and East of a valid place. -/
def vplace (x y : Nat) : Bool := fge .f32 x 3196059648 && (fle .f32 x 1048576000 && (fge .f32 y 3204448256 && flt .f32 y 1056964608))

set_option maxHeartbeats 400000 in
theorem inside_c (x a b X A B : Nat) (hx : cn .f32 x = X) (ha : cn .f32 a = A) (hb : cn .f32 b = B) (w : World) :
    Calls Try.prog 53 #[.float .f32 x, .float .f32 a, .float .f32 b] w (Ret (RV (.bool (fge .f32 X A && fle .f32 X B))) w) := by
  cases h : fge .f32 X A <;>
  (go_enter Try.func53, Try.ntmps53
   go_wp2
   go_ret
   exact ⟨⟨_, rfl, by simp [RV, *]⟩, by (with_reducible repeat (first | exact Below.refl _ _ | apply below_alloc | apply below_dN | apply below_d | refine below_setCell ?_ (by dsimp only; omega) | refine below_call (by assumption) ?_))⟩)

set_option maxHeartbeats 400000 in
theorem toPlace_any (x a : Nat) (w : World) :
    Calls Try.prog 12 #[.agg #[.float .f32 x, .float .f32 a]] w fun e w' => e = .returned (.agg #[.float .f32 x, .float .f32 a]) ∧ Below w.heap.size w w' := by
  go_enter Try.func12, Try.ntmps12
  go_wp2
  go_returns
  exact ⟨rfl, by (with_reducible repeat (first | exact Below.refl _ _ | apply below_alloc | apply below_dN | apply below_d | refine below_setCell ?_ (by dsimp only; omega) | refine below_call (by assumption) ?_))⟩

set_option maxHeartbeats 1000000 in
theorem l02Is_c (x y b o X Y : Nat) (hx : cn .f32 x = X) (hy : cn .f32 y = Y) (w : World) (h0 : w.cell? ⟨b, o, none⟩ = some (.float .f32 x)) (h1 : w.cell? ⟨b, o + 1, none⟩ = some (.float .f32 y)) :
    Calls Try.prog 36 #[.pointer (some ⟨b, o, none⟩)] w fun e w' => e = .returned (.bool (vplace X Y)) ∧ w = w' := by
  cases c1 : fge .f32 X 3196059648 <;> cases c2 : fle .f32 X 1048576000 <;> cases c3 : fge .f32 Y 3204448256 <;>
  (go_enter Try.func36, Try.ntmps36
   go_wp2
   go_ret
   exact ⟨by simp [vplace, *], rfl⟩)

set_option maxHeartbeats 400000 in
theorem iValidPlace_c (x y X Y : Nat) (hx : cn .f32 x = X) (hy : cn .f32 y = Y) (w : World) :
    Calls Try.prog 38 #[.agg #[.float .f32 x, .float .f32 y]] w (Ret (RV (.bool (vplace X Y))) w) := by
  cases c1 : (fge .f32 X 3196059648 && fle .f32 X 1048576000) <;> cases c3 : fge .f32 Y 3204448256 <;>
  (go_enter Try.func38, Try.ntmps38
   go_wp2_with (go_at_call 53; ((with_reducible refine (inside_c _ _ _ _ _ _ hx rfl rfl _).mono ?_); rintro e w1 ⟨⟨v, rfl, rfl⟩, hb⟩); obtain ⟨hc, hfz⟩ := bcell hb; (try simp only [World.heap_drewN] at hc hfz); have hz : w.heap.size + 1 ≤ w1.heap.size := (by (have hz_ := hb.size; (try simp at hz_); omega)); have hz0 : w.heap.size < w1.heap.size := (by omega))
   go_ret
   exact ⟨⟨_, rfl, by simp only [RV, vplace, ← Bool.and_assoc, *]; rfl⟩, by (with_reducible repeat (first | exact Below.refl _ _ | apply below_alloc | apply below_dN | apply below_d | refine below_setCell ?_ (by dsimp only; omega) | refine below_call (by assumption) ?_))⟩)

/-! Finite numbers. -/
theorem not_num {k : FloatKind} {x : Nat} (h : ∀ s m p, k.format.read x ≠ .number s m p) : ¬ num k x := fun ⟨s, m, p, e⟩ => h s m p e
theorem fin_wide (X : Nat) : fin .f64 (fcv .f32 .f64 X) = fin .f32 X := by
  rw [Bool.eq_iff_iff, fin_num, fin_num]
  constructor
  · intro h
    have hn := num_notnan h
    unfold fcv at h
    cases hb : nanB .f32 X
    · rw [hb, if_neg (by decide)] at h
      cases e : FloatKind.f32.format.read X with
      | nan s t => unfold nanB at hb; rw [e] at hb; cases hb
      | infinity s =>
        rw [e] at h
        cases s
        · exact absurd h (by intro ⟨s, m, p, h⟩; revert h; rw [show FloatKind.f64.format.read (FloatKind.f64.format.write (.infinity false)) = .infinity false by decide +kernel]; exact fun h => by cases h)
        · exact absurd h (by intro ⟨s, m, p, h⟩; revert h; rw [show FloatKind.f64.format.read (FloatKind.f64.format.write (.infinity true)) = .infinity true by decide +kernel]; exact fun h => by cases h)
      | number s m p => exact ⟨s, m, p, e⟩
    · rw [hb, if_pos rfl] at h
      have := num_notnan h
      rw [nanB_qn] at this
      cases this
  · exact fun h => (wide_num h).1

-- left out here: loop.example/g01341/impl.IsFinite

-- left out here: loop.example/g01341/spec.l01Finite

/-! Lists of numbers. -/
def allF (X : Nat → Nat) (n : Nat) : Bool := (List.range n).all fun j => fin .f32 (X j)
theorem allF_true {X : Nat → Nat} {n : Nat} (h : ∀ j, j < n → fin .f32 (X j) = true) : allF X n = true := by simpa [allF] using h
theorem allF_false {X : Nat → Nat} {n m : Nat} (hm : m < n) (h : fin .f32 (X m) = false) : allF X n = false := by
  simp only [allF, List.all_eq_false, List.mem_range]
  exact ⟨m, hm, by simp [h]⟩

-- left out here: loop.example/g01341/impl.areFinite

-- left out here: loop.example/g01341/impl.areFinite

-- left out here: loop.example/g01341/impl.areFinite

/-- A number, or 0. -/
def gd (b : Bool) (x : Nat) : Nat := if b then x else 0
/-- Two results. -/
def RP (R R' : Value → Prop) (v : Value) : Prop := ∃ a b, v = .tuple #[a, b] ∧ R a ∧ R' b
end Go.Proofs.Yteecbhmgogndaaa
