/- Contracts of places of steps in both spellings, and of the laws' comparison of places that are the same. No condition. -/
import Derived.Test.YteecbhmgogndaaaDoorVal2
import Derived.Test.YteecbhmgogndaaaDoorBas2
import Derived.Deep.OwnRows
import Derived.Deep.RegionHeld3
import Derived.Deep.DeepCutAuto
import Derived.Laws.Rows
namespace Go.Proofs.YteecbhmgogndaaaDoor
open Go.RowKit
set_option linter.unusedSimpArgs false

theorem feq_self (k : FloatKind) (x : Nat) : feq k x x = !nanB k x := by
  unfold feq nanB Ieee.Format.order
  cases e : k.format.read x with
  | nan s f => rfl
  | infinity s => cases s <;> rfl
  | number s m p => simp [Ieee.Datum.order, Ieee.Datum.isNaN]


set_option maxHeartbeats 400000 in
theorem sameFloat_c (a b A : Nat) (ha : cn .f64 a = A) (hb : cn .f64 b = A) (w : World) : Calls Tryd.prog 38 #[.float .f64 a, .float .f64 b] w (Ret (RV (.bool true)) w) := by
  have hs := feq_self .f64 A
  cases c1 : nanB .f64 A <;> cases c2 : feq .f64 A 0 <;> cases c3 : fgt .f64 (fop .quo .f64 4607182418800017408 A) 0 <;> rw [c1] at hs <;>
  (go_enter Tryd.func38, Tryd.ntmps38
   go_wp2_with (first | (refine wpL_farith rfl _ _ _ _ _ rfl rfl _ _ _ rfl rfl ?_; intro r n hr hw))
   go_ret
   exact ⟨⟨_, rfl, rfl⟩, by (with_reducible repeat (first | exact Below.refl _ _ | apply below_alloc | apply below_dN | apply below_d | refine below_setCell ?_ (by dsimp only; omega) | refine below_call (by assumption) ?_))⟩)

set_option maxHeartbeats 400000 in
theorem eqPlace_c (x y x' y' X Y : Nat) (hx : cn .f32 x = X) (hy : cn .f32 y = Y) (hx' : cn .f32 x' = X) (hy' : cn .f32 y' = Y) (w : World) : Calls Tryd.prog 19 #[.agg #[.float .f32 x, .float .f32 y], .agg #[.float .f32 x', .float .f32 y']] w (Ret (RV (.bool true)) w) := by
  subst hx hy
  go_enter Tryd.func19, Tryd.ntmps19
  go_wp2_with (first | (go_at_call 38; ((with_reducible refine (sameFloat_c _ _ _ (by assumption) (by simp only [*]) _).mono ?_); rintro e w1 ⟨⟨v, rfl, rfl⟩, hb⟩); obtain ⟨hc, hfz⟩ := bcell hb; (try simp only [World.heap_drewN] at hc hfz); have hz : w.heap.size + 2 ≤ w1.heap.size := (by (have hz_ := hb.size; (try simp at hz_); omega)); have hz0 : w.heap.size < w1.heap.size := (by omega); have hz1 : w.heap.size + 1 < w1.heap.size := (by omega)) | (refine wpL_fconv_fits rfl 29 51 _ rfl .f32 .f64 _ rfl (by decide) Tryd.underlying29 Tryd.underlying51 (fits_wide _) ?_; intro r n hr hw))
  go_ret
  exact ⟨⟨_, rfl, rfl⟩, by (with_reducible repeat (first | exact Below.refl _ _ | apply below_alloc | apply below_dN | apply below_d | refine below_setCell ?_ (by dsimp only; omega) | refine below_call (by assumption) ?_))⟩

def RP (R R' : Value → Prop) (v : Value) : Prop := ∃ a b, v = .tuple #[a, b] ∧ R a ∧ R' b
def fofI (k : FloatKind) (n : Int) : Nat := k.nearest n
@[go_sem] theorem run_int_float {P : Program} (src dst : TypeId) (q : IntKind) (k : FloatKind) (n : Int) (w : World) (hs : (P.underlying src).isSome = true) (hd : P.underlying dst = some (.float k)) :
    (convert src dst (.int q n)).run P w = .ok (.float k (fofI k n)) w := by
  obtain ⟨s, hs'⟩ := Option.isSome_iff_exists.1 hs
  cases s <;> simp [convert, run_underlying hs', run_underlying hd, Conv.intToFloat, fofI]
@[go_sem, simp] theorem cn_fofI (k : FloatKind) (n : Int) : cn k (fofI k n) = fofI k n := cn_of (write_ok k (d := .number (n < 0) n.natAbs 0) rfl)
/-- The number of a count of steps. -/
def psF (n : Int) : Nat := fop .quo .f32 (fofI .f32 n) 1266679808
def RPc (x y : Nat) (v : Value) : Prop := ∃ a b, v = .agg #[.float .f32 a, .float .f32 b] ∧ (cn .f32 a = x ∧ cn .f32 b = y) ∧ (Lit.float .f32 a).wf = true ∧ (Lit.float .f32 b).wf = true
def stepsIn (n e : Int) : Bool := (decide (-4194304 ≤ n) && decide (n ≤ 4194304)) && (decide (-8388608 ≤ e) && decide (e ≤ 8388607))
def posR (n e : Int) : Value → Prop := RP (RPc (if stepsIn n e then psF n else 0) (if stepsIn n e then psF e else 0)) (RV (.bool (stepsIn n e)))

set_option maxRecDepth 100000 in
set_option maxHeartbeats 1000000 in
theorem iPos_c' (n e : Int) (w : World) : Calls Tryd.prog 37 #[.int .i64 n, .int .i64 e] w (Ret (posR n e) w) := by
  unfold posR
  cases h1 : (decide (-4194304 ≤ n) && decide (n ≤ 4194304))
  · have HV := Lib.hid (show stepsIn n e = false by unfold stepsIn; rw [h1]; rfl)
    rw [HV.out]
    go_enter Tryd.func37, Tryd.ntmps37
    go_wp2_with (go_at_call 33; refine (within_c _ _ _ _).mono ?_; rintro e' w' ⟨rfl, rfl⟩)
    refine bodyPost_ret (v := .tuple #[.agg #[.float .f32 0, .float .f32 0], .bool false]) (by simp [results, Tryd.results37, go_sem, *] <;> (first | rfl | exact ⟨rfl, rfl⟩ | exact ⟨rfl, rfl, rfl⟩ | exact ⟨rfl, rfl, rfl, rfl⟩)) rfl ?_
    exact ⟨⟨_, rfl, _, _, rfl, ⟨0, 0, rfl, by simp, by decide, by decide⟩, rfl⟩, by (with_reducible repeat (first | exact Below.refl _ _ | apply below_alloc | apply below_dN | apply below_d | refine below_setCell ?_ (by dsimp only; omega) | refine below_call (by assumption) ?_))⟩
  · cases h2 : (decide (-8388608 ≤ e) && decide (e ≤ 8388607))
    · have HV := Lib.hid (show stepsIn n e = false by unfold stepsIn; rw [h1, h2]; rfl)
      rw [HV.out]
      go_enter Tryd.func37, Tryd.ntmps37
      go_wp2_with (go_at_call 33; refine (within_c _ _ _ _).mono ?_; rintro e' w' ⟨rfl, rfl⟩)
      refine bodyPost_ret (v := .tuple #[.agg #[.float .f32 0, .float .f32 0], .bool false]) (by simp [results, Tryd.results37, go_sem, *] <;> (first | rfl | exact ⟨rfl, rfl⟩ | exact ⟨rfl, rfl, rfl⟩ | exact ⟨rfl, rfl, rfl, rfl⟩)) rfl ?_
      exact ⟨⟨_, rfl, _, _, rfl, ⟨0, 0, rfl, by simp, by decide, by decide⟩, rfl⟩, by (with_reducible repeat (first | exact Below.refl _ _ | apply below_alloc | apply below_dN | apply below_d | refine below_setCell ?_ (by dsimp only; omega) | refine below_call (by assumption) ?_))⟩
    · have HV := Lib.hid (show stepsIn n e = true by unfold stepsIn; rw [h1, h2]; rfl)
      rw [HV.out]
      go_enter Tryd.func37, Tryd.ntmps37
      go_wp2_with (first | (go_at_call 33; refine (within_c _ _ _ _).mono ?_; rintro e' w' ⟨rfl, rfl⟩) | (refine wpL_farith rfl _ _ _ _ _ rfl rfl _ _ _ rfl rfl ?_; intro r n hr hw))
      refine bodyPost_ret (v := .tuple #[.agg #[.float .f32 _, .float .f32 _], .bool true]) (by simp [results, Tryd.results37, go_sem, *] <;> (first | rfl | exact ⟨rfl, rfl⟩ | exact ⟨rfl, rfl, rfl⟩ | exact ⟨rfl, rfl, rfl, rfl⟩)) rfl ?_
      exact ⟨⟨_, rfl, _, _, rfl, ⟨_, _, rfl, ⟨by simp [psF, *], by simp [psF, *]⟩, by assumption, by assumption⟩, rfl⟩, by (with_reducible repeat (first | exact Below.refl _ _ | apply below_alloc | apply below_dN | apply below_d | refine below_setCell ?_ (by dsimp only; omega) | refine below_call (by assumption) ?_))⟩

set_option maxRecDepth 100000 in
set_option maxHeartbeats 1000000 in
theorem sPos_c' (n e : Int) (w : World) : Calls Tryd.prog 35 #[.int .i64 n, .int .i64 e] w (Ret (posR n e) w) := by
  unfold posR
  cases h1 : (decide (-4194304 ≤ n) && decide (n ≤ 4194304))
  · have HV := Lib.hid (show stepsIn n e = false by unfold stepsIn; rw [h1]; rfl)
    rw [HV.out]
    go_enter Tryd.func35, Tryd.ntmps35
    go_wp2_with (go_at_call 31; refine (l00In_c _ _ _ _).mono ?_; rintro e' w' ⟨rfl, rfl⟩)
    refine bodyPost_ret (v := .tuple #[.agg #[.float .f32 0, .float .f32 0], .bool false]) (by simp [results, Tryd.results35, go_sem, *] <;> (first | rfl | exact ⟨rfl, rfl⟩ | exact ⟨rfl, rfl, rfl⟩ | exact ⟨rfl, rfl, rfl, rfl⟩)) rfl ?_
    exact ⟨⟨_, rfl, _, _, rfl, ⟨0, 0, rfl, by simp, by decide, by decide⟩, rfl⟩, by (with_reducible repeat (first | exact Below.refl _ _ | apply below_alloc | apply below_dN | apply below_d | refine below_setCell ?_ (by dsimp only; omega) | refine below_call (by assumption) ?_))⟩
  · cases h2 : (decide (-8388608 ≤ e) && decide (e ≤ 8388607))
    · have HV := Lib.hid (show stepsIn n e = false by unfold stepsIn; rw [h1, h2]; rfl)
      rw [HV.out]
      go_enter Tryd.func35, Tryd.ntmps35
      go_wp2_with (go_at_call 31; refine (l00In_c _ _ _ _).mono ?_; rintro e' w' ⟨rfl, rfl⟩)
      refine bodyPost_ret (v := .tuple #[.agg #[.float .f32 0, .float .f32 0], .bool false]) (by simp [results, Tryd.results35, go_sem, *] <;> (first | rfl | exact ⟨rfl, rfl⟩ | exact ⟨rfl, rfl, rfl⟩ | exact ⟨rfl, rfl, rfl, rfl⟩)) rfl ?_
      exact ⟨⟨_, rfl, _, _, rfl, ⟨0, 0, rfl, by simp, by decide, by decide⟩, rfl⟩, by (with_reducible repeat (first | exact Below.refl _ _ | apply below_alloc | apply below_dN | apply below_d | refine below_setCell ?_ (by dsimp only; omega) | refine below_call (by assumption) ?_))⟩
    · have HV := Lib.hid (show stepsIn n e = true by unfold stepsIn; rw [h1, h2]; rfl)
      rw [HV.out]
      go_enter Tryd.func35, Tryd.ntmps35
      go_wp2_with (first | (go_at_call 31; refine (l00In_c _ _ _ _).mono ?_; rintro e' w' ⟨rfl, rfl⟩) | (refine wpL_farith rfl _ _ _ _ _ rfl rfl _ _ _ rfl rfl ?_; intro r n hr hw))
      refine bodyPost_ret (v := .tuple #[.agg #[.float .f32 _, .float .f32 _], .bool true]) (by simp [results, Tryd.results35, go_sem, *] <;> (first | rfl | exact ⟨rfl, rfl⟩ | exact ⟨rfl, rfl, rfl⟩ | exact ⟨rfl, rfl, rfl, rfl⟩)) rfl ?_
      exact ⟨⟨_, rfl, _, _, rfl, ⟨_, _, rfl, ⟨by simp [psF, *], by simp [psF, *]⟩, by assumption, by assumption⟩, rfl⟩, by (with_reducible repeat (first | exact Below.refl _ _ | apply below_alloc | apply below_dN | apply below_d | refine below_setCell ?_ (by dsimp only; omega) | refine below_call (by assumption) ?_))⟩

def two (w : World) (b x y : Nat) : Prop := w.rowIs b 31 2 (fun i => .float .f32 (if i = 0 then x else y))
namespace two
variable {w : World} {b x y : Nat}
theorem c0 (h : two w b x y) : w.cell? ⟨b, 0, none⟩ = some (.float .f32 x) := World.rowIs.cell h (i := 0) (by omega)
theorem c1 (h : two w b x y) : w.cell? ⟨b, 1, none⟩ = some (.float .f32 y) := World.rowIs.cell h (i := 1) (by omega)
theorem fr (h : two w b x y) (i : Nat) : w.frozen? ⟨b, i, none⟩ = false := World.rowIs.frozen h i
theorem setA (h : two w b x y) (v : Nat) : two (w.setCell ⟨b, 0, none⟩ (.float .f32 v)) b v y := (World.rowIs.set h 0 _).congr (fun i hi => by
  by_cases e : i = 0
  · simp [e]
  · simp [e])
theorem setB (h : two w b x y) (v : Nat) : two (w.setCell ⟨b, 1, none⟩ (.float .f32 v)) b x v := (World.rowIs.set h 1 _).congr (fun i hi => by
  by_cases e : i = 1
  · simp [e]
  · have : i = 0 := by omega
    simp [this])
theorem other (h : two w b x y) {c i : Nat} (hne : b ≠ c) (v : Value) : two (w.setCell ⟨c, i, none⟩ v) b x y := World.rowIs.setOther h (a := ⟨c, i, none⟩) hne v
theorem alloc (h : two w b x y) (o : Obj) : two (w.alloc o) b x y := World.rowIs.alloc h o
theorem new (w : World) (x y : Nat) : two (w.alloc (.cells #[.float .f32 x, .float .f32 y] 31)) w.heap.size x y := (World.rowIs_alloc w _ _ (fun i => .float .f32 (if i = 0 then x else y)) (fun i hi => by
  match i, hi with
  | 0, _ => rfl
  | 1, _ => rfl))
theorem newAt (hb : b = w.heap.size) : two (w.alloc (.cells #[.float .f32 x, .float .f32 y] 31)) b x y := by rw [hb]; exact two.new w x y
theorem drew (h : two w b x y) : two w.drew b x y := h
theorem cells {c r s : Nat} (h : two w b x y) (k : two w c r s) : w.cell? ⟨b, 0, none⟩ = some (.float .f32 x) ∧ w.cell? ⟨b, 1, none⟩ = some (.float .f32 y) ∧ w.cell? ⟨c, 0, none⟩ = some (.float .f32 r) ∧ w.cell? ⟨c, 1, none⟩ = some (.float .f32 s) := ⟨h.c0, h.c1, k.c0, k.c1⟩
theorem lt (h : two w b x y) : b < w.heap.size := World.rowIs.lt h
end two

theorem two.below {w w' : World} {b x y : Nat} (h : two w b x y) (hb : Below w.heap.size w w') : two w' b x y := World.rowIs.of_block h (hb.block b h.lt)
end Go.Proofs.YteecbhmgogndaaaDoor
