/- Contracts of BoxOfPlaces in both spellings. No condition. -/
import Derived.Test.YtiaebemlcjjjhaaLArePl
import Derived.Deep.RegionHeld3
import Derived.Deep.CutBlock
import Derived.Deep.DeepCutAuto
namespace Go.Proofs.Ytiaebemlcjjjhaa
open Go.RowKit
set_option linter.unusedSimpArgs false

theorem bx_flt (x : Nat) : flt .f32 x x = false := by
  unfold flt Ieee.Format.order
  cases e : FloatKind.f32.format.read x with
  | nan s f => rfl
  | infinity s => cases s <;> rfl
  | number s m p => simp [Ieee.Datum.order]
theorem bx_fgt (x : Nat) : fgt .f32 x x = false := by
  unfold fgt Ieee.Format.order
  cases e : FloatKind.f32.format.read x with
  | nan s f => rfl
  | infinity s => cases s <;> rfl
  | number s m p => simp [Ieee.Datum.order]
/-- The least and the greatest of the first m. -/
def mnF (Z : Nat → Nat) : Nat → Nat
  | 0 => Z 0
  | m + 1 => if flt .f32 (Z m) (mnF Z m) then Z m else mnF Z m
def mxF (Z : Nat → Nat) : Nat → Nat
  | 0 => Z 0
  | m + 1 => if fgt .f32 (Z m) (mxF Z m) then Z m else mxF Z m
theorem mnF_one (Z : Nat → Nat) : mnF Z 1 = Z 0 := by simp [mnF, bx_flt]
theorem mxF_one (Z : Nat → Nat) : mxF Z 1 = Z 0 := by simp [mxF, bx_fgt]
def boxR (ok : Bool) (a b c d : Nat) (v : Value) : Prop := ∃ r1 r2 r3 r4, v = .tuple #[.agg #[.float .f32 r1, .float .f32 r2], .agg #[.float .f32 r3, .float .f32 r4], .bool ok] ∧ cn .f32 r1 = (if ok then a else 0) ∧ cn .f32 r2 = (if ok then b else 0) ∧ cn .f32 r3 = (if ok then c else 0) ∧ cn .f32 r4 = (if ok then d else 0)
def bxR (X Y : Nat → Nat) (n : Nat) : Value → Prop := boxR (arePl n X Y) (mnF X n) (mnF Y n) (mxF X n) (mxF Y n)
/-- A block of two cells. -/
def two (w : World) (b x y : Nat) : Prop := w.rowIs b 27 2 (fun i => .float .f32 (if i = 0 then x else y))
namespace two
variable {w : World} {b x y : Nat}
theorem c0 (h : two w b x y) : w.cell? ⟨b, 0, none⟩ = some (.float .f32 x) := World.rowIs.cell h (i := 0) (by omega)
theorem c1 (h : two w b x y) : w.cell? ⟨b, 1, none⟩ = some (.float .f32 y) := World.rowIs.cell h (i := 1) (by omega)
theorem fr (h : two w b x y) (i : Nat) : w.frozen? ⟨b, i, none⟩ = false := World.rowIs.frozen h i
theorem setA (h : two w b x y) (v : Nat) : two (w.setCell ⟨b, 0, none⟩ (.float .f32 v)) b v y := (World.rowIs.set h 0 _).congr (fun i hi => by
  by_cases e : i = 0
  · simp [e]
  · simp [e])
theorem setB (h : two w b x y) (v : Nat) : two (w.setCell ⟨b, 1, none⟩ (.float .f32 v)) b x v := (World.rowIs.set h 1 _).congr (fun i hi => by
  by_cases e : i = 1
  · simp [e]
  · have : i = 0 := by omega
    simp [this])
theorem other (h : two w b x y) {c i : Nat} (hne : b ≠ c) (v : Value) : two (w.setCell ⟨c, i, none⟩ v) b x y := World.rowIs.setOther h (a := ⟨c, i, none⟩) hne v
theorem alloc (h : two w b x y) (o : Obj) : two (w.alloc o) b x y := World.rowIs.alloc h o
theorem new (w : World) (x y : Nat) : two (w.alloc (.cells #[.float .f32 x, .float .f32 y] 27)) w.heap.size x y := (World.rowIs_alloc w _ _ (fun i => .float .f32 (if i = 0 then x else y)) (fun i hi => by
  match i, hi with
  | 0, _ => rfl
  | 1, _ => rfl))
theorem newAt (hb : b = w.heap.size) : two (w.alloc (.cells #[.float .f32 x, .float .f32 y] 27)) b x y := by rw [hb]; exact two.new w x y
theorem drew (h : two w b x y) : two w.drew b x y := h
theorem cells {c r s : Nat} (h : two w b x y) (k : two w c r s) : w.cell? ⟨b, 0, none⟩ = some (.float .f32 x) ∧ w.cell? ⟨b, 1, none⟩ = some (.float .f32 y) ∧ w.cell? ⟨c, 0, none⟩ = some (.float .f32 r) ∧ w.cell? ⟨c, 1, none⟩ = some (.float .f32 s) := ⟨h.c0, h.c1, k.c0, k.c1⟩
theorem lt (h : two w b x y) : b < w.heap.size := World.rowIs.lt h
end two

/-- What the blocks of a round hold. -/
def bx (w wx : World) (P u v A B C D r1 r2 r3 r4 : Nat) : Prop := two wx P u v ∧ two wx A 0 0 ∧ two wx B 0 0 ∧ two wx C r1 r2 ∧ two wx D r3 r4 ∧ Below w.heap.size w wx
set_option maxRecDepth 100000 in
set_option maxHeartbeats 8000000 in
theorem sBox_c (b n cap : Nat) (X Y : Nat → Nat) (w : World) (hbb : b < w.heap.size) (hn : n ≤ 1048576) (h : PlCells w b n X Y) :
    Calls Try.prog 44 #[.slice (some ⟨b, 0, none⟩) n cap] w (Ret (bxR X Y n) w) := by
  have HA := Lib.hid (fun (w' : World) (hB : Below w.heap.size w w') => l02Are_c b n cap X Y w' hn (fun j hj => by
    obtain ⟨r, s, h0, h1, h2⟩ := h j hj
    exact ⟨r, s, by rw [hB.cell (p := ⟨b, j * 2, none⟩) hbb]; exact h0, by rw [hB.cell (p := ⟨b, j * 2 + 1, none⟩) hbb]; exact h1, h2⟩))
  have HH := Lib.hid h
  clear h
  unfold bxR
  cases c1 : arePl n X Y
  · rw [c1] at HA
    go_enter Try.func44, Try.ntmps44
    go_wp2_with (go_at_call 86; refine (HA.out _ (by (with_reducible repeat (first | exact Below.refl _ _ | apply below_alloc | apply below_dN | apply below_d | refine below_setCell ?_ (by dsimp only; omega) | refine below_call (by assumption) ?_)))).mono ?_; rintro e w' ⟨rfl, rfl⟩)
    refine bodyPost_ret (v := .tuple #[.agg #[.float .f32 0, .float .f32 0], .agg #[.float .f32 0, .float .f32 0], .bool false]) (by simp [results, Try.results44, go_sem, *] <;> (first | rfl | exact ⟨rfl, rfl⟩ | exact ⟨rfl, rfl, rfl⟩ | exact ⟨rfl, rfl, rfl, rfl⟩)) rfl ?_
    exact ⟨⟨_, rfl, 0, 0, 0, 0, rfl, rfl, rfl, rfl, rfl⟩, by (with_reducible repeat (first | exact Below.refl _ _ | apply below_alloc | apply below_dN | apply below_d | refine below_setCell ?_ (by dsimp only; omega) | refine below_call (by assumption) ?_))⟩
  · rw [c1] at HA
    have hn1 : 1 ≤ n ∧ n ≤ 64 := by
      simp only [arePl, Bool.and_eq_true, decide_eq_true_eq] at c1
      exact c1.2
    have hn0 : 0 < n := by omega
    have hn00 : n ≠ 0 := by omega
    obtain ⟨r0, s0, h0, h1, h2, h3⟩ := HH.out 0 hn0
    rw [Nat.zero_mul] at h0
    rw [show 0 * 2 + 1 = 1 from rfl] at h1
    have q0 : b < w.heap.size + 1 := by omega
    have q1 : b < w.heap.size + 1 + 1 := by omega
    have q2 : b ≠ w.heap.size := by omega
    have q3 : b ≠ w.heap.size + 1 := by omega
    go_enter Try.func44, Try.ntmps44
    go_wp2_with (go_at_call 86; refine (HA.out _ (by (with_reducible repeat (first | exact Below.refl _ _ | apply below_alloc | apply below_dN | apply below_d | refine below_setCell ?_ (by dsimp only; omega) | refine below_call (by assumption) ?_)))).mono ?_; rintro e w' ⟨rfl, rfl⟩)
    go_loopw [7] (fun k wr => ∃ m r1 r2 r3 r4 : Nat, 1 ≤ m ∧ m ≤ n ∧ k = .int .i64 m ∧ cn .f32 r1 = mnF X m ∧ cn .f32 r2 = mnF Y m ∧ cn .f32 r3 = mxF X m ∧ cn .f32 r4 = mxF Y m ∧ two wr w.heap.size 0 0 ∧ two wr (w.heap.size + 1) 0 0 ∧ two wr (w.heap.size + 1 + 1) r1 r2 ∧ two wr (w.heap.size + 1 + 1 + 1) r3 r4 ∧ Below w.heap.size w wr) (fun k _ => n - (intOf k).toNat)
    case atStart => exact ⟨1, r0, s0, r0, s0, by omega, by omega, rfl, by rw [h2, mnF_one], by rw [h3, mnF_one], by rw [h2, mxF_one], by rw [h3, mxF_one], by (with_reducible repeat (first | assumption | apply two.drew | (refine two.newAt ?_; simp; done) | apply two.alloc | apply two.setA | apply two.setB | refine two.other ?_ (by omega) _)), by (with_reducible repeat (first | assumption | apply two.drew | (refine two.newAt ?_; simp; done) | apply two.alloc | apply two.setA | apply two.setB | refine two.other ?_ (by omega) _)), by (with_reducible repeat (first | assumption | apply two.drew | (refine two.newAt ?_; simp; done) | apply two.alloc | apply two.setA | apply two.setB | refine two.other ?_ (by omega) _)), by (with_reducible repeat (first | assumption | apply two.drew | (refine two.newAt ?_; simp; done) | apply two.alloc | apply two.setA | apply two.setB | refine two.other ?_ (by omega) _)), by (with_reducible repeat (first | exact Below.refl _ _ | apply below_alloc | apply below_dN | apply below_d | refine below_setCell ?_ (by dsimp only; omega) | refine below_call (by assumption) ?_))⟩
    case round =>
      clear h0 h1 h2 h3
      obtain ⟨m, r1, r2, r3, r4, hm1, hm, rfl, e1, e2, e3, e4, tA, tB, tC, tD, hB⟩ := hrel
      by_cases hlt : m < n
      · obtain ⟨u, v, h0, h1, h2, h3⟩ := HH.out m hlt
        rw [← hB.cell (p := ⟨b, m * 2, none⟩) hbb] at h0
        rw [← hB.cell (p := ⟨b, m * 2 + 1, none⟩) hbb] at h1
        have d2 := tD.lt
        have c2 := tC.lt
        have hBs : w.heap.size ≤ wr.heap.size := hB.size
        have n1 : w.heap.size + 1 + 1 ≠ wr.heap.size := by omega
        have n2 : w.heap.size + 1 + 1 + 1 ≠ wr.heap.size := by omega
        have n3 : wr.heap.size ≠ w.heap.size + 1 + 1 := by omega
        have n4 : wr.heap.size ≠ w.heap.size + 1 + 1 + 1 := by omega
        have f1 : mnF X (m + 1) = if flt .f32 (X m) (mnF X m) then X m else mnF X m := rfl
        have f2 : mnF Y (m + 1) = if flt .f32 (Y m) (mnF Y m) then Y m else mnF Y m := rfl
        have f3 : mxF X (m + 1) = if fgt .f32 (X m) (mxF X m) then X m else mxF X m := rfl
        have f4 : mxF Y (m + 1) = if fgt .f32 (Y m) (mxF Y m) then Y m else mxF Y m := rfl
        have F1 := Lib.hid f1
        have F2 := Lib.hid f2
        have F3 := Lib.hid f3
        have F4 := Lib.hid f4
        clear f1 f2 f3 f4
        have c0 := tC.c0
        have z0 := tC.fr 0
        go_upto_if 34 with fail
        go_cut [] (fun wx => ∃ q, cn .f32 q = mnF X (m + 1) ∧ bx w wx wr.heap.size u v w.heap.size (w.heap.size + 1) (w.heap.size + 1 + 1) (w.heap.size + 1 + 1 + 1) q r2 r3 r4)
        case first =>
          have HB := Lib.hid hB
          clear hB
          cases g1 : flt .f32 (X m) (mnF X m)
          · rw [g1] at F1
            go_wp2
            go_meet
            case rel => exact ⟨r1, by rw [F1.out]; exact e1, by (exact ⟨by (with_reducible repeat (first | assumption | apply two.drew | (refine two.newAt ?_; simp; done) | apply two.alloc | apply two.setA | apply two.setB | refine two.other ?_ (by omega) _)), by (with_reducible repeat (first | assumption | apply two.drew | (refine two.newAt ?_; simp; done) | apply two.alloc | apply two.setA | apply two.setB | refine two.other ?_ (by omega) _)), by (with_reducible repeat (first | assumption | apply two.drew | (refine two.newAt ?_; simp; done) | apply two.alloc | apply two.setA | apply two.setB | refine two.other ?_ (by omega) _)), by (with_reducible repeat (first | assumption | apply two.drew | (refine two.newAt ?_; simp; done) | apply two.alloc | apply two.setA | apply two.setB | refine two.other ?_ (by omega) _)), by (with_reducible repeat (first | assumption | apply two.drew | (refine two.newAt ?_; simp; done) | apply two.alloc | apply two.setA | apply two.setB | refine two.other ?_ (by omega) _)), by have := HB.out; (with_reducible repeat (first | exact Below.refl _ _ | apply below_alloc | apply below_dN | apply below_d | refine below_setCell ?_ (by dsimp only; omega) | refine below_call (by assumption) ?_))⟩)⟩
          · rw [g1] at F1
            go_wp2
            go_meet
            case rel => exact ⟨u, by rw [F1.out]; exact h2, by (exact ⟨by (with_reducible repeat (first | assumption | apply two.drew | (refine two.newAt ?_; simp; done) | apply two.alloc | apply two.setA | apply two.setB | refine two.other ?_ (by omega) _)), by (with_reducible repeat (first | assumption | apply two.drew | (refine two.newAt ?_; simp; done) | apply two.alloc | apply two.setA | apply two.setB | refine two.other ?_ (by omega) _)), by (with_reducible repeat (first | assumption | apply two.drew | (refine two.newAt ?_; simp; done) | apply two.alloc | apply two.setA | apply two.setB | refine two.other ?_ (by omega) _)), by (with_reducible repeat (first | assumption | apply two.drew | (refine two.newAt ?_; simp; done) | apply two.alloc | apply two.setA | apply two.setB | refine two.other ?_ (by omega) _)), by (with_reducible repeat (first | assumption | apply two.drew | (refine two.newAt ?_; simp; done) | apply two.alloc | apply two.setA | apply two.setB | refine two.other ?_ (by omega) _)), by have := HB.out; (with_reducible repeat (first | exact Below.refl _ _ | apply below_alloc | apply below_dN | apply below_d | refine below_setCell ?_ (by dsimp only; omega) | refine below_call (by assumption) ?_))⟩)⟩
        case rest =>
        obtain ⟨q1, hq1, hbx⟩ := hcut
        clear tA tB tC tD hB c0 c2 d2 z0
        (obtain ⟨tP, tA, tB, tC, tD, hB⟩ := hbx; have c0 := tC.c0; have c1' := tC.c1; have d0 := tD.c0; have d1 := tD.c1; have p0 := tP.c0; have p1 := tP.c1; have z0 := tC.fr 0; have z1 := tC.fr 1; have z2 := tD.fr 0; have z3 := tD.fr 1; have HB := Lib.hid hB; clear hB)
        have d2 := tD.lt
        have c2 := tC.lt
        have p2 := tP.lt
        go_upto_if 42 with fail
        go_cut [] (fun wx => ∃ q, cn .f32 q = mnF Y (m + 1) ∧ bx w wx wr.heap.size u v w.heap.size (w.heap.size + 1) (w.heap.size + 1 + 1) (w.heap.size + 1 + 1 + 1) q1 q r3 r4)
        case first =>
          cases g1 : flt .f32 (Y m) (mnF Y m)
          · rw [g1] at F2
            go_wp2
            go_meet
            case rel => exact ⟨r2, by rw [F2.out]; exact e2, by (exact ⟨by (with_reducible repeat (first | assumption | apply two.drew | (refine two.newAt ?_; simp; done) | apply two.alloc | apply two.setA | apply two.setB | refine two.other ?_ (by omega) _)), by (with_reducible repeat (first | assumption | apply two.drew | (refine two.newAt ?_; simp; done) | apply two.alloc | apply two.setA | apply two.setB | refine two.other ?_ (by omega) _)), by (with_reducible repeat (first | assumption | apply two.drew | (refine two.newAt ?_; simp; done) | apply two.alloc | apply two.setA | apply two.setB | refine two.other ?_ (by omega) _)), by (with_reducible repeat (first | assumption | apply two.drew | (refine two.newAt ?_; simp; done) | apply two.alloc | apply two.setA | apply two.setB | refine two.other ?_ (by omega) _)), by (with_reducible repeat (first | assumption | apply two.drew | (refine two.newAt ?_; simp; done) | apply two.alloc | apply two.setA | apply two.setB | refine two.other ?_ (by omega) _)), by have := HB.out; (with_reducible repeat (first | exact Below.refl _ _ | apply below_alloc | apply below_dN | apply below_d | refine below_setCell ?_ (by dsimp only; omega) | refine below_call (by assumption) ?_))⟩)⟩
          · rw [g1] at F2
            go_wp2
            go_meet
            case rel => exact ⟨v, by rw [F2.out]; exact h3, by (exact ⟨by (with_reducible repeat (first | assumption | apply two.drew | (refine two.newAt ?_; simp; done) | apply two.alloc | apply two.setA | apply two.setB | refine two.other ?_ (by omega) _)), by (with_reducible repeat (first | assumption | apply two.drew | (refine two.newAt ?_; simp; done) | apply two.alloc | apply two.setA | apply two.setB | refine two.other ?_ (by omega) _)), by (with_reducible repeat (first | assumption | apply two.drew | (refine two.newAt ?_; simp; done) | apply two.alloc | apply two.setA | apply two.setB | refine two.other ?_ (by omega) _)), by (with_reducible repeat (first | assumption | apply two.drew | (refine two.newAt ?_; simp; done) | apply two.alloc | apply two.setA | apply two.setB | refine two.other ?_ (by omega) _)), by (with_reducible repeat (first | assumption | apply two.drew | (refine two.newAt ?_; simp; done) | apply two.alloc | apply two.setA | apply two.setB | refine two.other ?_ (by omega) _)), by have := HB.out; (with_reducible repeat (first | exact Below.refl _ _ | apply below_alloc | apply below_dN | apply below_d | refine below_setCell ?_ (by dsimp only; omega) | refine below_call (by assumption) ?_))⟩)⟩
        case rest =>
        obtain ⟨q2, hq2, hbx⟩ := hcut
        clear tP tA tB tC tD HB c0 c1' d0 d1 p0 p1 z0 z1 z2 z3 c2 d2 p2
        (obtain ⟨tP, tA, tB, tC, tD, hB⟩ := hbx; have c0 := tC.c0; have c1' := tC.c1; have d0 := tD.c0; have d1 := tD.c1; have p0 := tP.c0; have p1 := tP.c1; have z0 := tC.fr 0; have z1 := tC.fr 1; have z2 := tD.fr 0; have z3 := tD.fr 1; have HB := Lib.hid hB; clear hB)
        have d2 := tD.lt
        have c2 := tC.lt
        have p2 := tP.lt
        go_upto_if 50 with fail
        go_cut [] (fun wx => ∃ q, cn .f32 q = mxF X (m + 1) ∧ bx w wx wr.heap.size u v w.heap.size (w.heap.size + 1) (w.heap.size + 1 + 1) (w.heap.size + 1 + 1 + 1) q1 q2 q r4)
        case first =>
          cases g1 : fgt .f32 (X m) (mxF X m)
          · rw [g1] at F3
            go_wp2
            go_meet
            case rel => exact ⟨r3, by rw [F3.out]; exact e3, by (exact ⟨by (with_reducible repeat (first | assumption | apply two.drew | (refine two.newAt ?_; simp; done) | apply two.alloc | apply two.setA | apply two.setB | refine two.other ?_ (by omega) _)), by (with_reducible repeat (first | assumption | apply two.drew | (refine two.newAt ?_; simp; done) | apply two.alloc | apply two.setA | apply two.setB | refine two.other ?_ (by omega) _)), by (with_reducible repeat (first | assumption | apply two.drew | (refine two.newAt ?_; simp; done) | apply two.alloc | apply two.setA | apply two.setB | refine two.other ?_ (by omega) _)), by (with_reducible repeat (first | assumption | apply two.drew | (refine two.newAt ?_; simp; done) | apply two.alloc | apply two.setA | apply two.setB | refine two.other ?_ (by omega) _)), by (with_reducible repeat (first | assumption | apply two.drew | (refine two.newAt ?_; simp; done) | apply two.alloc | apply two.setA | apply two.setB | refine two.other ?_ (by omega) _)), by have := HB.out; (with_reducible repeat (first | exact Below.refl _ _ | apply below_alloc | apply below_dN | apply below_d | refine below_setCell ?_ (by dsimp only; omega) | refine below_call (by assumption) ?_))⟩)⟩
          · rw [g1] at F3
            go_wp2
            go_meet
            case rel => exact ⟨u, by rw [F3.out]; exact h2, by (exact ⟨by (with_reducible repeat (first | assumption | apply two.drew | (refine two.newAt ?_; simp; done) | apply two.alloc | apply two.setA | apply two.setB | refine two.other ?_ (by omega) _)), by (with_reducible repeat (first | assumption | apply two.drew | (refine two.newAt ?_; simp; done) | apply two.alloc | apply two.setA | apply two.setB | refine two.other ?_ (by omega) _)), by (with_reducible repeat (first | assumption | apply two.drew | (refine two.newAt ?_; simp; done) | apply two.alloc | apply two.setA | apply two.setB | refine two.other ?_ (by omega) _)), by (with_reducible repeat (first | assumption | apply two.drew | (refine two.newAt ?_; simp; done) | apply two.alloc | apply two.setA | apply two.setB | refine two.other ?_ (by omega) _)), by (with_reducible repeat (first | assumption | apply two.drew | (refine two.newAt ?_; simp; done) | apply two.alloc | apply two.setA | apply two.setB | refine two.other ?_ (by omega) _)), by have := HB.out; (with_reducible repeat (first | exact Below.refl _ _ | apply below_alloc | apply below_dN | apply below_d | refine below_setCell ?_ (by dsimp only; omega) | refine below_call (by assumption) ?_))⟩)⟩
        case rest =>
        obtain ⟨q3, hq3, hbx⟩ := hcut
        clear tP tA tB tC tD HB c0 c1' d0 d1 p0 p1 z0 z1 z2 z3 c2 d2 p2
        (obtain ⟨tP, tA, tB, tC, tD, hB⟩ := hbx; have c0 := tC.c0; have c1' := tC.c1; have d0 := tD.c0; have d1 := tD.c1; have p0 := tP.c0; have p1 := tP.c1; have z0 := tC.fr 0; have z1 := tC.fr 1; have z2 := tD.fr 0; have z3 := tD.fr 1; have HB := Lib.hid hB; clear hB)
        have d2 := tD.lt
        have c2 := tC.lt
        have p2 := tP.lt
        cases g1 : fgt .f32 (Y m) (mxF Y m)
        · rw [g1] at F4
          go_wp2
          go_roundw
          case rel => exact ⟨m + 1, q1, q2, q3, r4, by omega, by omega, by go_num, hq1, hq2, hq3, by rw [F4.out]; exact e4, by (with_reducible repeat (first | assumption | apply two.drew | (refine two.newAt ?_; simp; done) | apply two.alloc | apply two.setA | apply two.setB | refine two.other ?_ (by omega) _)), by (with_reducible repeat (first | assumption | apply two.drew | (refine two.newAt ?_; simp; done) | apply two.alloc | apply two.setA | apply two.setB | refine two.other ?_ (by omega) _)), by (with_reducible repeat (first | assumption | apply two.drew | (refine two.newAt ?_; simp; done) | apply two.alloc | apply two.setA | apply two.setB | refine two.other ?_ (by omega) _)), by (with_reducible repeat (first | assumption | apply two.drew | (refine two.newAt ?_; simp; done) | apply two.alloc | apply two.setA | apply two.setB | refine two.other ?_ (by omega) _)), by have := HB.out; (with_reducible repeat (first | exact Below.refl _ _ | apply below_alloc | apply below_dN | apply below_d | refine below_setCell ?_ (by dsimp only; omega) | refine below_call (by assumption) ?_))⟩
          case measure => first | (simp [intOf]; done) | (simp [intOf]; omega)
        · rw [g1] at F4
          go_wp2
          go_roundw
          case rel => exact ⟨m + 1, q1, q2, q3, v, by omega, by omega, by go_num, hq1, hq2, hq3, by rw [F4.out]; exact h3, by (with_reducible repeat (first | assumption | apply two.drew | (refine two.newAt ?_; simp; done) | apply two.alloc | apply two.setA | apply two.setB | refine two.other ?_ (by omega) _)), by (with_reducible repeat (first | assumption | apply two.drew | (refine two.newAt ?_; simp; done) | apply two.alloc | apply two.setA | apply two.setB | refine two.other ?_ (by omega) _)), by (with_reducible repeat (first | assumption | apply two.drew | (refine two.newAt ?_; simp; done) | apply two.alloc | apply two.setA | apply two.setB | refine two.other ?_ (by omega) _)), by (with_reducible repeat (first | assumption | apply two.drew | (refine two.newAt ?_; simp; done) | apply two.alloc | apply two.setA | apply two.setB | refine two.other ?_ (by omega) _)), by have := HB.out; (with_reducible repeat (first | exact Below.refl _ _ | apply below_alloc | apply below_dN | apply below_d | refine below_setCell ?_ (by dsimp only; omega) | refine below_call (by assumption) ?_))⟩
          case measure => first | (simp [intOf]; done) | (simp [intOf]; omega)
      · obtain rfl : m = n := by omega
        have c0 := tC.c0
        have c1' := tC.c1
        have d0 := tD.c0
        have d1 := tD.c1
        have z0 := tA.fr 0
        have z1 := tB.fr 0
        have x0 := tA.c0
        have x1 := tA.c1
        have x2 := tB.c0
        have x3 := tB.c1
        have HB := Lib.hid hB
        clear hB
        have a2 := tA.lt
        have b2 := tB.lt
        have c2 := tC.lt
        have d2 := tD.lt
        have z2 := tA.fr 1
        have z3 := tB.fr 1
        go_wp2
        go_region_held3 (fun w' => w'.cell? ⟨w.heap.size + 1 + 1, 0, none⟩ = some (.float .f32 r1) ∧ w'.cell? ⟨w.heap.size + 1 + 1, 1, none⟩ = some (.float .f32 r2) ∧ w'.cell? ⟨w.heap.size + 1 + 1 + 1, 0, none⟩ = some (.float .f32 r3) ∧ w'.cell? ⟨w.heap.size + 1 + 1 + 1, 1, none⟩ = some (.float .f32 r4)) (refine two.cells ?_ ?_ <;> (with_reducible repeat (first | assumption | apply two.drew | (refine two.newAt ?_; simp; done) | apply two.alloc | apply two.setA | apply two.setB | refine two.other ?_ (by omega) _))) (fail)
        go_wp2
        refine bodyPost_ret (v := .tuple #[.agg #[.float .f32 r1, .float .f32 r2], .agg #[.float .f32 r3, .float .f32 r4], .bool true]) (by simp [results, Try.results44, go_sem, *] <;> (first | rfl | exact ⟨rfl, rfl⟩ | exact ⟨rfl, rfl, rfl⟩ | exact ⟨rfl, rfl, rfl, rfl⟩)) rfl ?_
        exact ⟨⟨_, rfl, r1, r2, r3, r4, rfl, e1, e2, e3, e4⟩, by have := HB.out; (with_reducible repeat (first | exact Below.refl _ _ | apply below_alloc | apply below_dN | apply below_d | refine below_setCell ?_ (by dsimp only; omega) | refine below_call (by assumption) ?_))⟩
theorem keepB {w w' : World} {b r s : Nat} (hb : b < w.heap.size) (h0 : w.cell? ⟨b, 0, none⟩ = some (.float .f32 r)) (h1 : w.cell? ⟨b, 1, none⟩ = some (.float .f32 s)) (hB : Below w.heap.size w w') : w'.cell? ⟨b, 0, none⟩ = some (.float .f32 r) ∧ w'.cell? ⟨b, 1, none⟩ = some (.float .f32 s) ∧ Below w.heap.size w w' :=
  ⟨(hB.cell (p := ⟨b, 0, none⟩) hb).trans h0, (hB.cell (p := ⟨b, 1, none⟩) hb).trans h1, hB⟩
end Go.Proofs.Ytiaebemlcjjjhaa
