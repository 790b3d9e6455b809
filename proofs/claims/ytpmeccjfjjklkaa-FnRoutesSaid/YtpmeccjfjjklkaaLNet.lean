/- The law of ValidNet. No condition. -/
import Derived.Test.YtpmeccjfjjklkaaNetL
import Derived.Deep.RegionHeld3
namespace Go.Proofs.Ytpmeccjfjjklkaa
open Go.RowKit
set_option linter.unusedSimpArgs false
/-- What a law holds on to: two cells, and nothing turned below. -/
def KeepP (w0 : World) (b : Nat) (p q : Value) (w' : World) : Prop := w'.cell? ⟨b, 0, none⟩ = some p ∧ w'.cell? ⟨b, 1, none⟩ = some q ∧ b < w'.heap.size ∧ Below w0.heap.size w0 w'
theorem KeepP.call {w0 w1 w2 : World} {b : Nat} {p q : Value} (h : KeepP w0 b p q w1) (hb : Below w1.heap.size w1 w2) : KeepP w0 b p q w2 :=
  ⟨(hb.cell (p := ⟨b, 0, none⟩) h.2.2.1).trans h.1, (hb.cell (p := ⟨b, 1, none⟩) h.2.2.1).trans h.2.1, Nat.lt_of_lt_of_le h.2.2.1 hb.size, h.2.2.2.trans (hb.mono h.2.2.2.size)⟩
theorem PlBlk.in {w : World} {g n : Nat} {x y : Nat → Nat} (h : PlBlk w g n x y) : g < w.heap.size := World.rowIs.lt h
theorem PlBlk.al {w : World} {g n : Nat} {x y : Nat → Nat} (h : PlBlk w g n x y) (o : Obj) : PlBlk (w.alloc o) g n x y := World.rowIs.alloc h o
theorem PlBlk.dn {w w' : World} {g n : Nat} {x y : Nat → Nat} (h : PlBlk w g n x y) (hb : Below w.heap.size w w') : PlBlk w' g n x y := h.below hb (World.rowIs.lt h)
theorem RdBlk.dn {w w' : World} {g n : Nat} {a b l : Nat → Int} (h : RdBlk w g n a b l) (hb : Below w.heap.size w w') : RdBlk w' g n a b l := h.below hb h.lt
/-- What a law holds on to: two pairs of cells, and nothing turned below. -/
def KN (v : World) (p r : Nat) (u1 u2 u3 u4 : Value) (w : World) : Prop := w.cell? ⟨p, 0, none⟩ = some u1 ∧ w.cell? ⟨p, 1, none⟩ = some u2 ∧ w.cell? ⟨r, 0, none⟩ = some u3 ∧ w.cell? ⟨r, 1, none⟩ = some u4 ∧ (p < w.heap.size ∧ r < w.heap.size) ∧ Below v.heap.size v w
theorem KN.call {v w w' : World} {p r : Nat} {u1 u2 u3 u4 : Value} (h : KN v p r u1 u2 u3 u4 w) (hb : Below w.heap.size w w') : KN v p r u1 u2 u3 u4 w' :=
  ⟨(hb.cell (p := ⟨p, 0, none⟩) h.2.2.2.2.1.1).trans h.1, (hb.cell (p := ⟨p, 1, none⟩) h.2.2.2.2.1.1).trans h.2.1, (hb.cell (p := ⟨r, 0, none⟩) h.2.2.2.2.1.2).trans h.2.2.1, (hb.cell (p := ⟨r, 1, none⟩) h.2.2.2.2.1.2).trans h.2.2.2.1, ⟨Nat.lt_of_lt_of_le h.2.2.2.2.1.1 hb.size, Nat.lt_of_lt_of_le h.2.2.2.2.1.2 hb.size⟩, h.2.2.2.2.2.trans (hb.mono h.2.2.2.2.2.size)⟩
theorem KN.bel {v w : World} {p r : Nat} {u1 u2 u3 u4 : Value} (h : KN v p r u1 u2 u3 u4 w) : Below v.heap.size v w := h.2.2.2.2.2
theorem and6 {P Q R S T U : Prop} (h : P ∧ Q ∧ R ∧ S ∧ T ∧ U) : U := h.2.2.2.2.2
set_option maxRecDepth 100000 in
set_option maxHeartbeats 4000000 in
theorem lawValidNet (A R : Option Addr) (n m cap cap' : Nat) (x y : Nat → Nat) (a b l : Nat → Int) (w : World) (hn0 : n ≤ 9223372036854775807) (hm0 : m ≤ 9223372036854775807) (hA : PlArg w A n x y) (hR : RdArg w R m a b l) :
    Calls Try.prog 3 #[.agg #[.slice A n cap, .slice R m cap']] w fun e w' => e = .returned (.bool true) ∧ Below w.heap.size w w' := by
  have hz := szNet_c A R n m cap cap' hn0 hm0
  by_cases hnm : n + m ≤ 1048576
  · rw [if_pos hnm] at hz
    have HZ := Lib.hid hz
    have hl : ¬ (1048576 - (n : Int) - (m : Int) < 0) := by omega
    have HT := Lib.hid (fun (w' : World) (hB : Below w.heap.size w w') => toNet_c A R n m cap cap' x y a b l w' (by omega) (by omega) (hA.below hB) (hR.below hB))
    have HS := Lib.hid (fun g h w' hg hP hR => sValidNet_c g h n m n m (canon x) (canon y) a b l w' hg (by omega) (by omega) hP hR)
    have HI := Lib.hid (fun g h w' hg hP hR => iValidNet_c g h n m n m (canon x) (canon y) a b l w' hg (by omega) (by omega) hP hR)
    have HE := Lib.hid (fun g h g' h' w' hg hg' hP hP' hR hR' => eqNet_c g h g' h' n m n m n m (canon x) (canon y) a b l w' (by omega) (by omega) hg hg' hP hP' hR hR')
    generalize netOk n m (canon x) (canon y) a b l = q at HS HI
    clear hz hA hR
    go_enter Try.func3, Try.ntmps3
    go_upto_region 5 with (go_at_call 10; (with_reducible refine (HZ.out _).mono ?_); rintro e w1 ⟨rfl, hb1⟩)
    have K1 : KeepP w w.heap.size (.slice A n cap) (.slice R m cap') w1 := KeepP.call ⟨by simp, by simp, by simp, by (with_reducible repeat (first | exact Below.refl _ _ | apply below_alloc | apply below_dN | apply below_d | refine below_setCell ?_ (by dsimp only; omega) | refine below_call (by assumption) ?_))⟩ hb1
    have k0 := K1.1
    have k1 := K1.2.1
    have kB := K1.2.2.2
    go_wp2_with fail
    (go_at_call 12; (with_reducible refine (HT.out _ (by assumption)).mono ?_); rintro e w2 ⟨g2, h2, rfl, hg_w2, hh_w2, hP_w2, hR_w2, hb_w2⟩)
    go_wp2_with fail
    (go_at_call 11; (with_reducible refine (HS.out g2 h2 _ hP_w2.in hP_w2.canon hR_w2).mono ?_); rintro e w3 ⟨⟨_, rfl, rfl⟩, hb3⟩)
    have K3 := (K1.call hb_w2).call hb3
    clear k0 k1 kB
    have k0 := K3.1
    have k1 := K3.2.1
    have kB := K3.2.2.2
    go_wp2_with fail
    (go_at_call 12; (with_reducible refine (HT.out _ (by assumption)).mono ?_); rintro e w4 ⟨g4, h4, rfl, hg_w4, hh_w4, hP_w4, hR_w4, hb_w4⟩)
    have K4 := K3.call hb_w4
    have K4' := K4.call (Below.refl _ _ |>.alloc (Nat.le_refl _) (.cells #[.slice (some ⟨g4, 0, none⟩) n n, .slice (some ⟨h4, 0, none⟩) m m] 31))
    have tX := ntc.newAt (w := w4) (u := .slice (some ⟨g4, 0, none⟩) n n) (v := .slice (some ⟨h4, 0, none⟩) m m) (p := w4.heap.size) rfl
    have hPa := hP_w4.al (.cells #[.slice (some ⟨g4, 0, none⟩) n n, .slice (some ⟨h4, 0, none⟩) m m] 31)
    have hRa := hR_w4.al (.cells #[.slice (some ⟨g4, 0, none⟩) n n, .slice (some ⟨h4, 0, none⟩) m m] 31)
    go_wp2_with fail
    (go_at_call 13; (with_reducible refine (HI.out g4 h4 _ (PlBlk.in hPa) (PlBlk.canon hPa) hRa).mono ?_); rintro e w5 ⟨⟨_, rfl, rfl⟩, hb5⟩)
    have K5 := K4'.call hb5
    have tX5 := tX.below hb5
    have hP5 := PlBlk.dn hPa hb5
    have hR5 := RdBlk.dn hRa hb5
    have xlt := tX5.lt
    clear k0 k1 kB
    have k0 := K5.1
    have k1 := K5.2.1
    have k2 := K5.2.2.1
    have kB := K5.2.2.2
    have j0 := tX5.c0
    have j1 := tX5.c1
    go_wp2
    go_region_held3 (fun w' => w'.cell? ⟨w.heap.size, 0, none⟩ = some (.slice A n cap) ∧ w'.cell? ⟨w.heap.size, 1, none⟩ = some (.slice R m cap') ∧ w'.cell? ⟨w4.heap.size, 0, none⟩ = some (.slice (some ⟨g4, 0, none⟩) n n) ∧ w'.cell? ⟨w4.heap.size, 1, none⟩ = some (.slice (some ⟨h4, 0, none⟩) m m) ∧ (w.heap.size < w'.heap.size ∧ w4.heap.size < w'.heap.size) ∧ Below w5.heap.size w5 w') (first | (exact KN.call (by assumption) (by assumption)) | (exact ⟨by simp [*], by simp [*], by simp [*], by simp [*], by simp [*], by (with_reducible repeat (first | exact Below.refl _ _ | apply below_alloc | apply below_dN | apply below_d | refine below_setCell ?_ (by dsimp only; omega) | refine below_call (by assumption) ?_))⟩))
      (first | (go_at_call 12; refine (HT.out _ (kB.trans (Below.mono (and6 (by assumption)) kB.size))).mono ?_; rintro e w6 ⟨g6, h6, rfl, hg6, hh6, hP6, hR6, hb6⟩) | (go_at_call 14; have B6 : Below w5.heap.size w5 w6 := and6 (by assumption); have hP56 := hP5.dn B6; have hR56 := hR5.dn B6; refine (HE.out g4 h4 g6 h6 _ hP56.in hP6.in hP56.canon hP6.canon hR56 hR6).mono ?_; rintro e w7 ⟨⟨_, rfl, rfl⟩, hb7⟩))
    have B7 : Below w5.heap.size w5 w7 := and6 (by assumption)
    go_wp2
    go_ret
    exact ⟨rfl, kB.trans (B7.mono kB.size)⟩
  · rw [if_neg hnm] at hz
    have HZ := Lib.hid hz
    clear hz hA hR
    go_enter Try.func3, Try.ntmps3
    go_wp2_with (go_at_call 10; (with_reducible refine (HZ.out _).mono ?_); rintro e w1 ⟨rfl, hb1⟩)
    go_ret
    exact ⟨rfl, by (with_reducible repeat (first | exact Below.refl _ _ | apply below_alloc | apply below_dN | apply below_d | refine below_setCell ?_ (by dsimp only; omega) | refine below_call (by assumption) ?_))⟩
end Go.Proofs.Ytpmeccjfjjklkaa
