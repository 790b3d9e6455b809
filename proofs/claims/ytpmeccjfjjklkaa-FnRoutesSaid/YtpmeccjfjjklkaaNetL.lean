/- Contracts of a net's size, copy and comparison. No condition. -/
import Derived.Test.YtpmeccjfjjklkaaNetI
namespace Go.Proofs.Ytpmeccjfjjklkaa
open Go.RowKit
set_option linter.unusedSimpArgs false
set_option maxHeartbeats 1000000 in
theorem szNet_c (A R : Option Addr) (n m cap cap' : Nat) (hn0 : n ≤ 9223372036854775807) (hm0 : m ≤ 9223372036854775807) (w : World) :
    Calls Try.prog 10 #[.agg #[.slice A n cap, .slice R m cap'], .int .i64 1048576] w fun e w' => e = .returned (.int .i64 (if n + m ≤ 1048576 then 1048576 - (n : Int) - (m : Int) else -1)) ∧ Below w.heap.size w w' := by
  by_cases hn : n ≤ 1048576
  · have h1 := szPlaceS_c A n cap 1048576 (by decide) (by decide) hn0
    rw [if_neg (by omega)] at h1
    have H1 := Lib.hid h1
    have hl1 : ¬ (1048576 - (n : Int) < 0) := by omega
    by_cases hm : n + m ≤ 1048576
    · rw [if_pos hm]
      have h2 := szRoadS_c R m cap' (1048576 - (n : Int)) (by omega) (by omega) hm0
      rw [if_neg (by omega)] at h2
      have H2 := Lib.hid h2
      have hl2 : ¬ (1048576 - (n : Int) - (m : Int) < 0) := by omega
      clear h1 h2
      go_enter Try.func10, Try.ntmps10
      go_wp2_with (first | (go_at_call 15; (with_reducible refine (H1.out _).mono ?_); rintro e w' ⟨rfl, rfl⟩) | (go_at_call 16; (with_reducible refine (H2.out _).mono ?_); rintro e w' ⟨rfl, rfl⟩))
      go_ret
      exact ⟨rfl, by (with_reducible repeat (first | exact Below.refl _ _ | apply below_alloc | apply below_dN | apply below_d | refine below_setCell ?_ (by dsimp only; omega) | refine below_call (by assumption) ?_))⟩
    · rw [if_neg hm]
      have h2 := szRoadS_c R m cap' (1048576 - (n : Int)) (by omega) (by omega) hm0
      rw [if_pos (by omega)] at h2
      have H2 := Lib.hid h2
      clear h1 h2
      go_enter Try.func10, Try.ntmps10
      go_wp2_with (first | (go_at_call 15; (with_reducible refine (H1.out _).mono ?_); rintro e w' ⟨rfl, rfl⟩) | (go_at_call 16; (with_reducible refine (H2.out _).mono ?_); rintro e w' ⟨rfl, rfl⟩))
      go_ret
      exact ⟨rfl, by (with_reducible repeat (first | exact Below.refl _ _ | apply below_alloc | apply below_dN | apply below_d | refine below_setCell ?_ (by dsimp only; omega) | refine below_call (by assumption) ?_))⟩
  · rw [if_neg (by omega)]
    have h1 := szPlaceS_c A n cap 1048576 (by decide) (by decide) hn0
    rw [if_pos (by omega)] at h1
    have H1 := Lib.hid h1
    clear h1
    go_enter Try.func10, Try.ntmps10
    go_wp2_with (first | (go_at_call 15; (with_reducible refine (H1.out _).mono ?_); rintro e w' ⟨rfl, rfl⟩))
    go_ret
    exact ⟨rfl, by (with_reducible repeat (first | exact Below.refl _ _ | apply below_alloc | apply below_dN | apply below_d | refine below_setCell ?_ (by dsimp only; omega) | refine below_call (by assumption) ?_))⟩
/-- Two slices in a block: a net's cells. -/
def ntc (w : World) (p : Nat) (u v : Value) : Prop := w.rowIs p 31 2 (fun i => if i = 0 then u else v)
namespace ntc
variable {w : World} {p : Nat} {u v : Value}
theorem c0 (h : ntc w p u v) : w.cell? ⟨p, 0, none⟩ = some u := World.rowIs.cell h (i := 0) (by omega)
theorem c1 (h : ntc w p u v) : w.cell? ⟨p, 1, none⟩ = some v := World.rowIs.cell h (i := 1) (by omega)
theorem fr (h : ntc w p u v) (i : Nat) : w.frozen? ⟨p, i, none⟩ = false := World.rowIs.frozen h i
theorem setA (h : ntc w p u v) (z : Value) : ntc (w.setCell ⟨p, 0, none⟩ z) p z v := (World.rowIs.set h 0 _).congr (fun i hi => by
  by_cases e : i = 0
  · simp [e]
  · simp [e])
theorem setB (h : ntc w p u v) (z : Value) : ntc (w.setCell ⟨p, 1, none⟩ z) p u z := (World.rowIs.set h 1 _).congr (fun i hi => by
  by_cases e : i = 1
  · simp [e]
  · have : i = 0 := by omega
    simp [this])
theorem lt (h : ntc w p u v) : p < w.heap.size := World.rowIs.lt h
theorem below {w' : World} (h : ntc w p u v) (hb : Below w.heap.size w w') : ntc w' p u v := World.rowIs.of_block h (hb.block p h.lt)
theorem other (h : ntc w p u v) {c i : Nat} (hne : p ≠ c) (z : Value) : ntc (w.setCell ⟨c, i, none⟩ z) p u v := World.rowIs.setOther h (a := ⟨c, i, none⟩) hne z
theorem alloc (h : ntc w p u v) (o : Obj) : ntc (w.alloc o) p u v := World.rowIs.alloc h o
theorem newAt (hb : p = w.heap.size) : ntc (w.alloc (.cells #[u, v] 31)) p u v := by
  subst hb
  exact World.rowIs_alloc w _ _ (fun i => if i = 0 then u else v) (fun i hi => by
    match i, hi with
    | 0, _ => rfl
    | 1, _ => rfl)
end ntc
theorem PlBlk.other {w : World} {g n : Nat} {x y : Nat → Nat} (h : PlBlk w g n x y) {c i : Nat} (hne : g ≠ c) (z : Value) : PlBlk (w.setCell ⟨c, i, none⟩ z) g n x y := World.rowIs.setOther h (a := ⟨c, i, none⟩) hne z
set_option maxRecDepth 100000 in
set_option maxHeartbeats 2000000 in
theorem toNet_c (A R : Option Addr) (n m cap cap' : Nat) (x y : Nat → Nat) (a b l : Nat → Int) (w : World) (hn : n ≤ 1048576) (hm : m ≤ 1048576) (hA : PlArg w A n x y) (hR : RdArg w R m a b l) :
    Calls Try.prog 12 #[.agg #[.slice A n cap, .slice R m cap']] w fun e w' => ∃ g h, e = .returned (.agg #[.slice (some ⟨g, 0, none⟩) n n, .slice (some ⟨h, 0, none⟩) m m]) ∧ w.heap.size ≤ g ∧ w.heap.size ≤ h ∧ PlBlk w' g n x y ∧ RdBlk w' h m a b l ∧ Below w.heap.size w w' := by
  have HA := Lib.hid (fun (w' : World) (hB : Below w.heap.size w w') => toPlaceS_c A n cap x y w' hn (hA.below hB))
  have HR := Lib.hid (fun (w' : World) (hB : Below w.heap.size w w') => toRoadS_c R m cap' a b l w' hm (hR.below hB))
  clear hA hR
  go_enter Try.func12, Try.ntmps12
  go_upto_region 2 with fail
  have hs1 : (((w.alloc (.cells #[.slice A n cap, .slice R m cap'] 25)).alloc (.cells #[.slice none 0 0, .slice none 0 0] 31)).alloc (.cells #[.slice none 0 0, .slice none 0 0] 31)).heap.size = w.heap.size + 1 + 1 + 1 := by simp
  have tO : ntc (((w.alloc (.cells #[.slice A n cap, .slice R m cap'] 25)).alloc (.cells #[.slice none 0 0, .slice none 0 0] 31)).alloc (.cells #[.slice none 0 0, .slice none 0 0] 31)) (w.heap.size + 1 + 1) (.slice none 0 0) (.slice none 0 0) := ntc.newAt (by simp)
  have tQ : ntc (((w.alloc (.cells #[.slice A n cap, .slice R m cap'] 25)).alloc (.cells #[.slice none 0 0, .slice none 0 0] 31)).alloc (.cells #[.slice none 0 0, .slice none 0 0] 31)) (w.heap.size + 1) (.slice none 0 0) (.slice none 0 0) := (ntc.newAt (by simp)).alloc _
  have tN0 := World.rowIs_alloc w #[.slice A n cap, .slice R m cap'] 25 (fun i => if i = 0 then .slice A n cap else .slice R m cap') (fun i hi => by
    match i, hi with
    | 0, _ => rfl
    | 1, _ => rfl)
  have tN1 := tN0.alloc (.cells #[.slice none 0 0, .slice none 0 0] 31)
  have tN := tN1.alloc (.cells #[.slice none 0 0, .slice none 0 0] 31)
  clear tN0 tN1
  have hB0 : Below w.heap.size w (((w.alloc (.cells #[.slice A n cap, .slice R m cap'] 25)).alloc (.cells #[.slice none 0 0, .slice none 0 0] 31)).alloc (.cells #[.slice none 0 0, .slice none 0 0] 31)) := by (with_reducible repeat (first | exact Below.refl _ _ | apply below_alloc | apply below_dN | apply below_d | refine below_setCell ?_ (by dsimp only; omega) | refine below_call (by assumption) ?_))
  go_upto_region 3 with (go_at_call 18; (with_reducible refine (HA.out _ hB0).mono ?_); rintro e w1 ⟨g, rfl, hg, hP, hb1⟩; have hl1 := hb1.size; have tO1 := tO.below hb1; have tQ1 := tQ.below hb1; have tN1 := tN.of_block (hb1.block _ tN.lt); have o0 := tO1.c0; have o1 := tO1.c1; have of0 := tO1.fr 0; have of1 := tO1.fr 1; have olt := tO1.lt; have nlt := tN1.lt)
  have hg2 : w.heap.size + 1 + 1 < g := by omega
  have tO2 := tO1.setA (.slice (some ⟨g, 0, none⟩) n n)
  have tQ2 := tQ1.other (c := w.heap.size + 1 + 1) (i := 0) (by omega) (.slice (some ⟨g, 0, none⟩) n n)
  have tN2 := tN1.setOther (a := ⟨w.heap.size + 1 + 1, 0, none⟩) (show w.heap.size ≠ w.heap.size + 1 + 1 by omega) (.slice (some ⟨g, 0, none⟩) n n)
  have hP2 := hP.other (c := w.heap.size + 1 + 1) (i := 0) (by omega) (.slice (some ⟨g, 0, none⟩) n n)
  have hB2 : Below w.heap.size w (w1.setCell ⟨w.heap.size + 1 + 1, 0, none⟩ (.slice (some ⟨g, 0, none⟩) n n)) := (hB0.trans (hb1.mono (by omega))).setCell (p := ⟨w.heap.size + 1 + 1, 0, none⟩) (show w.heap.size ≤ w.heap.size + 1 + 1 by omega) _
  have n1 := tN2.cell (i := 1) (by simp)
  simp only [if_neg (show ¬ (1 = 0) by decide)] at n1
  have hw1s : (w1.setCell ⟨w.heap.size + 1 + 1, 0, none⟩ (.slice (some ⟨g, 0, none⟩) n n)).heap.size = w1.heap.size := by simp [World.setCell]
  clear o0 o1 of0 of1 olt nlt tO tQ tN
  go_wp2_with (go_at_call 19; (with_reducible refine (HR.out _ hB2).mono ?_); rintro e w2 ⟨h, rfl, hh, hRd, hb2⟩; have hl2 := hb2.size; have tO3 := tO2.below hb2; have tQ3 := tQ2.below hb2; have o0 := tO3.c0; have o1 := tO3.c1; have of0 := tO3.fr 0; have of1 := tO3.fr 1; have olt := tO3.lt; have tO4 := tO3.setB (.slice (some ⟨h, 0, none⟩) m m); have tQ4 := tQ3.other (c := w.heap.size + 1 + 1) (i := 1) (by omega) (.slice (some ⟨h, 0, none⟩) m m); have p0 := tO4.c0; have p1 := tO4.c1; have q0 := tQ4.c0; have q1 := tQ4.c1; have qf0 := tQ4.fr 0; have qf1 := tQ4.fr 1; have qlt := tQ4.lt)
  refine bodyPost_ret (v := .agg #[.slice (some ⟨g, 0, none⟩) n n, .slice (some ⟨h, 0, none⟩) m m]) (by simp [results, Try.results12, go_sem, *] <;> (first | rfl | exact ⟨rfl, rfl⟩ | exact ⟨rfl, rfl, rfl⟩ | exact ⟨rfl, rfl, rfl, rfl⟩)) rfl ?_
  rw [hw1s] at hh
  have hPl : g < (w1.setCell ⟨w.heap.size + 1 + 1, 0, none⟩ (.slice (some ⟨g, 0, none⟩) n n)).heap.size := World.rowIs.lt hP2
  have hB3 : Below w.heap.size w w2 := hB2.trans (hb2.mono (by rw [hw1s]; omega))
  refine ⟨g, h, rfl, by omega, by omega, ?_, ?_, ?_⟩
  · exact (((hP2.below hb2 hPl).other (by omega) _).other (by omega) _).other (by omega) _
  · exact ((hRd.other (by omega) _).other (by omega) _).other (by omega) _
  · exact ((hB3.setCell (p := ⟨w.heap.size + 1 + 1, 1, none⟩) (show w.heap.size ≤ w.heap.size + 1 + 1 by omega) _).setCell (p := ⟨w.heap.size + 1, 0, none⟩) (show w.heap.size ≤ w.heap.size + 1 by omega) _).setCell (p := ⟨w.heap.size + 1, 1, none⟩) (show w.heap.size ≤ w.heap.size + 1 by omega) _
set_option maxRecDepth 100000 in
set_option maxHeartbeats 1000000 in
theorem eqNet_c (g h g' h' n m c1' c2' c3' c4' : Nat) (X Y : Nat → Nat) (a b l : Nat → Int) (w : World) (hn : n ≤ 1048576) (hm : m ≤ 1048576) (hg : g < w.heap.size) (hg' : g' < w.heap.size) (hP : PlCells w g n X Y) (hP' : PlCells w g' n X Y) (hR : RdBlk w h m a b l) (hR' : RdBlk w h' m a b l) :
    Calls Try.prog 14 #[.agg #[.slice (some ⟨g, 0, none⟩) n c1', .slice (some ⟨h, 0, none⟩) m c2'], .agg #[.slice (some ⟨g', 0, none⟩) n c3', .slice (some ⟨h', 0, none⟩) m c4']] w (Ret (RV (.bool true)) w) := by
  have ext : ∀ {w' : World} {q : Nat}, Below w.heap.size w w' → q < w.heap.size → PlCells w q n X Y → PlCells w' q n X Y := fun hB hq h j hj => by
    obtain ⟨r, s, h1, h2, h3⟩ := h j hj
    exact ⟨r, s, (hB.cell (p := ⟨_, j * 2, none⟩) hq).trans h1, (hB.cell (p := ⟨_, j * 2 + 1, none⟩) hq).trans h2, h3⟩
  have HP := Lib.hid (fun (w' : World) (hB : Below w.heap.size w w') => eqPlaceS_c g g' n c1' c3' X Y w' hn (Nat.lt_of_lt_of_le hg hB.size) (Nat.lt_of_lt_of_le hg' hB.size) (ext hB hg hP) (ext hB hg' hP'))
  have HR := Lib.hid (fun (w' : World) (hB : Below w.heap.size w w') => eqRoadS_c h h' m c2' c4' a b l w' hm (hR.below hB hR.lt) (hR'.below hB hR'.lt))
  clear hP hP' hR hR' ext
  go_enter Try.func14, Try.ntmps14
  go_wp2_with (first | (go_at_call 21; ((with_reducible refine (HP.out _ (by (with_reducible repeat (first | exact Below.refl _ _ | apply below_alloc | apply below_dN | apply below_d | refine below_setCell ?_ (by dsimp only; omega) | refine below_call (by assumption) ?_)))).mono ?_); rintro e w1 ⟨⟨v, rfl, rfl⟩, hb⟩); have hu2 : ∀ n : Nat, n < n + 1 + 1 := (fun n => by omega); have hu3 : ∀ n : Nat, n < n + 1 + 1 + 1 := (fun n => by omega); obtain ⟨hc, hfz⟩ := bcell hb; (try simp only [World.heap_drewN] at hc hfz); have hs_ := hb.size; (try simp at hs_); (try have hz0 : w.heap.size < w1.heap.size := (by omega)); (try have hz1 : w.heap.size + 1 < w1.heap.size := (by omega)); (try have hz2 : w.heap.size + 2 < w1.heap.size := (by omega)); (try have hz3 : w.heap.size + 3 < w1.heap.size := (by omega)); (try have hza : wa.heap.size < w1.heap.size := (by omega)); (try have hza1 : wa.heap.size + 1 < w1.heap.size := (by omega)); (try have hzb : wb.heap.size < w1.heap.size := (by omega)); (try have hzb1 : wb.heap.size + 1 < w1.heap.size := (by omega)); (try have hzc : wc.heap.size < w1.heap.size := (by omega)); (try have hzd : wd.heap.size < w1.heap.size := (by omega))) | (go_at_call 22; ((with_reducible refine (HR.out _ (by (with_reducible repeat (first | exact Below.refl _ _ | apply below_alloc | apply below_dN | apply below_d | refine below_setCell ?_ (by dsimp only; omega) | refine below_call (by assumption) ?_)))).mono ?_); rintro e w1 ⟨⟨v, rfl, rfl⟩, hb⟩); have hu2 : ∀ n : Nat, n < n + 1 + 1 := (fun n => by omega); have hu3 : ∀ n : Nat, n < n + 1 + 1 + 1 := (fun n => by omega); obtain ⟨hc, hfz⟩ := bcell hb; (try simp only [World.heap_drewN] at hc hfz); have hs_ := hb.size; (try simp at hs_); (try have hz0 : w.heap.size < w1.heap.size := (by omega)); (try have hz1 : w.heap.size + 1 < w1.heap.size := (by omega)); (try have hz2 : w.heap.size + 2 < w1.heap.size := (by omega)); (try have hz3 : w.heap.size + 3 < w1.heap.size := (by omega)); (try have hza : wa.heap.size < w1.heap.size := (by omega)); (try have hza1 : wa.heap.size + 1 < w1.heap.size := (by omega)); (try have hzb : wb.heap.size < w1.heap.size := (by omega)); (try have hzb1 : wb.heap.size + 1 < w1.heap.size := (by omega)); (try have hzc : wc.heap.size < w1.heap.size := (by omega)); (try have hzd : wd.heap.size < w1.heap.size := (by omega))))
  go_ret
  exact ⟨⟨_, rfl, rfl⟩, by (with_reducible repeat (first | exact Below.refl _ _ | apply below_alloc | apply below_dN | apply below_d | refine below_setCell ?_ (by dsimp only; omega) | refine below_call (by assumption) ?_))⟩
set_option maxHeartbeats 400000 in
theorem sValidNet_c (g h n m cg ch : Nat) (X Y : Nat → Nat) (a b l : Nat → Int) (w : World) (hg : g < w.heap.size) (hn : n ≤ 1048576) (hm : m ≤ 1048576) (hP : PlCells w g n X Y) (hR : RdBlk w h m a b l) :
    Calls Try.prog 11 #[.agg #[.slice (some ⟨g, 0, none⟩) n cg, .slice (some ⟨h, 0, none⟩) m ch]] w (Ret (RV (.bool (netOk n m X Y a b l))) w) := by
  have ext : ∀ {w' : World}, Below w.heap.size w w' → PlCells w' g n X Y := fun hB j hj => by
    obtain ⟨r, s, h1, h2, h3⟩ := hP j hj
    exact ⟨r, s, (hB.cell (p := ⟨_, j * 2, none⟩) hg).trans h1, (hB.cell (p := ⟨_, j * 2 + 1, none⟩) hg).trans h2, h3⟩
  have H := Lib.hid (fun (w' : World) (hB : Below w.heap.size w w') c0 c1 => l07Net_c w.heap.size g h n m cg ch X Y a b l w' hn hm c0 c1 (ext hB) (hR.below hB hR.lt))
  clear ext hP hR
  generalize netOk n m X Y a b l = q at H
  go_enter Try.func11, Try.ntmps11
  go_wp2_with ((go_at_call 46; ((with_reducible refine (H.out _ (by (with_reducible repeat (first | exact Below.refl _ _ | apply below_alloc | apply below_dN | apply below_d | refine below_setCell ?_ (by dsimp only; omega) | refine below_call (by assumption) ?_))) (by simp) (by simp)).mono ?_); rintro e w1 ⟨⟨v, rfl, rfl⟩, hb⟩); have hu2 : ∀ n : Nat, n < n + 1 + 1 := (fun n => by omega); have hu3 : ∀ n : Nat, n < n + 1 + 1 + 1 := (fun n => by omega); obtain ⟨hc, hfz⟩ := bcell hb; (try simp only [World.heap_drewN] at hc hfz); have hs_ := hb.size; (try simp at hs_); (try have hz0 : w.heap.size < w1.heap.size := (by omega)); (try have hz1 : w.heap.size + 1 < w1.heap.size := (by omega)); (try have hz2 : w.heap.size + 2 < w1.heap.size := (by omega)); (try have hz3 : w.heap.size + 3 < w1.heap.size := (by omega)); (try have hza : wa.heap.size < w1.heap.size := (by omega)); (try have hza1 : wa.heap.size + 1 < w1.heap.size := (by omega)); (try have hzb : wb.heap.size < w1.heap.size := (by omega)); (try have hzb1 : wb.heap.size + 1 < w1.heap.size := (by omega)); (try have hzc : wc.heap.size < w1.heap.size := (by omega)); (try have hzd : wd.heap.size < w1.heap.size := (by omega))))
  go_ret
  exact ⟨⟨_, rfl, rfl⟩, by (with_reducible repeat (first | exact Below.refl _ _ | apply below_alloc | apply below_dN | apply below_d | refine below_setCell ?_ (by dsimp only; omega) | refine below_call (by assumption) ?_))⟩
end Go.Proofs.Ytpmeccjfjjklkaa
