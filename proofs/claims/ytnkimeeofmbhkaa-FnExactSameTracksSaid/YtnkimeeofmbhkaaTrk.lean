/- Contracts of the laws' own words on tracks. No condition. -/
import Derived.Test.YtnkimeeofmbhkaaBitG
namespace Go.Proofs.Ytnkimeeofmbhkaa
open Go.RowKit
set_option linter.unusedSimpArgs false
/-- Two cells of one block. -/
def ntk (w : World) (p : Nat) (u v : Value) : Prop := w.rowIs p 74 2 (fun i => if i = 0 then u else v)
namespace ntk
variable {w : World} {p : Nat} {u v : Value}
theorem c0 (h : ntk w p u v) : w.cell? ⟨p, 0, none⟩ = some u := World.rowIs.cell h (i := 0) (by omega)
theorem c1 (h : ntk w p u v) : w.cell? ⟨p, 1, none⟩ = some v := World.rowIs.cell h (i := 1) (by omega)
theorem fr (h : ntk w p u v) (i : Nat) : w.frozen? ⟨p, i, none⟩ = false := World.rowIs.frozen h i
theorem setA (h : ntk w p u v) (z : Value) : ntk (w.setCell ⟨p, 0, none⟩ z) p z v := (World.rowIs.set h 0 _).congr (fun i hi => by
  by_cases e : i = 0
  · simp [e]
  · simp [e])
theorem setB (h : ntk w p u v) (z : Value) : ntk (w.setCell ⟨p, 1, none⟩ z) p u z := (World.rowIs.set h 1 _).congr (fun i hi => by
  by_cases e : i = 1
  · simp [e]
  · have : i = 0 := by omega
    simp [this])
theorem lt (h : ntk w p u v) : p < w.heap.size := World.rowIs.lt h
theorem below {w' : World} (h : ntk w p u v) (hb : Below w.heap.size w w') : ntk w' p u v := World.rowIs.of_block h (hb.block p h.lt)
theorem other (h : ntk w p u v) {c i : Nat} (hne : p ≠ c) (z : Value) : ntk (w.setCell ⟨c, i, none⟩ z) p u v := World.rowIs.setOther h (a := ⟨c, i, none⟩) hne z
theorem alloc (h : ntk w p u v) (o : Obj) : ntk (w.alloc o) p u v := World.rowIs.alloc h o
theorem newAt (hp : p = w.heap.size) : ntk (w.alloc (.cells #[u, v] 74)) p u v := by
  subst hp
  exact World.rowIs_alloc w _ _ _ (fun i hi => by
    match i, hi with
    | 0, _ => rfl
    | 1, _ => rfl)
end ntk
/-- A row of places, whatever it is under: its own block. -/
theorem PlBlk.other {w : World} {b n : Nat} {x y : Nat → Nat} (h : PlBlk w b n x y) {c i : Nat} (hne : b ≠ c) (z : Value) : PlBlk (w.setCell ⟨c, i, none⟩ z) b n x y := World.rowIs.setOther h (a := ⟨c, i, none⟩) hne z
theorem PlBlk.lt' {w : World} {b n : Nat} {x y : Nat → Nat} (h : PlBlk w b n x y) : b < w.heap.size := World.rowIs.lt h
theorem PlBlk.dn {w w' : World} {g n : Nat} {x y : Nat → Nat} (h : PlBlk w g n x y) (hb : Below w.heap.size w w') : PlBlk w' g n x y := h.below hb (World.rowIs.lt h)
set_option maxRecDepth 100000 in
set_option maxHeartbeats 1000000 in
theorem toTrack_c (s : ByteArray) (P : Option Addr) (m c : Nat) (x y : Nat → Nat) (w : World) (hm : m ≤ 1048576) (hA : PlArg w P m x y) :
    Calls Try.prog 48 #[.agg #[.string s, .slice P m c]] w fun e w' => ∃ q, e = .returned (.agg #[.string s, .slice (some ⟨q, 0, none⟩) m m]) ∧ w.heap.size ≤ q ∧ PlBlk w' q m x y ∧ Below w.heap.size w w' := by
  have HA := Lib.hid (fun (w' : World) (hB : Below w.heap.size w w') => toPlaceS_c P m c x y w' hm (hA.below hB))
  clear hA
  go_enter Try.func48, Try.ntmps48
  go_upto_region 2 with fail
  obtain ⟨V, hV⟩ : ∃ V, (((w.alloc (.cells #[.string s, .slice P m c] 72)).alloc (.cells #[.string { data := #[] }, .slice none 0 0] 74)).alloc (.cells #[.string { data := #[] }, .slice none 0 0] 74)) = V := ⟨_, rfl⟩
  have hVs : V.heap.size = w.heap.size + 1 + 1 + 1 := by rw [← hV]; simp
  have tO : ntk V (w.heap.size + 1 + 1) (.string { data := #[] }) (.slice none 0 0) := by rw [← hV]; exact ntk.newAt (by simp)
  have tQ : ntk V (w.heap.size + 1) (.string { data := #[] }) (.slice none 0 0) := by rw [← hV]; exact (ntk.newAt (by simp)).alloc _
  have tN : V.rowIs w.heap.size 72 2 (fun i => if i = 0 then .string s else .slice P m c) := by
    rw [← hV]
    exact ((World.rowIs_alloc w #[.string s, .slice P m c] 72 (fun i => if i = 0 then .string s else .slice P m c) (fun i hi => by
    match i, hi with
    | 0, _ => rfl
    | 1, _ => rfl)).alloc _).alloc _
  have hBV : Below w.heap.size w V := by rw [← hV]; (with_reducible repeat (first | exact Below.refl _ _ | apply below_alloc | apply below_dN | apply below_d | refine below_setCell ?_ (by dsimp only; omega) | refine below_call (by assumption) ?_))
  rw [hV]
  clear hV
  have n0 := tN.cell (i := 0) (by simp)
  have n1 := tN.cell (i := 1) (by simp)
  simp only [if_neg (show ¬ (1 = 0) by decide), if_true] at n0 n1
  have o0 := tO.c0
  have of0 := tO.fr 0
  have tO2 := tO.setA (.string s)
  have tQ2 := tQ.other (c := w.heap.size + 1 + 1) (i := 0) (by omega) (.string s)
  have tN2 := tN.setOther (a := ⟨w.heap.size + 1 + 1, 0, none⟩) (show w.heap.size ≠ w.heap.size + 1 + 1 by omega) (.string s)
  have hB2 : Below w.heap.size w (V.setCell ⟨w.heap.size + 1 + 1, 0, none⟩ (.string s)) := hBV.setCell (p := ⟨w.heap.size + 1 + 1, 0, none⟩) (show w.heap.size ≤ w.heap.size + 1 + 1 by omega) _
  have hw1s : (V.setCell ⟨w.heap.size + 1 + 1, 0, none⟩ (.string s)).heap.size = V.heap.size := by simp [World.setCell]
  have TO := Lib.hid tO2
  have TQ := Lib.hid tQ2
  have TN := Lib.hid tN2
  clear tO tQ tN tO2 tQ2 tN2
  go_upto_region 3 with fail
  clear n0 n1 o0 of0
  have n1 := TN.out.cell (i := 1) (by simp)
  simp only [if_neg (show ¬ (1 = 0) by decide)] at n1
  go_wp2_with (go_at_call 14; (with_reducible refine (HA.out _ hB2).mono ?_); rintro e w2 ⟨h, rfl, hh, hRd, hb2⟩; have hl2 := hb2.size; have tO3 := TO.out.below hb2; have tQ3 := TQ.out.below hb2; have o0 := tO3.c0; have o1 := tO3.c1; have of0 := tO3.fr 0; have of1 := tO3.fr 1; have olt := tO3.lt; have tO4 := tO3.setB (.slice (some ⟨h, 0, none⟩) m m); have tQ4 := tQ3.other (c := w.heap.size + 1 + 1) (i := 1) (by omega) (.slice (some ⟨h, 0, none⟩) m m); have p0 := tO4.c0; have p1 := tO4.c1; have q0 := tQ4.c0; have q1 := tQ4.c1; have qf0 := tQ4.fr 0; have qf1 := tQ4.fr 1; have qlt := tQ4.lt)
  refine bodyPost_ret (v := .agg #[.string s, .slice (some ⟨h, 0, none⟩) m m]) (by simp [results, Try.results48, go_sem, *] <;> (first | rfl | exact ⟨rfl, rfl⟩ | exact ⟨rfl, rfl, rfl⟩ | exact ⟨rfl, rfl, rfl, rfl⟩)) rfl ?_
  rw [hw1s] at hh
  have hB3 : Below w.heap.size w w2 := hB2.trans (hb2.mono (by rw [hw1s]; omega))
  refine ⟨h, rfl, by omega, ?_, ?_⟩
  · exact ((hRd.other (by omega) _).other (by omega) _).other (by omega) _
  · exact ((hB3.setCell (p := ⟨w.heap.size + 1 + 1, 1, none⟩) (show w.heap.size ≤ w.heap.size + 1 + 1 by omega) _).setCell (p := ⟨w.heap.size + 1, 0, none⟩) (show w.heap.size ≤ w.heap.size + 1 by omega) _).setCell (p := ⟨w.heap.size + 1, 1, none⟩) (show w.heap.size ≤ w.heap.size + 1 by omega) _
set_option maxHeartbeats 1000000 in
theorem szTrack_c (s : ByteArray) (P : Option Addr) (m c : Nat) (left : Int) (hl : 0 ≤ left) (hl2 : left ≤ 1048576) (hs : s.size ≤ 9223372036854775807) (hm : m ≤ 9223372036854775807) (w : World) :
    Calls Try.prog 46 #[.agg #[.string s, .slice P m c], .int .i64 left] w fun e w' => ∃ L : Int, e = .returned (.int .i64 L) ∧ Below w.heap.size w w' ∧ (L = -1 ∨ (0 ≤ L ∧ L ≤ left ∧ m ≤ 1048576)) := by
  by_cases h1 : left - (s.size : Int) < 0
  · go_enter Try.func46, Try.ntmps46
    go_wp2
    go_ret
    exact ⟨_, rfl, by (with_reducible repeat (first | exact Below.refl _ _ | apply below_alloc | apply below_dN | apply below_d | refine below_setCell ?_ (by dsimp only; omega) | refine below_call (by assumption) ?_)), .inl rfl⟩
  · have HP := Lib.hid (szPlaceS_c P m c (left - (s.size : Int)) (by omega) (by omega) hm)
    by_cases h2 : left - (s.size : Int) < m
    · rw [if_pos h2] at HP
      go_enter Try.func46, Try.ntmps46
      go_wp2_with (go_at_call 12; (with_reducible refine (HP.out _).mono ?_); rintro e w1 ⟨rfl, rfl⟩)
      go_ret
      exact ⟨_, rfl, by (with_reducible repeat (first | exact Below.refl _ _ | apply below_alloc | apply below_dN | apply below_d | refine below_setCell ?_ (by dsimp only; omega) | refine below_call (by assumption) ?_)), .inl rfl⟩
    · rw [if_neg h2] at HP
      have h3 : ¬ (left - (s.size : Int) - (m : Int) < 0) := by omega
      go_enter Try.func46, Try.ntmps46
      go_wp2_with (go_at_call 12; (with_reducible refine (HP.out _).mono ?_); rintro e w1 ⟨rfl, rfl⟩)
      go_ret
      exact ⟨_, rfl, by (with_reducible repeat (first | exact Below.refl _ _ | apply below_alloc | apply below_dN | apply below_d | refine below_setCell ?_ (by dsimp only; omega) | refine below_call (by assumption) ?_)), .inr ⟨by omega, by omega, by omega⟩⟩
end Go.Proofs.Ytnkimeeofmbhkaa
