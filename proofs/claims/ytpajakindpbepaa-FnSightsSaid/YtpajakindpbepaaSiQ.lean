/- What one sees from a place itself, over a flat grid, from the top of a cone. No condition. -/
import Derived.Test.YtpajakindpbepaaSiP
namespace Go.Proofs.Ytpajakindpbepaa
open Go.RowKit Ieee
set_option linter.unusedSimpArgs false
theorem mix_self : ∀ x : Fin 5, ∀ s : Fin 9, ∀ k : Fin 9, 1 ≤ k.val → k.val < s.val → mixF (fofI .f32 (x.val : Int)) (fofI .f32 (x.val : Int)) (shrF k.val s.val) = fofI .f32 (x.val : Int) := by decide +kernel
theorem htc_self : ∀ W : Fin 4, ∀ x : Fin 5, x.val < W.val + 2 → htC (fofI .f32 (x.val : Int)) (W.val + 2) = min x.val W.val ∧ htU (fofI .f32 (x.val : Int)) (W.val + 2) = (if x.val ≤ W.val then 0 else 1065353216) := by decide +kernel
theorem lerp_0 : ∀ p : Fin 33, ∀ q : Fin 33, lerpF 0 (q4 p.val) (q4 q.val) = q4 p.val := by decide +kernel
theorem lerp_1 : ∀ p : Fin 33, ∀ q : Fin 33, lerpF 1065353216 (q4 p.val) (q4 q.val) = q4 q.val := by decide +kernel
theorem l0 {p q : Nat} (hp : p ≤ 32) (hq : q ≤ 32) : lerpF 0 (q4 p) (q4 q) = q4 p := lerp_0 ⟨p, by omega⟩ ⟨q, by omega⟩
theorem l1 {p q : Nat} (hp : p ≤ 32) (hq : q ≤ 32) : lerpF 1065353216 (q4 p) (q4 q) = q4 q := lerp_1 ⟨p, by omega⟩ ⟨q, by omega⟩
theorem htc {W x : Nat} (h1 : 2 ≤ W) (h2 : W ≤ 5) (hx : x < W) : htC (fofI .f32 (x : Int)) W = min x (W - 2) ∧ htU (fofI .f32 (x : Int)) W = (if x ≤ W - 2 then 0 else 1065353216) := by
  have h := htc_self ⟨W - 2, by omega⟩ ⟨x, by omega⟩ (by simp only; omega)
  simp only [show W - 2 + 2 = W by omega] at h
  exact h
/-- The height at a place is the place's height. -/
theorem ht_self {W D x y : Nat} (h : Nat → Nat) (hh : ∀ j, h j ≤ 32) (h1 : 2 ≤ W) (h2 : W ≤ 5) (h3 : 2 ≤ D) (h4 : D ≤ 5) (hx : x < W) (hy : y < D) : htF (fun j => q4 (h j)) W D (fofI .f32 (x : Int)) (fofI .f32 (y : Int)) = q4 (h (y * W + x)) := by
  obtain ⟨c1, u1⟩ := htc h1 h2 hx
  obtain ⟨c2, u2⟩ := htc h3 h4 hy
  unfold htF
  simp only [c1, c2, u1, u2]
  by_cases a : x ≤ W - 2
  · rw [if_pos a, Nat.min_eq_left a]
    by_cases b : y ≤ D - 2
    · rw [if_pos b, Nat.min_eq_left b, l0 (hh _) (hh _), l0 (hh _) (hh _), l0 (hh _) (hh _)]
    · rw [if_neg b, l0 (hh _) (hh _), l0 (hh _) (hh _), l1 (hh _) (hh _)]
      congr 2
      obtain ⟨m, rfl⟩ : ∃ m, y = m + 1 := ⟨y - 1, by omega⟩
      rw [show min (m + 1) (D - 2) = m by omega, Nat.add_mul]
      omega
  · rw [if_neg a]
    by_cases b : y ≤ D - 2
    · rw [if_pos b, Nat.min_eq_left b, l1 (hh _) (hh _), l1 (hh _) (hh _), l0 (hh _) (hh _)]
      congr 2
      omega
    · rw [if_neg b, l1 (hh _) (hh _), l1 (hh _) (hh _), l1 (hh _) (hh _)]
      congr 2
      obtain ⟨m, rfl⟩ : ∃ m, y = m + 1 := ⟨y - 1, by omega⟩
      rw [show min (m + 1) (D - 2) = m by omega, Nat.add_mul]
      omega
theorem q4n_all : ∀ u : Fin 42, isfB .f32 (fneg .f32 (q4 u.val)) (-((u.val : Rat) / 4)) = true := by decide +kernel
theorem isf_nq {h : Nat} (hh : h ≤ 41) : isf .f32 (-((h : Rat) / 4)) := isf_of _ (q4n_all ⟨h, by omega⟩)
theorem q4_small {h : Nat} (hh : h ≤ 32) : inn .f32 (q4 h) 0 8 := by
  have h0 : (0 : Rat) ≤ h := Rat.natCast_nonneg
  have h1 : (h : Rat) ≤ 32 := by exact_mod_cast hh
  exact (q4_inn (by omega)).mono (by grind) (by grind)
namespace Small
variable {W D f t s : Nat}
/-- A place is seen from itself. -/
theorem self (hS : Small W D f f s) {h : Nat → Nat} (hh : ∀ j, h j ≤ 32) {e : Nat} (he : e ≤ 8) : seeF (fun j => q4 (h j)) W D f f (q4 e) 1065353216 s = (true, true) := by
  have hX : ∀ j, inn .f32 ((fun j => q4 (h j)) j) 0 8 := fun j => q4_small (hh j)
  have e0 : (0 : Rat) ≤ e := Rat.natCast_nonneg
  have e8 : (e : Rat) ≤ 8 := by exact_mod_cast he
  have hE : inn .f32 (q4 e) 0 1000 := (q4_inn (by omega)).mono (by grind) (by grind)
  unfold seeF
  rw [if_pos (hS.fins hX hE)]
  refine seeL_yes (s := s) (fun k hk hks => ⟨hS.gs hX hE hk hks, ?_⟩) _ _ (by have := hS.s1; omega) (Nat.le_refl _)
  have hs2 := hS.s2
  have hw2 := hS.w2
  have hd2 := hS.d2
  have m1 := Nat.mod_lt f (show 0 < W by have := hS.w1; omega)
  have m2 : f / W < D := Nat.div_lt_of_lt_mul hS.hf
  have ex : seeX W f f (shrF k s) = fofI .f32 ((f % W : Nat) : Int) := by
    unfold seeX
    rw [show (f : Int) % (W : Int) = ((f % W : Nat) : Int) by omega]
    exact mix_self ⟨f % W, by omega⟩ ⟨s, by omega⟩ ⟨k, by omega⟩ hk hks
  have ey : seeY W f f (shrF k s) = fofI .f32 ((f / W : Nat) : Int) := by
    unfold seeY
    rw [show (f : Int) / (W : Int) = ((f / W : Nat) : Int) by simp]
    exact mix_self ⟨f / W, by omega⟩ ⟨s, by omega⟩ ⟨k, by omega⟩ hk hks
  have eh : htF (fun j => q4 (h j)) W D (seeX W f f (shrF k s)) (seeY W f f (shrF k s)) = q4 (h f) := by
    rw [ex, ey, ht_self h hh hS.w1 hS.w2 hS.d1 hS.d2 m1 m2, Nat.mul_comm, Nat.div_add_mod]
  have d0 := drop1 (far_inn hS.far (shr_inn (Nat.le_of_lt hks) hS.s1 (by omega)))
  have a := hh f
  have iq := q4_inn (h := h f) (by omega)
  have g : inn .f32 (grdF (fun j => q4 (h j)) W D f f 1065353216 s k) ((h f : Rat) / 4) ((h f : Rat) / 4) := by
    unfold grdF
    rw [eh]
    exact inn_sub iq d0 (by grind) (by grind) (isf_q (by omega)) (isf_q (by omega))
  have sum : ((h f + e : Nat) : Rat) / 4 = (h f : Rat) / 4 + (e : Rat) / 4 := by rw [Rat.natCast_add]; grind
  have tp : inn .f32 (topF (fun j => q4 (h j)) f (q4 e)) (((h f + e : Nat) : Rat) / 4) (((h f + e : Nat) : Rat) / 4) := inn_add iq (q4_inn (by omega)) (by rw [sum]) (by rw [sum]) (isf_q (by omega)) (isf_q (by omega))
  have en : inn .f32 (endF (fun j => q4 (h j)) W f f 1065353216) ((h f : Rat) / 4) ((h f : Rat) / 4) := inn_sub iq (drop1 hS.far) (by grind) (by grind) (isf_q (by omega)) (isf_q (by omega))
  have d := inn_sub en tp (p := -((e : Rat) / 4)) (q := -((e : Rat) / 4)) (by rw [sum]; grind) (by rw [sum]; grind) (isf_nq (by omega)) (isf_nq (by omega))
  have mm := inn_share (d.mono Rat.le_refl (show -((e : Rat) / 4) ≤ 0 by grind)) (shr_inn (Nat.le_of_lt hks) hS.s1 (by omega)) (by grind) (by grind) (p := -((e : Rat) / 4)) (q := 0) (by grind) (by grind) (isf_nq (by omega)) isf32_0
  have q : inn .f32 (sgtF (fun j => q4 (h j)) W f f (q4 e) 1065353216 s k) ((h f : Rat) / 4) (((h f + e : Nat) : Rat) / 4) := inn_add tp mm (by rw [sum]; grind) (by grind) (isf_q (by omega)) (isf_q (by omega))
  have q0 := q.2.1
  have g1 := g.2.2
  rw [fgt_val g.1 q.1, decide_eq_false_iff_not]
  have q1 : (h f : Rat) / 4 ≤ fv .f32 (sgtF (fun j => q4 (h j)) W f f (q4 e) 1065353216 s k) := q0
  have := Rat.le_trans g1 q1
  exact fun hlt => by grind
end Small
theorem u8_all : ∀ W : Fin 4, ∀ p : Fin 5, ∀ q : Fin 5, ∀ k : Fin 8, p.val < W.val + 2 → q.val < W.val + 2 → 1 ≤ k.val → (List.range 9).any (fun m => htU (mixF (fofI .f32 (p.val : Int)) (fofI .f32 (q.val : Int)) (shrF k.val 8)) (W.val + 2) == shrF m 8) = true := by decide +kernel
theorem lerp_2 : ∀ m : Fin 9, lerpF (shrF m.val 8) 1073741824 1073741824 = 1073741824 := by decide +kernel
theorem u8 {W p q k : Nat} (h1 : 2 ≤ W) (h2 : W ≤ 5) (hp : p < W) (hq : q < W) (hk : 1 ≤ k) (hks : k < 8) : ∃ m, m ≤ 8 ∧ htU (mixF (fofI .f32 (p : Int)) (fofI .f32 (q : Int)) (shrF k 8)) W = shrF m 8 := by
  have h := u8_all ⟨W - 2, by omega⟩ ⟨p, by omega⟩ ⟨q, by omega⟩ ⟨k, by omega⟩ (by simp only; omega) (by simp only; omega) hk
  simp only [show W - 2 + 2 = W by omega, List.any_eq_true, List.mem_range, beq_iff_eq] at h
  obtain ⟨m, hm, e⟩ := h
  exact ⟨m, by omega, e⟩
theorem isf32_178 : isf .f32 (17/8) := isf_of 1074266112 (by decide +kernel)
theorem isf32_n78 : isf .f32 (-(7/8)) := isf_of 3210739712 (by decide +kernel)
theorem isf32_3 : isf .f32 3 := isf_of 1077936128 (by decide +kernel)
theorem inn_two : inn .f32 1073741824 2 2 := by
  have := isfB_val (show isfB .f32 1073741824 2 = true by decide +kernel)
  exact ⟨this.1, by rw [this.2]; exact Rat.le_refl, by rw [this.2]; exact Rat.le_refl⟩
namespace Small
variable {W D f t s : Nat}
/-- What is flat is seen. -/
theorem flat (hS : Small W D f t 8) : seeF (fun _ => 1073741824) W D f t 1065353216 1065353216 8 = (true, true) := by
  have hX : ∀ j, inn .f32 ((fun _ : Nat => 1073741824) j) 0 8 := fun j => inn_two.mono (by decide +kernel) (by decide +kernel)
  have hE : inn .f32 1065353216 0 1000 := inn_one.mono (by decide +kernel) (by decide +kernel)
  unfold seeF
  rw [if_pos (hS.fins hX hE)]
  refine seeL_yes (s := 8) (fun k hk hks => ⟨hS.gs hX hE hk hks, ?_⟩) _ _ (by omega) (Nat.le_refl _)
  have hw1 := hS.w1
  have m1 := Nat.mod_lt f (show 0 < W by omega)
  have m2 := Nat.mod_lt t (show 0 < W by omega)
  have m3 : f / W < D := Nat.div_lt_of_lt_mul hS.hf
  have m4 : t / W < D := Nat.div_lt_of_lt_mul hS.ht
  obtain ⟨m, hm, eu⟩ := u8 hS.w1 hS.w2 m1 m2 hk hks
  obtain ⟨m', hm', ev⟩ := u8 hS.d1 hS.d2 m3 m4 hk hks
  have ex : htU (seeX W f t (shrF k 8)) W = shrF m 8 := by
    unfold seeX
    rw [show (f : Int) % (W : Int) = ((f % W : Nat) : Int) by omega, show (t : Int) % (W : Int) = ((t % W : Nat) : Int) by omega]
    exact eu
  have ey : htU (seeY W f t (shrF k 8)) D = shrF m' 8 := by
    unfold seeY
    rw [show (f : Int) / (W : Int) = ((f / W : Nat) : Int) by simp, show (t : Int) / (W : Int) = ((t / W : Nat) : Int) by simp]
    exact ev
  have eh : htF (fun _ => 1073741824) W D (seeX W f t (shrF k 8)) (seeY W f t (shrF k 8)) = 1073741824 := by
    unfold htF
    rw [ex, ey, lerp_2 ⟨m, by omega⟩, lerp_2 ⟨m', by omega⟩]
  have d0 := drop1 (far_inn hS.far (shr_inn (Nat.le_of_lt hks) hS.s1 (by omega)))
  have g : inn .f32 (grdF (fun _ => 1073741824) W D f t 1065353216 8 k) 2 2 := by
    unfold grdF
    rw [eh]
    exact inn_sub inn_two d0 (by decide +kernel) (by decide +kernel) isf32_2 isf32_2
  have tp : inn .f32 (topF (fun _ => 1073741824) f 1065353216) 3 3 := inn_add inn_two inn_one (by decide +kernel) (by decide +kernel) isf32_3 isf32_3
  have en : inn .f32 (endF (fun _ => 1073741824) W f t 1065353216) 2 2 := inn_sub inn_two (drop1 hS.far) (by decide +kernel) (by decide +kernel) isf32_2 isf32_2
  have d := inn_sub en tp (p := -1) (q := -1) (by decide +kernel) (by decide +kernel) isf32_n1 isf32_n1
  have mm := inn_share (d.mono Rat.le_refl (show (-1 : Rat) ≤ 0 by decide +kernel)) (shr78 hks (Nat.le_refl _)) (by decide +kernel) (by decide +kernel) (p := -(7/8)) (q := 0) (by decide +kernel) (by decide +kernel) isf32_n78 isf32_0
  have q : inn .f32 (sgtF (fun _ => 1073741824) W f t 1065353216 1065353216 8 k) (17/8) 3 := inn_add tp mm (by decide +kernel) (by decide +kernel) isf32_178 isf32_3
  have q0 := q.2.1
  have g1 := g.2.2
  rw [fgt_val g.1 q.1, decide_eq_false_iff_not]
  have q1 : (17/8 : Rat) ≤ fv .f32 (sgtF (fun _ => 1073741824) W f t 1065353216 1065353216 8 k) := q0
  exact fun hlt => by grind
end Small
/-- A cone of height 4 about the first place. -/
def coneV (x y : Nat) : Nat := fop .sub .f32 1082130432 (fop .mul .f32 1065353216 (lng (fop .sub .f32 (fofI .f32 (x : Int)) 0) (fop .sub .f32 (fofI .f32 (y : Int)) 0)))
def coneT (x y : Nat) : Nat := ([1082130432, 1077936128, 1073741824, 1065353216, 0, 1077936128, 1076198790, 1071761542, 1062630648, 3187416768, 1073741824, 1071761542, 1066792474, 1053422896, 3203513296, 1065353216, 1062630648, 1053422896, 3195565760, 3212836864, 0, 3187416768, 3203513296, 3212836864, 3218346956][5 * x + y]?).getD 0
theorem cone_tbl : ∀ x : Fin 5, ∀ y : Fin 5, coneV x.val y.val = coneT x.val y.val := by decide +kernel
def coneX (W j : Nat) : Nat := coneT (j % W) (j / W)
set_option maxHeartbeats 20000000 in
theorem cone_2_2 : ∀ t : Fin 4, seeF (coneX 2) 2 2 0 t.val 1065353216 1065353216 8 = (true, true) := by decide +kernel
set_option maxHeartbeats 20000000 in
theorem cone_2_3 : ∀ t : Fin 6, seeF (coneX 2) 2 3 0 t.val 1065353216 1065353216 8 = (true, true) := by decide +kernel
set_option maxHeartbeats 20000000 in
theorem cone_2_4 : ∀ t : Fin 8, seeF (coneX 2) 2 4 0 t.val 1065353216 1065353216 8 = (true, true) := by decide +kernel
set_option maxHeartbeats 20000000 in
theorem cone_2_5 : ∀ t : Fin 10, seeF (coneX 2) 2 5 0 t.val 1065353216 1065353216 8 = (true, true) := by decide +kernel
set_option maxHeartbeats 20000000 in
theorem cone_3_2 : ∀ t : Fin 6, seeF (coneX 3) 3 2 0 t.val 1065353216 1065353216 8 = (true, true) := by decide +kernel
set_option maxHeartbeats 20000000 in
theorem cone_3_3 : ∀ t : Fin 9, seeF (coneX 3) 3 3 0 t.val 1065353216 1065353216 8 = (true, true) := by decide +kernel
set_option maxHeartbeats 20000000 in
theorem cone_3_4 : ∀ t : Fin 12, seeF (coneX 3) 3 4 0 t.val 1065353216 1065353216 8 = (true, true) := by decide +kernel
set_option maxHeartbeats 20000000 in
theorem cone_3_5 : ∀ t : Fin 15, seeF (coneX 3) 3 5 0 t.val 1065353216 1065353216 8 = (true, true) := by decide +kernel
set_option maxHeartbeats 20000000 in
theorem cone_4_2 : ∀ t : Fin 8, seeF (coneX 4) 4 2 0 t.val 1065353216 1065353216 8 = (true, true) := by decide +kernel
set_option maxHeartbeats 20000000 in
theorem cone_4_3 : ∀ t : Fin 12, seeF (coneX 4) 4 3 0 t.val 1065353216 1065353216 8 = (true, true) := by decide +kernel
set_option maxHeartbeats 20000000 in
theorem cone_4_4 : ∀ t : Fin 16, seeF (coneX 4) 4 4 0 t.val 1065353216 1065353216 8 = (true, true) := by decide +kernel
set_option maxHeartbeats 20000000 in
theorem cone_4_5 : ∀ t : Fin 20, seeF (coneX 4) 4 5 0 t.val 1065353216 1065353216 8 = (true, true) := by decide +kernel
set_option maxHeartbeats 20000000 in
theorem cone_5_2 : ∀ t : Fin 10, seeF (coneX 5) 5 2 0 t.val 1065353216 1065353216 8 = (true, true) := by decide +kernel
set_option maxHeartbeats 20000000 in
theorem cone_5_3 : ∀ t : Fin 15, seeF (coneX 5) 5 3 0 t.val 1065353216 1065353216 8 = (true, true) := by decide +kernel
set_option maxHeartbeats 20000000 in
theorem cone_5_4 : ∀ t : Fin 20, seeF (coneX 5) 5 4 0 t.val 1065353216 1065353216 8 = (true, true) := by decide +kernel
set_option maxHeartbeats 20000000 in
theorem cone_5_5 : ∀ t : Fin 25, seeF (coneX 5) 5 5 0 t.val 1065353216 1065353216 8 = (true, true) := by decide +kernel
theorem Small.cone {W D t : Nat} (hS : Small W D 0 t 8) : seeF (coneX W) W D 0 t 1065353216 1065353216 8 = (true, true) := by
  have h1 := hS.w1
  have h2 := hS.w2
  have h3 := hS.d1
  have h4 := hS.d2
  have h5 := hS.ht
  have hW : W = 2 ∨ W = 3 ∨ W = 4 ∨ W = 5 := by omega
  have hD : D = 2 ∨ D = 3 ∨ D = 4 ∨ D = 5 := by omega
  rcases hW with rfl | rfl | rfl | rfl
  · rcases hD with rfl | rfl | rfl | rfl
    · exact cone_2_2 ⟨t, h5⟩
    · exact cone_2_3 ⟨t, h5⟩
    · exact cone_2_4 ⟨t, h5⟩
    · exact cone_2_5 ⟨t, h5⟩
  · rcases hD with rfl | rfl | rfl | rfl
    · exact cone_3_2 ⟨t, h5⟩
    · exact cone_3_3 ⟨t, h5⟩
    · exact cone_3_4 ⟨t, h5⟩
    · exact cone_3_5 ⟨t, h5⟩
  · rcases hD with rfl | rfl | rfl | rfl
    · exact cone_4_2 ⟨t, h5⟩
    · exact cone_4_3 ⟨t, h5⟩
    · exact cone_4_4 ⟨t, h5⟩
    · exact cone_4_5 ⟨t, h5⟩
  · rcases hD with rfl | rfl | rfl | rfl
    · exact cone_5_2 ⟨t, h5⟩
    · exact cone_5_3 ⟨t, h5⟩
    · exact cone_5_4 ⟨t, h5⟩
    · exact cone_5_5 ⟨t, h5⟩
end Go.Proofs.Ytpajakindpbepaa
