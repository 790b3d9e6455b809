/- Contracts of KeysIn in both spellings, for every argument. No condition. -/
import Derived.Test.YteecbhmgogndaaaKeysI
namespace Go.Proofs.Yteecbhmgogndaaa
open Go.RowKit
set_option linter.unusedSimpArgs false

set_option maxRecDepth 100000 in
set_option maxHeartbeats 2000000 in
theorem sKeysBad (x y x' y' X Y X' Y' : Nat) (z : Int) (hx : cn .f32 x = X) (hy : cn .f32 y = Y) (hx' : cn .f32 x' = X') (hy' : cn .f32 y' = Y') (h : ((vplace X Y && vplace X' Y') && zoomOk z) = false) (w : World) :
    Calls Try.prog 14 #[.agg #[.float .f32 x, .float .f32 y], .agg #[.float .f32 x', .float .f32 y'], .int .i64 z] w fun e w' => e = .returned (.tuple #[.slice none 0 0, .bool false]) ∧ Below w.heap.size w w' := by
  have HZ := Lib.hid (l07Zoom_c z)
  go_enter Try.func14, Try.ntmps14
  cases hv : vplace X Y
  · go_wp2_with (first | (go_at_call 36; (with_reducible refine (l02Is_c x y w.heap.size 0 _ _ hx hy _ (by simp) (by simp)).mono ?_); rintro e w' ⟨rfl, rfl⟩) | (go_at_call 36; (with_reducible refine (l02Is_c x' y' (w.heap.size + 1) 0 _ _ hx' hy' _ (by simp) (by simp)).mono ?_); rintro e w' ⟨rfl, rfl⟩) | (go_at_call 30; (with_reducible refine (HZ.out _).mono ?_); rintro e w' ⟨rfl, rfl⟩))
    go_ret2
    exact ⟨rfl, by (with_reducible repeat (first | exact Below.refl _ _ | apply below_alloc | apply below_dN | apply below_d | refine below_setCell ?_ (by dsimp only; omega) | refine below_call (by assumption) ?_))⟩
  · cases hv' : vplace X' Y'
    · go_wp2_with (first | (go_at_call 36; (with_reducible refine (l02Is_c x y w.heap.size 0 _ _ hx hy _ (by simp) (by simp)).mono ?_); rintro e w' ⟨rfl, rfl⟩) | (go_at_call 36; (with_reducible refine (l02Is_c x' y' (w.heap.size + 1) 0 _ _ hx' hy' _ (by simp) (by simp)).mono ?_); rintro e w' ⟨rfl, rfl⟩) | (go_at_call 30; (with_reducible refine (HZ.out _).mono ?_); rintro e w' ⟨rfl, rfl⟩))
      go_ret2
      exact ⟨rfl, by (with_reducible repeat (first | exact Below.refl _ _ | apply below_alloc | apply below_dN | apply below_d | refine below_setCell ?_ (by dsimp only; omega) | refine below_call (by assumption) ?_))⟩
    · rw [hv, hv'] at h
      have hz : zoomOk z = false := by simpa using h
      go_wp2_with (first | (go_at_call 36; (with_reducible refine (l02Is_c x y w.heap.size 0 _ _ hx hy _ (by simp) (by simp)).mono ?_); rintro e w' ⟨rfl, rfl⟩) | (go_at_call 36; (with_reducible refine (l02Is_c x' y' (w.heap.size + 1) 0 _ _ hx' hy' _ (by simp) (by simp)).mono ?_); rintro e w' ⟨rfl, rfl⟩) | (go_at_call 30; (with_reducible refine (HZ.out _).mono ?_); rintro e w' ⟨rfl, rfl⟩))
      go_ret2
      exact ⟨rfl, by (with_reducible repeat (first | exact Below.refl _ _ | apply below_alloc | apply below_dN | apply below_d | refine below_setCell ?_ (by dsimp only; omega) | refine below_call (by assumption) ?_))⟩

set_option maxRecDepth 100000 in
set_option maxHeartbeats 2000000 in
theorem iKeysBad (x y x' y' X Y X' Y' : Nat) (z : Int) (hx : cn .f32 x = X) (hy : cn .f32 y = Y) (hx' : cn .f32 x' = X') (hy' : cn .f32 y' = Y') (h : ((vplace X Y && vplace X' Y') && zoomOk z) = false) (w : World) :
    Calls Try.prog 15 #[.agg #[.float .f32 x, .float .f32 y], .agg #[.float .f32 x', .float .f32 y'], .int .i64 z] w fun e w' => e = .returned (.tuple #[.slice none 0 0, .bool false]) ∧ Below w.heap.size w w' := by
  have HZ := Lib.hid (isZoom_c z)
  go_enter Try.func15, Try.ntmps15
  cases hv : vplace X Y
  · go_wp2_with (first | (go_at_call 40; ((with_reducible refine (areV2 hx hy hx' hy' _ _ (by simp)).mono ?_); rintro e w1 ⟨⟨v, rfl, rfl⟩, hb⟩); have hu2 : ∀ n : Nat, n < n + 1 + 1 := (fun n => by omega); have hu3 : ∀ n : Nat, n < n + 1 + 1 + 1 := (fun n => by omega); obtain ⟨hc, hfz⟩ := bcell hb; (try simp only [World.heap_drewN] at hc hfz); have hs_ := hb.size; (try simp at hs_); (try have hz0 : w.heap.size < w1.heap.size := (by omega)); (try have hz1 : w.heap.size + 1 < w1.heap.size := (by omega)); (try have hz2 : w.heap.size + 2 < w1.heap.size := (by omega)); (try have hz3 : w.heap.size + 3 < w1.heap.size := (by omega)); (try have hza : wa.heap.size < w1.heap.size := (by omega)); (try have hza1 : wa.heap.size + 1 < w1.heap.size := (by omega)); (try have hzb : wb.heap.size < w1.heap.size := (by omega)); (try have hzb1 : wb.heap.size + 1 < w1.heap.size := (by omega)); (try have hzc : wc.heap.size < w1.heap.size := (by omega)); (try have hzd : wd.heap.size < w1.heap.size := (by omega))) | (go_at_call 33; (with_reducible refine (HZ.out _).mono ?_); rintro e w' ⟨rfl, rfl⟩))
    go_ret2
    exact ⟨rfl, by (with_reducible repeat (first | exact Below.refl _ _ | apply below_alloc | apply below_dN | apply below_d | refine below_setCell ?_ (by dsimp only; omega) | refine below_call (by assumption) ?_))⟩
  · cases hv' : vplace X' Y'
    · go_wp2_with (first | (go_at_call 40; ((with_reducible refine (areV2 hx hy hx' hy' _ _ (by simp)).mono ?_); rintro e w1 ⟨⟨v, rfl, rfl⟩, hb⟩); have hu2 : ∀ n : Nat, n < n + 1 + 1 := (fun n => by omega); have hu3 : ∀ n : Nat, n < n + 1 + 1 + 1 := (fun n => by omega); obtain ⟨hc, hfz⟩ := bcell hb; (try simp only [World.heap_drewN] at hc hfz); have hs_ := hb.size; (try simp at hs_); (try have hz0 : w.heap.size < w1.heap.size := (by omega)); (try have hz1 : w.heap.size + 1 < w1.heap.size := (by omega)); (try have hz2 : w.heap.size + 2 < w1.heap.size := (by omega)); (try have hz3 : w.heap.size + 3 < w1.heap.size := (by omega)); (try have hza : wa.heap.size < w1.heap.size := (by omega)); (try have hza1 : wa.heap.size + 1 < w1.heap.size := (by omega)); (try have hzb : wb.heap.size < w1.heap.size := (by omega)); (try have hzb1 : wb.heap.size + 1 < w1.heap.size := (by omega)); (try have hzc : wc.heap.size < w1.heap.size := (by omega)); (try have hzd : wd.heap.size < w1.heap.size := (by omega))) | (go_at_call 33; (with_reducible refine (HZ.out _).mono ?_); rintro e w' ⟨rfl, rfl⟩))
      go_ret2
      exact ⟨rfl, by (with_reducible repeat (first | exact Below.refl _ _ | apply below_alloc | apply below_dN | apply below_d | refine below_setCell ?_ (by dsimp only; omega) | refine below_call (by assumption) ?_))⟩
    · rw [hv, hv'] at h
      have hz : zoomOk z = false := by simpa using h
      go_wp2_with (first | (go_at_call 40; ((with_reducible refine (areV2 hx hy hx' hy' _ _ (by simp)).mono ?_); rintro e w1 ⟨⟨v, rfl, rfl⟩, hb⟩); have hu2 : ∀ n : Nat, n < n + 1 + 1 := (fun n => by omega); have hu3 : ∀ n : Nat, n < n + 1 + 1 + 1 := (fun n => by omega); obtain ⟨hc, hfz⟩ := bcell hb; (try simp only [World.heap_drewN] at hc hfz); have hs_ := hb.size; (try simp at hs_); (try have hz0 : w.heap.size < w1.heap.size := (by omega)); (try have hz1 : w.heap.size + 1 < w1.heap.size := (by omega)); (try have hz2 : w.heap.size + 2 < w1.heap.size := (by omega)); (try have hz3 : w.heap.size + 3 < w1.heap.size := (by omega)); (try have hza : wa.heap.size < w1.heap.size := (by omega)); (try have hza1 : wa.heap.size + 1 < w1.heap.size := (by omega)); (try have hzb : wb.heap.size < w1.heap.size := (by omega)); (try have hzb1 : wb.heap.size + 1 < w1.heap.size := (by omega)); (try have hzc : wc.heap.size < w1.heap.size := (by omega)); (try have hzd : wd.heap.size < w1.heap.size := (by omega))) | (go_at_call 33; (with_reducible refine (HZ.out _).mono ?_); rintro e w' ⟨rfl, rfl⟩))
      go_ret2
      exact ⟨rfl, by (with_reducible repeat (first | exact Below.refl _ _ | apply below_alloc | apply below_dN | apply below_d | refine below_setCell ?_ (by dsimp only; omega) | refine below_call (by assumption) ?_))⟩

set_option maxRecDepth 100000 in
set_option maxHeartbeats 4000000 in
theorem sKeysBad2 (x y x' y' X Y X' Y' z : Nat) (hx : cn .f32 x = X) (hy : cn .f32 y = Y) (hx' : cn .f32 x' = X') (hy' : cn .f32 y' = Y') (hv : vplace X Y = true) (hv' : vplace X' Y' = true) (hz : z ≤ 20) (hm : ¬ (tY X z ≤ tY X' z ∧ kWide Y Y' z * (tY X' z - tY X z + 1) ≤ 64)) (w : World) :
    Calls Try.prog 14 #[.agg #[.float .f32 x, .float .f32 y], .agg #[.float .f32 x', .float .f32 y'], .int .i64 z] w fun e w' => e = .returned (.tuple #[.slice none 0 0, .bool false]) ∧ Below w.heap.size w w' := by
  have hzz := l07Zoom_c (z : Int)
  rw [show zoomOk (z : Int) = true by simp [zoomOk]; omega] at hzz
  have HZ := Lib.hid hzz
  have b1 := tX_lt (z := z) hv hz
  have b2 := tY_lt (z := z) hv hz
  have b3 := tX_lt (z := z) hv' hz
  have b4 := tY_lt (z := z) hv' hz
  have hp := pow_le_20 hz
  have HT := Lib.hid (l07Tile_c x y X Y z (by omega) hx hy hv)
  have HT' := Lib.hid (l07Tile_c x' y' X' Y' z (by omega) hx' hy' hv')
  unfold tileV at HT HT'
  have hsh : IntKind.i64.wrap ((2 : Int) ^ z) = ((2 ^ z : Nat) : Int) := by rw [IntKind.wrap_i64, show ((2 : Int) ^ z) = ((2 ^ z : Nat) : Int) by simp]; omega
  obtain ⟨W, hW⟩ : ∃ W, kWide Y Y' z = W := ⟨_, rfl⟩
  have hW2 := hW
  unfold kWide at hW2
  obtain ⟨N, hN⟩ : ∃ N, 2 ^ z = N := ⟨_, rfl⟩
  rw [hN] at b1 b2 b3 b4 hp hsh hW2
  obtain ⟨a, ha⟩ : ∃ a, tX Y z = a := ⟨_, rfl⟩
  obtain ⟨d, hd⟩ : ∃ d, tY X z = d := ⟨_, rfl⟩
  obtain ⟨b, hb0⟩ : ∃ b, tX Y' z = b := ⟨_, rfl⟩
  obtain ⟨e, he⟩ : ∃ e, tY X' z = e := ⟨_, rfl⟩
  rw [show tu Y / 2 ^ (24 - z) = a from ha, show tv X / 2 ^ (24 - z) = d from hd] at HT
  rw [show tu Y' / 2 ^ (24 - z) = b from hb0, show tv X' / 2 ^ (24 - z) = e from he] at HT'
  rw [ha, hb0] at hW2
  rw [ha] at b1
  rw [hd] at b2 hm
  rw [hb0] at b3
  rw [he] at b4 hm
  rw [hW] at hm
  clear hW hN ha hd hb0 he hzz
  have hWN : W ≤ N := by rw [← hW2]; have := Nat.mod_lt (b + N - a) (show 0 < N by omega); omega
  have hE0 : ((b : Int) - (a : Int)) % (N : Int) + 1 = (W : Int) := by
    rw [← hW2]
    have h9 : (((b + N - a) % N : Nat) : Int) = ((b : Int) - a) % N := by
      rw [Int.natCast_emod, show ((b + N - a : Nat) : Int) = ((b : Int) - a) + N by omega, Int.add_emod_right]
    omega
  have hE : wrap64 (((b : Int) - (a : Int)) % (N : Int) + 1) = (W : Int) := by
    rw [hE0]
    unfold wrap64
    omega
  by_cases hle : d ≤ e
  · obtain ⟨t, ht⟩ : ∃ t : Nat, e - d + 1 = t := ⟨_, rfl⟩
    have hT2 : (e : Int) - (d : Int) + 1 = (t : Int) := by omega
    rw [ht] at hm
    have hm1 : 64 < W * t := by
      rcases Nat.lt_or_ge 64 (W * t) with h | h
      · exact h
      · exact absurd ⟨hle, h⟩ hm
    have hm3 : W * t ≤ 1048576 * 1048576 := Nat.mul_le_mul (by omega) (by omega)
    have hm2 : (64 : Int) < (W : Int) * (t : Int) := by rw [← Int.natCast_mul]; omega
    have hm4 : (W : Int) * (t : Int) ≤ 1099511627776 := by rw [← Int.natCast_mul]; omega
    have hm5 : wrap64 ((W : Int) * (t : Int)) = (W : Int) * (t : Int) := by unfold wrap64; omega
    have hed : ¬ ((e : Int) < (d : Int)) := by omega
    have ht1 : 1 ≤ t := by omega
    clear hm hm1 hm3 hm4
    go_enter Try.func14, Try.ntmps14
    go_upto_region 3 with (first | (go_at_call 36; (with_reducible refine (l02Is_c x y w.heap.size 0 _ _ hx hy _ (by simp) (by simp)).mono ?_); rintro e w' ⟨rfl, rfl⟩) | (go_at_call 36; (with_reducible refine (l02Is_c x' y' (w.heap.size + 1) 0 _ _ hx' hy' _ (by simp) (by simp)).mono ?_); rintro e w' ⟨rfl, rfl⟩) | (go_at_call 30; (with_reducible refine (HZ.out _).mono ?_); rintro e w' ⟨rfl, rfl⟩))
    go_wp2_with (first | (go_at_call 37; ((with_reducible refine (HT.out _).mono ?_); rintro e w1 ⟨⟨v, rfl, rfl⟩, hb⟩); have hu2 : ∀ n : Nat, n < n + 1 + 1 := (fun n => by omega); have hu3 : ∀ n : Nat, n < n + 1 + 1 + 1 := (fun n => by omega); obtain ⟨hc, hfz⟩ := bcell hb; (try simp only [World.heap_drewN] at hc hfz); have hs_ := hb.size; (try simp at hs_); (try have hz0 : w.heap.size < w1.heap.size := (by omega)); (try have hz1 : w.heap.size + 1 < w1.heap.size := (by omega)); (try have hz2 : w.heap.size + 2 < w1.heap.size := (by omega)); (try have hz3 : w.heap.size + 3 < w1.heap.size := (by omega)); (try have hza : wa.heap.size < w1.heap.size := (by omega)); (try have hza1 : wa.heap.size + 1 < w1.heap.size := (by omega)); (try have hzb : wb.heap.size < w1.heap.size := (by omega)); (try have hzb1 : wb.heap.size + 1 < w1.heap.size := (by omega)); (try have hzc : wc.heap.size < w1.heap.size := (by omega)); (try have hzd : wd.heap.size < w1.heap.size := (by omega))) | (go_at_call 37; ((with_reducible refine (HT'.out _).mono ?_); rintro e w1 ⟨⟨v, rfl, rfl⟩, hb⟩); have hu2 : ∀ n : Nat, n < n + 1 + 1 := (fun n => by omega); have hu3 : ∀ n : Nat, n < n + 1 + 1 + 1 := (fun n => by omega); obtain ⟨hc, hfz⟩ := bcell hb; (try simp only [World.heap_drewN] at hc hfz); have hs_ := hb.size; (try simp at hs_); (try have hz0 : w.heap.size < w1.heap.size := (by omega)); (try have hz1 : w.heap.size + 1 < w1.heap.size := (by omega)); (try have hz2 : w.heap.size + 2 < w1.heap.size := (by omega)); (try have hz3 : w.heap.size + 3 < w1.heap.size := (by omega)); (try have hza : wa.heap.size < w1.heap.size := (by omega)); (try have hza1 : wa.heap.size + 1 < w1.heap.size := (by omega)); (try have hzb : wb.heap.size < w1.heap.size := (by omega)); (try have hzb1 : wb.heap.size + 1 < w1.heap.size := (by omega)); (try have hzc : wc.heap.size < w1.heap.size := (by omega)); (try have hzd : wd.heap.size < w1.heap.size := (by omega))))
    all_goals (go_ret2; exact ⟨rfl, by (with_reducible repeat (first | exact Below.refl _ _ | apply below_alloc | apply below_dN | apply below_d | refine below_setCell ?_ (by dsimp only; omega) | refine below_call (by assumption) ?_))⟩)
  · have hed : (e : Int) < (d : Int) := by omega
    have hT3 : (e : Int) - (d : Int) + 1 < 1 := by omega
    clear hm
    go_enter Try.func14, Try.ntmps14
    go_upto_region 3 with (first | (go_at_call 36; (with_reducible refine (l02Is_c x y w.heap.size 0 _ _ hx hy _ (by simp) (by simp)).mono ?_); rintro e w' ⟨rfl, rfl⟩) | (go_at_call 36; (with_reducible refine (l02Is_c x' y' (w.heap.size + 1) 0 _ _ hx' hy' _ (by simp) (by simp)).mono ?_); rintro e w' ⟨rfl, rfl⟩) | (go_at_call 30; (with_reducible refine (HZ.out _).mono ?_); rintro e w' ⟨rfl, rfl⟩))
    go_wp2_with (first | (go_at_call 37; ((with_reducible refine (HT.out _).mono ?_); rintro e w1 ⟨⟨v, rfl, rfl⟩, hb⟩); have hu2 : ∀ n : Nat, n < n + 1 + 1 := (fun n => by omega); have hu3 : ∀ n : Nat, n < n + 1 + 1 + 1 := (fun n => by omega); obtain ⟨hc, hfz⟩ := bcell hb; (try simp only [World.heap_drewN] at hc hfz); have hs_ := hb.size; (try simp at hs_); (try have hz0 : w.heap.size < w1.heap.size := (by omega)); (try have hz1 : w.heap.size + 1 < w1.heap.size := (by omega)); (try have hz2 : w.heap.size + 2 < w1.heap.size := (by omega)); (try have hz3 : w.heap.size + 3 < w1.heap.size := (by omega)); (try have hza : wa.heap.size < w1.heap.size := (by omega)); (try have hza1 : wa.heap.size + 1 < w1.heap.size := (by omega)); (try have hzb : wb.heap.size < w1.heap.size := (by omega)); (try have hzb1 : wb.heap.size + 1 < w1.heap.size := (by omega)); (try have hzc : wc.heap.size < w1.heap.size := (by omega)); (try have hzd : wd.heap.size < w1.heap.size := (by omega))) | (go_at_call 37; ((with_reducible refine (HT'.out _).mono ?_); rintro e w1 ⟨⟨v, rfl, rfl⟩, hb⟩); have hu2 : ∀ n : Nat, n < n + 1 + 1 := (fun n => by omega); have hu3 : ∀ n : Nat, n < n + 1 + 1 + 1 := (fun n => by omega); obtain ⟨hc, hfz⟩ := bcell hb; (try simp only [World.heap_drewN] at hc hfz); have hs_ := hb.size; (try simp at hs_); (try have hz0 : w.heap.size < w1.heap.size := (by omega)); (try have hz1 : w.heap.size + 1 < w1.heap.size := (by omega)); (try have hz2 : w.heap.size + 2 < w1.heap.size := (by omega)); (try have hz3 : w.heap.size + 3 < w1.heap.size := (by omega)); (try have hza : wa.heap.size < w1.heap.size := (by omega)); (try have hza1 : wa.heap.size + 1 < w1.heap.size := (by omega)); (try have hzb : wb.heap.size < w1.heap.size := (by omega)); (try have hzb1 : wb.heap.size + 1 < w1.heap.size := (by omega)); (try have hzc : wc.heap.size < w1.heap.size := (by omega)); (try have hzd : wd.heap.size < w1.heap.size := (by omega))))
    all_goals (go_ret2; exact ⟨rfl, by (with_reducible repeat (first | exact Below.refl _ _ | apply below_alloc | apply below_dN | apply below_d | refine below_setCell ?_ (by dsimp only; omega) | refine below_call (by assumption) ?_))⟩)

set_option maxRecDepth 100000 in
set_option maxHeartbeats 4000000 in
theorem iKeysBad2 (x y x' y' X Y X' Y' z : Nat) (hx : cn .f32 x = X) (hy : cn .f32 y = Y) (hx' : cn .f32 x' = X') (hy' : cn .f32 y' = Y') (hv : vplace X Y = true) (hv' : vplace X' Y' = true) (hz : z ≤ 20) (hm : ¬ (tY X z ≤ tY X' z ∧ kWide Y Y' z * (tY X' z - tY X z + 1) ≤ 64)) (w : World) :
    Calls Try.prog 15 #[.agg #[.float .f32 x, .float .f32 y], .agg #[.float .f32 x', .float .f32 y'], .int .i64 z] w fun e w' => e = .returned (.tuple #[.slice none 0 0, .bool false]) ∧ Below w.heap.size w w' := by
  have hzz := isZoom_c (z : Int)
  rw [show zoomOk (z : Int) = true by simp [zoomOk]; omega] at hzz
  have HZ := Lib.hid hzz
  have b1 := tX_lt (z := z) hv hz
  have b2 := tY_lt (z := z) hv hz
  have b3 := tX_lt (z := z) hv' hz
  have b4 := tY_lt (z := z) hv' hz
  have hp := pow_le_20 hz
  have HT := Lib.hid (tileOf_c x y X Y z (by omega) hx hy hv)
  have HT' := Lib.hid (tileOf_c x' y' X' Y' z (by omega) hx' hy' hv')
  unfold tileV at HT HT'
  have hsh : IntKind.i64.wrap ((2 : Int) ^ z) = ((2 ^ z : Nat) : Int) := by rw [IntKind.wrap_i64, show ((2 : Int) ^ z) = ((2 ^ z : Nat) : Int) by simp]; omega
  obtain ⟨W, hW⟩ : ∃ W, kWide Y Y' z = W := ⟨_, rfl⟩
  have hW2 := hW
  unfold kWide at hW2
  obtain ⟨N, hN⟩ : ∃ N, 2 ^ z = N := ⟨_, rfl⟩
  rw [hN] at b1 b2 b3 b4 hp hsh hW2
  obtain ⟨a, ha⟩ : ∃ a, tX Y z = a := ⟨_, rfl⟩
  obtain ⟨d, hd⟩ : ∃ d, tY X z = d := ⟨_, rfl⟩
  obtain ⟨b, hb0⟩ : ∃ b, tX Y' z = b := ⟨_, rfl⟩
  obtain ⟨e, he⟩ : ∃ e, tY X' z = e := ⟨_, rfl⟩
  rw [show tu Y / 2 ^ (24 - z) = a from ha, show tv X / 2 ^ (24 - z) = d from hd] at HT
  rw [show tu Y' / 2 ^ (24 - z) = b from hb0, show tv X' / 2 ^ (24 - z) = e from he] at HT'
  rw [ha, hb0] at hW2
  rw [ha] at b1
  rw [hd] at b2 hm
  rw [hb0] at b3
  rw [he] at b4 hm
  rw [hW] at hm
  clear hW hN ha hd hb0 he hzz
  have hWN : W ≤ N := by rw [← hW2]; have := Nat.mod_lt (b + N - a) (show 0 < N by omega); omega
  have hE0 : ((b : Int) - (a : Int)) % (N : Int) + 1 = (W : Int) := by
    rw [← hW2]
    have h9 : (((b + N - a) % N : Nat) : Int) = ((b : Int) - a) % N := by
      rw [Int.natCast_emod, show ((b + N - a : Nat) : Int) = ((b : Int) - a) + N by omega, Int.add_emod_right]
    omega
  have hE : wrap64 (((b : Int) - (a : Int)) % (N : Int) + 1) = (W : Int) := by
    rw [hE0]
    unfold wrap64
    omega
  by_cases hle : d ≤ e
  · obtain ⟨t, ht⟩ : ∃ t : Nat, e - d + 1 = t := ⟨_, rfl⟩
    have hT2 : (e : Int) - (d : Int) + 1 = (t : Int) := by omega
    rw [ht] at hm
    have hm1 : 64 < W * t := by
      rcases Nat.lt_or_ge 64 (W * t) with h | h
      · exact h
      · exact absurd ⟨hle, h⟩ hm
    have hm3 : W * t ≤ 1048576 * 1048576 := Nat.mul_le_mul (by omega) (by omega)
    have hm2 : (64 : Int) < (W : Int) * (t : Int) := by rw [← Int.natCast_mul]; omega
    have hm4 : (W : Int) * (t : Int) ≤ 1099511627776 := by rw [← Int.natCast_mul]; omega
    have hm5 : wrap64 ((W : Int) * (t : Int)) = (W : Int) * (t : Int) := by unfold wrap64; omega
    have hed : ¬ ((e : Int) < (d : Int)) := by omega
    have ht1 : 1 ≤ t := by omega
    clear hm hm1 hm3 hm4
    go_enter Try.func15, Try.ntmps15
    go_upto_region 3 with (first | (go_at_call 40; ((with_reducible refine (areV2 hx hy hx' hy' _ _ (by simp)).mono ?_); rintro e w1 ⟨⟨v, rfl, rfl⟩, hb⟩); have hu2 : ∀ n : Nat, n < n + 1 + 1 := (fun n => by omega); have hu3 : ∀ n : Nat, n < n + 1 + 1 + 1 := (fun n => by omega); obtain ⟨hc, hfz⟩ := bcell hb; (try simp only [World.heap_drewN] at hc hfz); have hs_ := hb.size; (try simp at hs_); (try have hz0 : w.heap.size < w1.heap.size := (by omega)); (try have hz1 : w.heap.size + 1 < w1.heap.size := (by omega)); (try have hz2 : w.heap.size + 2 < w1.heap.size := (by omega)); (try have hz3 : w.heap.size + 3 < w1.heap.size := (by omega)); (try have hza : wa.heap.size < w1.heap.size := (by omega)); (try have hza1 : wa.heap.size + 1 < w1.heap.size := (by omega)); (try have hzb : wb.heap.size < w1.heap.size := (by omega)); (try have hzb1 : wb.heap.size + 1 < w1.heap.size := (by omega)); (try have hzc : wc.heap.size < w1.heap.size := (by omega)); (try have hzd : wd.heap.size < w1.heap.size := (by omega))) | (go_at_call 33; (with_reducible refine (HZ.out _).mono ?_); rintro e w' ⟨rfl, rfl⟩))
    go_wp2_with (first | (go_at_call 39; ((with_reducible refine (HT.out _).mono ?_); rintro e w1 ⟨⟨v, rfl, rfl⟩, hb⟩); have hu2 : ∀ n : Nat, n < n + 1 + 1 := (fun n => by omega); have hu3 : ∀ n : Nat, n < n + 1 + 1 + 1 := (fun n => by omega); obtain ⟨hc, hfz⟩ := bcell hb; (try simp only [World.heap_drewN] at hc hfz); have hs_ := hb.size; (try simp at hs_); (try have hz0 : w.heap.size < w1.heap.size := (by omega)); (try have hz1 : w.heap.size + 1 < w1.heap.size := (by omega)); (try have hz2 : w.heap.size + 2 < w1.heap.size := (by omega)); (try have hz3 : w.heap.size + 3 < w1.heap.size := (by omega)); (try have hza : wa.heap.size < w1.heap.size := (by omega)); (try have hza1 : wa.heap.size + 1 < w1.heap.size := (by omega)); (try have hzb : wb.heap.size < w1.heap.size := (by omega)); (try have hzb1 : wb.heap.size + 1 < w1.heap.size := (by omega)); (try have hzc : wc.heap.size < w1.heap.size := (by omega)); (try have hzd : wd.heap.size < w1.heap.size := (by omega))) | (go_at_call 39; ((with_reducible refine (HT'.out _).mono ?_); rintro e w1 ⟨⟨v, rfl, rfl⟩, hb⟩); have hu2 : ∀ n : Nat, n < n + 1 + 1 := (fun n => by omega); have hu3 : ∀ n : Nat, n < n + 1 + 1 + 1 := (fun n => by omega); obtain ⟨hc, hfz⟩ := bcell hb; (try simp only [World.heap_drewN] at hc hfz); have hs_ := hb.size; (try simp at hs_); (try have hz0 : w.heap.size < w1.heap.size := (by omega)); (try have hz1 : w.heap.size + 1 < w1.heap.size := (by omega)); (try have hz2 : w.heap.size + 2 < w1.heap.size := (by omega)); (try have hz3 : w.heap.size + 3 < w1.heap.size := (by omega)); (try have hza : wa.heap.size < w1.heap.size := (by omega)); (try have hza1 : wa.heap.size + 1 < w1.heap.size := (by omega)); (try have hzb : wb.heap.size < w1.heap.size := (by omega)); (try have hzb1 : wb.heap.size + 1 < w1.heap.size := (by omega)); (try have hzc : wc.heap.size < w1.heap.size := (by omega)); (try have hzd : wd.heap.size < w1.heap.size := (by omega))))
    all_goals (go_ret2; exact ⟨rfl, by (with_reducible repeat (first | exact Below.refl _ _ | apply below_alloc | apply below_dN | apply below_d | refine below_setCell ?_ (by dsimp only; omega) | refine below_call (by assumption) ?_))⟩)
  · have hed : (e : Int) < (d : Int) := by omega
    have hT3 : (e : Int) - (d : Int) + 1 < 1 := by omega
    clear hm
    go_enter Try.func15, Try.ntmps15
    go_upto_region 3 with (first | (go_at_call 40; ((with_reducible refine (areV2 hx hy hx' hy' _ _ (by simp)).mono ?_); rintro e w1 ⟨⟨v, rfl, rfl⟩, hb⟩); have hu2 : ∀ n : Nat, n < n + 1 + 1 := (fun n => by omega); have hu3 : ∀ n : Nat, n < n + 1 + 1 + 1 := (fun n => by omega); obtain ⟨hc, hfz⟩ := bcell hb; (try simp only [World.heap_drewN] at hc hfz); have hs_ := hb.size; (try simp at hs_); (try have hz0 : w.heap.size < w1.heap.size := (by omega)); (try have hz1 : w.heap.size + 1 < w1.heap.size := (by omega)); (try have hz2 : w.heap.size + 2 < w1.heap.size := (by omega)); (try have hz3 : w.heap.size + 3 < w1.heap.size := (by omega)); (try have hza : wa.heap.size < w1.heap.size := (by omega)); (try have hza1 : wa.heap.size + 1 < w1.heap.size := (by omega)); (try have hzb : wb.heap.size < w1.heap.size := (by omega)); (try have hzb1 : wb.heap.size + 1 < w1.heap.size := (by omega)); (try have hzc : wc.heap.size < w1.heap.size := (by omega)); (try have hzd : wd.heap.size < w1.heap.size := (by omega))) | (go_at_call 33; (with_reducible refine (HZ.out _).mono ?_); rintro e w' ⟨rfl, rfl⟩))
    go_wp2_with (first | (go_at_call 39; ((with_reducible refine (HT.out _).mono ?_); rintro e w1 ⟨⟨v, rfl, rfl⟩, hb⟩); have hu2 : ∀ n : Nat, n < n + 1 + 1 := (fun n => by omega); have hu3 : ∀ n : Nat, n < n + 1 + 1 + 1 := (fun n => by omega); obtain ⟨hc, hfz⟩ := bcell hb; (try simp only [World.heap_drewN] at hc hfz); have hs_ := hb.size; (try simp at hs_); (try have hz0 : w.heap.size < w1.heap.size := (by omega)); (try have hz1 : w.heap.size + 1 < w1.heap.size := (by omega)); (try have hz2 : w.heap.size + 2 < w1.heap.size := (by omega)); (try have hz3 : w.heap.size + 3 < w1.heap.size := (by omega)); (try have hza : wa.heap.size < w1.heap.size := (by omega)); (try have hza1 : wa.heap.size + 1 < w1.heap.size := (by omega)); (try have hzb : wb.heap.size < w1.heap.size := (by omega)); (try have hzb1 : wb.heap.size + 1 < w1.heap.size := (by omega)); (try have hzc : wc.heap.size < w1.heap.size := (by omega)); (try have hzd : wd.heap.size < w1.heap.size := (by omega))) | (go_at_call 39; ((with_reducible refine (HT'.out _).mono ?_); rintro e w1 ⟨⟨v, rfl, rfl⟩, hb⟩); have hu2 : ∀ n : Nat, n < n + 1 + 1 := (fun n => by omega); have hu3 : ∀ n : Nat, n < n + 1 + 1 + 1 := (fun n => by omega); obtain ⟨hc, hfz⟩ := bcell hb; (try simp only [World.heap_drewN] at hc hfz); have hs_ := hb.size; (try simp at hs_); (try have hz0 : w.heap.size < w1.heap.size := (by omega)); (try have hz1 : w.heap.size + 1 < w1.heap.size := (by omega)); (try have hz2 : w.heap.size + 2 < w1.heap.size := (by omega)); (try have hz3 : w.heap.size + 3 < w1.heap.size := (by omega)); (try have hza : wa.heap.size < w1.heap.size := (by omega)); (try have hza1 : wa.heap.size + 1 < w1.heap.size := (by omega)); (try have hzb : wb.heap.size < w1.heap.size := (by omega)); (try have hzb1 : wb.heap.size + 1 < w1.heap.size := (by omega)); (try have hzc : wc.heap.size < w1.heap.size := (by omega)); (try have hzd : wd.heap.size < w1.heap.size := (by omega))))
    all_goals (go_ret2; exact ⟨rfl, by (with_reducible repeat (first | exact Below.refl _ _ | apply below_alloc | apply below_dN | apply below_d | refine below_setCell ?_ (by dsimp only; omega) | refine below_call (by assumption) ?_))⟩)

/-- Whether the keys are given, and which. -/
def kOk (X Y X' Y' : Nat) (z : Int) : Bool := ((vplace X Y && vplace X' Y') && zoomOk z) && decide (tY X z.toNat ≤ tY X' z.toNat ∧ kWide Y Y' z.toNat * (tY X' z.toNat - tY X z.toNat + 1) ≤ 64)
def kAll (X Y X' Y' : Nat) (z : Int) : List Value := if kOk X Y X' Y' z = true then kL z.toNat (tX Y z.toNat) (2 ^ z.toNat) (tY X z.toNat) (kWide Y Y' z.toNat) (kWide Y Y' z.toNat * (tY X' z.toNat - tY X z.toNat + 1)) else []

theorem sKeys_c (x y x' y' X Y X' Y' : Nat) (z : Int) (hx : cn .f32 x = X) (hy : cn .f32 y = Y) (hx' : cn .f32 x' = X') (hy' : cn .f32 y' = Y') (w : World) :
    Calls Try.prog 14 #[.agg #[.float .f32 x, .float .f32 y], .agg #[.float .f32 x', .float .f32 y'], .int .i64 z] w fun e w' => ∃ v, e = .returned (.tuple #[v, .bool (kOk X Y X' Y' z)]) ∧ w'.ownsRow w.heap.size 9 1 v (kAll X Y X' Y' z).length (kAll X Y X' Y' z) ∧ Below w.heap.size w w' := by
  cases hg : ((vplace X Y && vplace X' Y') && zoomOk z)
  · have e1 : kOk X Y X' Y' z = false := by unfold kOk; rw [hg]; rfl
    have e2 : kAll X Y X' Y' z = [] := by unfold kAll; rw [e1]; rfl
    rw [e1, e2]
    exact (sKeysBad x y x' y' X Y X' Y' z hx hy hx' hy' hg w).mono fun e w' ⟨h1, h2⟩ => ⟨_, h1, ⟨rfl, .inl ⟨rfl, rfl⟩⟩, h2⟩
  · have hg' := hg
    simp only [Bool.and_eq_true] at hg'
    obtain ⟨⟨hv, hv'⟩, hz⟩ := hg'
    simp only [zoomOk, Bool.and_eq_true, decide_eq_true_eq] at hz
    obtain ⟨m, rfl⟩ : ∃ m : Nat, z = m := ⟨z.toNat, by omega⟩
    by_cases hf : tY X m ≤ tY X' m ∧ kWide Y Y' m * (tY X' m - tY X m + 1) ≤ 64
    · have e1 : kOk X Y X' Y' m = true := by unfold kOk; rw [hg, Int.toNat_natCast, decide_eq_true hf]; rfl
      have e2 : kAll X Y X' Y' m = kL m (tX Y m) (2 ^ m) (tY X m) (kWide Y Y' m) (kWide Y Y' m * (tY X' m - tY X m + 1)) := by unfold kAll; rw [e1, Int.toNat_natCast]; rfl
      rw [e1, e2, kL_len]
      exact sKeysOk_c x y x' y' X Y X' Y' m hx hy hx' hy' hv hv' (by omega) hf.1 hf.2 w
    · have e1 : kOk X Y X' Y' m = false := by unfold kOk; rw [hg, Int.toNat_natCast, decide_eq_false hf]; rfl
      have e2 : kAll X Y X' Y' m = [] := by unfold kAll; rw [e1]; rfl
      rw [e1, e2]
      exact (sKeysBad2 x y x' y' X Y X' Y' m hx hy hx' hy' hv hv' (by omega) hf w).mono fun e w' ⟨h1, h2⟩ => ⟨_, h1, ⟨rfl, .inl ⟨rfl, rfl⟩⟩, h2⟩

theorem iKeys_c (x y x' y' X Y X' Y' : Nat) (z : Int) (hx : cn .f32 x = X) (hy : cn .f32 y = Y) (hx' : cn .f32 x' = X') (hy' : cn .f32 y' = Y') (w : World) :
    Calls Try.prog 15 #[.agg #[.float .f32 x, .float .f32 y], .agg #[.float .f32 x', .float .f32 y'], .int .i64 z] w fun e w' => ∃ v, e = .returned (.tuple #[v, .bool (kOk X Y X' Y' z)]) ∧ w'.ownsRow w.heap.size 9 1 v (kAll X Y X' Y' z).length (kAll X Y X' Y' z) ∧ Below w.heap.size w w' := by
  cases hg : ((vplace X Y && vplace X' Y') && zoomOk z)
  · have e1 : kOk X Y X' Y' z = false := by unfold kOk; rw [hg]; rfl
    have e2 : kAll X Y X' Y' z = [] := by unfold kAll; rw [e1]; rfl
    rw [e1, e2]
    exact (iKeysBad x y x' y' X Y X' Y' z hx hy hx' hy' hg w).mono fun e w' ⟨h1, h2⟩ => ⟨_, h1, ⟨rfl, .inl ⟨rfl, rfl⟩⟩, h2⟩
  · have hg' := hg
    simp only [Bool.and_eq_true] at hg'
    obtain ⟨⟨hv, hv'⟩, hz⟩ := hg'
    simp only [zoomOk, Bool.and_eq_true, decide_eq_true_eq] at hz
    obtain ⟨m, rfl⟩ : ∃ m : Nat, z = m := ⟨z.toNat, by omega⟩
    by_cases hf : tY X m ≤ tY X' m ∧ kWide Y Y' m * (tY X' m - tY X m + 1) ≤ 64
    · have e1 : kOk X Y X' Y' m = true := by unfold kOk; rw [hg, Int.toNat_natCast, decide_eq_true hf]; rfl
      have e2 : kAll X Y X' Y' m = kL m (tX Y m) (2 ^ m) (tY X m) (kWide Y Y' m) (kWide Y Y' m * (tY X' m - tY X m + 1)) := by unfold kAll; rw [e1, Int.toNat_natCast]; rfl
      rw [e1, e2, kL_len]
      exact iKeysOk_c x y x' y' X Y X' Y' m hx hy hx' hy' hv hv' (by omega) hf.1 hf.2 w
    · have e1 : kOk X Y X' Y' m = false := by unfold kOk; rw [hg, Int.toNat_natCast, decide_eq_false hf]; rfl
      have e2 : kAll X Y X' Y' m = [] := by unfold kAll; rw [e1]; rfl
      rw [e1, e2]
      exact (iKeysBad2 x y x' y' X Y X' Y' m hx hy hx' hy' hv hv' (by omega) hf w).mono fun e w' ⟨h1, h2⟩ => ⟨_, h1, ⟨rfl, .inl ⟨rfl, rfl⟩⟩, h2⟩
end Go.Proofs.Yteecbhmgogndaaa
