/- Contract of impl.KeysIn for good arguments. No condition. -/
import Derived.Test.YteecbhmgogndaaaKeysIn
import Derived.Test.YteecbhmgogndaaaSide
namespace Go.Proofs.Yteecbhmgogndaaa
open Go.RowKit
set_option linter.unusedSimpArgs false

def pl2 (a b : Nat) (j : Nat) : Nat := if j = 0 then a else b
theorem allP2 (A1 A2 B1 B2 : Nat) : allP (pl2 A1 B1) (pl2 A2 B2) 2 = (vplace A1 A2 && vplace B1 B2) := by
  simp [allP, pl2, List.range, List.range.loop]
theorem areV2 {t : TypeId} {x y x' y' X Y X' Y' : Nat} (hx : cn .f32 x = X) (hy : cn .f32 y = Y) (hx' : cn .f32 x' = X') (hy' : cn .f32 y' = Y') (b : Nat) (w : World) (hb : b = w.heap.size) :
    Calls Try.prog 40 #[.slice (some ⟨b, 0, none⟩) 2 2] (w.alloc (.cells #[.float .f32 x, .float .f32 y, .float .f32 x', .float .f32 y'] t)) (Ret (RV (.bool (vplace X Y && vplace X' Y'))) (w.alloc (.cells #[.float .f32 x, .float .f32 y, .float .f32 x', .float .f32 y'] t))) := by
  subst hb
  have hh := heap_alloc_new w (.cells #[.float .f32 x, .float .f32 y, .float .f32 x', .float .f32 y'] t)
  rw [← allP2]
  refine areValid_c w.heap.size 2 2 _ _ _ (heap_lt hh) (by decide) fun j hj => ?_
  match j, hj with
  | 0, _ => exact ⟨x, y, cell_built hh rfl, cell_built hh rfl, hx, hy⟩
  | 1, _ => exact ⟨x', y', cell_built hh rfl, cell_built hh rfl, hx', hy'⟩

set_option maxRecDepth 100000 in
set_option maxHeartbeats 4000000 in
theorem iKeysOk_c (x y x' y' X Y X' Y' z : Nat) (hx : cn .f32 x = X) (hy : cn .f32 y = Y) (hx' : cn .f32 x' = X') (hy' : cn .f32 y' = Y') (hv : vplace X Y = true) (hv' : vplace X' Y' = true) (hz : z ≤ 20) (hle : tY X z ≤ tY X' z) (hm : kWide Y Y' z * (tY X' z - tY X z + 1) ≤ 64) (w : World) :
    Calls Try.prog 15 #[.agg #[.float .f32 x, .float .f32 y], .agg #[.float .f32 x', .float .f32 y'], .int .i64 z] w fun e w' => ∃ v, e = .returned (.tuple #[v, .bool true]) ∧ w'.ownsRow w.heap.size 9 1 v (kWide Y Y' z * (tY X' z - tY X z + 1)) (kL z (tX Y z) (2 ^ z) (tY X z) (kWide Y Y' z) (kWide Y Y' z * (tY X' z - tY X z + 1))) ∧ Below w.heap.size w w' := by
  have hzz := isZoom_c (z : Int)
  rw [show zoomOk (z : Int) = true by simp [zoomOk]; omega] at hzz
  have HZ := Lib.hid hzz
  have b1 := tX_lt (z := z) hv hz
  have b2 := tY_lt (z := z) hv hz
  have b3 := tX_lt (z := z) hv' hz
  have b4 := tY_lt (z := z) hv' hz
  have hp := pow_le_20 hz
  have HT := Lib.hid (tileOf_c x y X Y z (by omega) hx hy hv)
  have HT' := Lib.hid (tileOf_c x' y' X' Y' z (by omega) hx' hy' hv')
  unfold tileV at HT HT'
  have hsh : IntKind.i64.wrap ((2 : Int) ^ z) = ((2 ^ z : Nat) : Int) := by rw [IntKind.wrap_i64, show ((2 : Int) ^ z) = ((2 ^ z : Nat) : Int) by simp]; omega
  obtain ⟨W, hW⟩ : ∃ W, kWide Y Y' z = W := ⟨_, rfl⟩
  have hW2 := hW
  unfold kWide at hW2
  obtain ⟨N, hN⟩ : ∃ N, 2 ^ z = N := ⟨_, rfl⟩
  rw [hN] at b1 b2 b3 b4 hp hsh hW2
  obtain ⟨a, ha⟩ : ∃ a, tX Y z = a := ⟨_, rfl⟩
  obtain ⟨d, hd⟩ : ∃ d, tY X z = d := ⟨_, rfl⟩
  obtain ⟨b, hb0⟩ : ∃ b, tX Y' z = b := ⟨_, rfl⟩
  obtain ⟨e, he⟩ : ∃ e, tY X' z = e := ⟨_, rfl⟩
  rw [show tu Y / 2 ^ (24 - z) = a from ha, show tv X / 2 ^ (24 - z) = d from hd] at HT
  rw [show tu Y' / 2 ^ (24 - z) = b from hb0, show tv X' / 2 ^ (24 - z) = e from he] at HT'
  rw [ha, hb0] at hW2
  rw [ha] at b1
  rw [hd] at b2 hle hm
  rw [hb0] at b3
  rw [he] at b4 hle hm
  rw [hW] at hm
  rw [hW, hN, ha, hd, he]
  clear hW hN ha hd hb0 he hzz
  have hWN : W ≤ N := by rw [← hW2]; have := Nat.mod_lt (b + N - a) (show 0 < N by omega); omega
  have hE0 : ((b : Int) - (a : Int)) % (N : Int) + 1 = (W : Int) := by
    rw [← hW2]
    have h9 : (((b + N - a) % N : Nat) : Int) = ((b : Int) - a) % N := by
      rw [Int.natCast_emod, show ((b + N - a : Nat) : Int) = ((b : Int) - a) + N by omega, Int.add_emod_right]
    omega
  have hmod : ((b : Int) - (a : Int) + (N : Int)) % (N : Int) = ((b : Int) - (a : Int)) % (N : Int) := Int.add_emod_right _ _
  have hE : wrap64 (((b : Int) - (a : Int)) % (N : Int) + 1) = (W : Int) := by
    rw [hE0]
    unfold wrap64
    omega
  obtain ⟨t, ht⟩ : ∃ t : Nat, e - d + 1 = t := ⟨_, rfl⟩
  have hT2 : (e : Int) - (d : Int) + 1 = (t : Int) := by omega
  rw [ht] at hm ⊢
  have hm2 : (W : Int) * (t : Int) ≤ 64 := by rw [← Int.natCast_mul]; omega
  have ht1 : 1 ≤ t := by omega
  have hW1 : 1 ≤ W := by omega
  have ht64 : t ≤ 64 := Nat.le_trans (Nat.le_mul_of_pos_left t hW1) hm
  have hW64 : W ≤ 64 := Nat.le_trans (Nat.le_mul_of_pos_right W ht1) hm
  go_enter Try.func15, Try.ntmps15
  go_upto_region 3 with (first | (go_at_call 40; ((with_reducible refine (areV2 hx hy hx' hy' _ _ (by simp)).mono ?_); rintro e w1 ⟨⟨v, rfl, rfl⟩, hb⟩); have hu2 : ∀ n : Nat, n < n + 1 + 1 := (fun n => by omega); have hu3 : ∀ n : Nat, n < n + 1 + 1 + 1 := (fun n => by omega); obtain ⟨hc, hfz⟩ := bcell hb; (try simp only [World.heap_drewN] at hc hfz); have hs_ := hb.size; (try simp at hs_); (try have hz0 : w.heap.size < w1.heap.size := (by omega)); (try have hz1 : w.heap.size + 1 < w1.heap.size := (by omega)); (try have hz2 : w.heap.size + 2 < w1.heap.size := (by omega)); (try have hz3 : w.heap.size + 3 < w1.heap.size := (by omega)); (try have hza : wa.heap.size < w1.heap.size := (by omega)); (try have hza1 : wa.heap.size + 1 < w1.heap.size := (by omega)); (try have hzb : wb.heap.size < w1.heap.size := (by omega)); (try have hzb1 : wb.heap.size + 1 < w1.heap.size := (by omega)); (try have hzc : wc.heap.size < w1.heap.size := (by omega)); (try have hzd : wd.heap.size < w1.heap.size := (by omega))) | (go_at_call 33; (with_reducible refine (HZ.out _).mono ?_); rintro e w' ⟨rfl, rfl⟩))
  go_wp2_with (first | (go_at_call 39; ((with_reducible refine (HT.out _).mono ?_); rintro e w1 ⟨⟨v, rfl, rfl⟩, hb⟩); have hu2 : ∀ n : Nat, n < n + 1 + 1 := (fun n => by omega); have hu3 : ∀ n : Nat, n < n + 1 + 1 + 1 := (fun n => by omega); obtain ⟨hc, hfz⟩ := bcell hb; (try simp only [World.heap_drewN] at hc hfz); have hs_ := hb.size; (try simp at hs_); (try have hz0 : w.heap.size < w1.heap.size := (by omega)); (try have hz1 : w.heap.size + 1 < w1.heap.size := (by omega)); (try have hz2 : w.heap.size + 2 < w1.heap.size := (by omega)); (try have hz3 : w.heap.size + 3 < w1.heap.size := (by omega)); (try have hza : wa.heap.size < w1.heap.size := (by omega)); (try have hza1 : wa.heap.size + 1 < w1.heap.size := (by omega)); (try have hzb : wb.heap.size < w1.heap.size := (by omega)); (try have hzb1 : wb.heap.size + 1 < w1.heap.size := (by omega)); (try have hzc : wc.heap.size < w1.heap.size := (by omega)); (try have hzd : wd.heap.size < w1.heap.size := (by omega))) | (go_at_call 39; ((with_reducible refine (HT'.out _).mono ?_); rintro e w1 ⟨⟨v, rfl, rfl⟩, hb⟩); have hu2 : ∀ n : Nat, n < n + 1 + 1 := (fun n => by omega); have hu3 : ∀ n : Nat, n < n + 1 + 1 + 1 := (fun n => by omega); obtain ⟨hc, hfz⟩ := bcell hb; (try simp only [World.heap_drewN] at hc hfz); have hs_ := hb.size; (try simp at hs_); (try have hz0 : w.heap.size < w1.heap.size := (by omega)); (try have hz1 : w.heap.size + 1 < w1.heap.size := (by omega)); (try have hz2 : w.heap.size + 2 < w1.heap.size := (by omega)); (try have hz3 : w.heap.size + 3 < w1.heap.size := (by omega)); (try have hza : wa.heap.size < w1.heap.size := (by omega)); (try have hza1 : wa.heap.size + 1 < w1.heap.size := (by omega)); (try have hzb : wb.heap.size < w1.heap.size := (by omega)); (try have hzb1 : wb.heap.size + 1 < w1.heap.size := (by omega)); (try have hzc : wc.heap.size < w1.heap.size := (by omega)); (try have hzd : wd.heap.size < w1.heap.size := (by omega))))
  obtain ⟨i0, hi, hI0, hI1, hI2⟩ := info_parts info_str
  have hBs : Below w.heap.size w w1 := by (with_reducible repeat (first | exact Below.refl _ _ | apply below_alloc | apply below_dN | apply below_d | refine below_setCell ?_ (by dsimp only; omega) | refine below_call (by assumption) ?_))
  have hs0 := hBs.size
  have hE0 : w1.ownsRow w.heap.size 9 1 (.slice none 0 0) 0 [] := ⟨rfl, .inl ⟨rfl, rfl⟩⟩
  go_loopw [15, 16] (fun v k wr => ∃ r : Nat, r ≤ t ∧ k = .int .i64 ((d : Int) + (r : Int)) ∧ wr.ownsRow w.heap.size 9 1 v (r * W) (kL z a N d W (r * W)) ∧ Below w.heap.size w wr) (fun _ k _ => (d + t) - (intOf k).toNat)
  case atStart => exact ⟨0, by omega, by simp, by rw [Nat.zero_mul]; exact hE0, by (with_reducible repeat (first | exact Below.refl _ _ | apply below_alloc | apply below_dN | apply below_d | refine below_setCell ?_ (by dsimp only; omega) | refine below_call (by assumption) ?_))⟩
  case round =>
    obtain ⟨r, hr, rfl, hown, hB⟩ := hrel
    by_cases hlt : r < t
    · have hle74 : ((d : Int) + (r : Int) ≤ (e : Int)) := by omega
      have hle75 : decide ((d : Int) + (r : Int) ≤ (e : Int)) = true := decide_eq_true hle74
      go_wp2
      go_loopw [15, 77] (fun v k wx => ∃ i : Nat, i ≤ W ∧ k = .int .i64 i ∧ wx.ownsRow w.heap.size 9 1 v (r * W + i) (kL z a N d W (r * W + i)) ∧ Below w.heap.size w wx) (fun _ k _ => W - (intOf k).toNat)
      case atStart => exact ⟨0, by omega, rfl, hown, hB⟩
      case round =>
        obtain ⟨i, hi2, rfl, hown2, hB2⟩ := hrel
        by_cases hlt2 : i < W
        · have hkey := kyS_at z a N d W r i hlt2
          have hrW : r * W + i + 1 ≤ 64 := by
            have h1 : (r + 1) * W ≤ t * W := Nat.mul_le_mul_right _ (by omega)
            rw [Nat.succ_mul] at h1
            have h2 : t * W = W * t := Nat.mul_comm _ _
            omega
          have hk0 := iKey_c z ((a + i) % N) (d + r) (by omega) (by have := Nat.mod_lt (a + i) (show 0 < N by omega); omega) (by omega)
          rw [← hkey, Int.natCast_emod, Int.natCast_add, Int.natCast_add] at hk0
          have HK := Lib.hid hk0
          clear hk0
          obtain ⟨S, hS⟩ : ∃ S, kyS z a N d W (r * W + i) = S := ⟨_, rfl⟩
          have hL := kL_succ z a N d W (r * W + i)
          rw [hS] at HK hL
          have HL := Lib.hid hL
          have hB2s := hB2.size
          have HB2 := Lib.hid hB2
          clear hL hS hkey hB2
          go_wp2_with (first | (go_at_call 35; ((with_reducible refine (HK.out _).mono ?_); rintro e wk ⟨⟨v, rfl, rfl⟩, hb⟩); have hu2 : ∀ n : Nat, n < n + 1 + 1 := (fun n => by omega); have hu3 : ∀ n : Nat, n < n + 1 + 1 + 1 := (fun n => by omega); obtain ⟨hc, hfz⟩ := bcell hb; (try simp only [World.heap_drewN] at hc hfz); have hs_ := hb.size; (try simp at hs_); (try have hz0 : w.heap.size < wk.heap.size := (by omega)); (try have hz1 : w.heap.size + 1 < wk.heap.size := (by omega)); (try have hz2 : w.heap.size + 2 < wk.heap.size := (by omega)); (try have hz3 : w.heap.size + 3 < wk.heap.size := (by omega)); (try have hza : wa.heap.size < wk.heap.size := (by omega)); (try have hza1 : wa.heap.size + 1 < wk.heap.size := (by omega)); (try have hzb : wb.heap.size < wk.heap.size := (by omega)); (try have hzb1 : wb.heap.size + 1 < wk.heap.size := (by omega)); (try have hzc : wc.heap.size < wk.heap.size := (by omega)); (try have hzd : wd.heap.size < wk.heap.size := (by omega))) | (at_builtin; refine wpList_append_own _ rfl (.tmp 80) (.tmp 89) 32 rfl w.heap.size 9 i0 (.string ⟨#[]⟩) 1 16 Try.underlying32 hi hI0 hI1 hI2 rfl (by decide) _ _ _ rfl ((own_below hown2 hb).alloc _) ⟨wk.heap.size, 0, none⟩ 1 1 [.string S] rfl rfl (cell_one_new _ _ _) (by intro u hu; simp at hu; subst hu; rfl) (by unfold maxLen; omega) (by omega) (by simp; omega) ?_; intro v1 w5 hown5 hgrow5 hnil5))
          have hBk : Below w.heap.size w wk := HB2.out.trans (hb.mono hB2s)
          have hBks := hBk.size
          go_roundw
          case rel =>
            have hfin : Below w.heap.size w w5 := (hBk.alloc hBks _).grown hgrow5 (by simp; omega) (fun j hj => (hown2.lt j hj).1)
            have hL5 := HL.out
            first
              | exact ⟨i + 1, by omega, by go_num, by rw [← Nat.add_assoc, hL5]; exact hown5, hfin⟩
              | (simp only [Int.add_emod_right]
                 refine ⟨_, _, _, _, _, _, _, _, _, _, _, _, _, _, _, _, _, _, ?_, rfl⟩
                 exact ⟨i + 1, by omega, by go_num, by rw [← Nat.add_assoc, hL5]; exact hown5, hfin⟩)
          case measure => first | (simp [intOf]; done) | (simp [intOf]; omega)
        · obtain rfl : i = W := by omega
          go_wp2
          go_roundw
          case rel => exact ⟨r + 1, by omega, by go_num, by rw [Nat.succ_mul]; exact hown2, hB2⟩
          case measure => first | (simp [intOf]; done) | (simp [intOf]; omega)
    · obtain rfl : r = t := by omega
      go_wp2
      go_ret2
      exact ⟨_, rfl, by rw [Nat.mul_comm]; exact hown, hB⟩
end Go.Proofs.Yteecbhmgogndaaa
