/- A net without roads: what the program's routes are there. No condition. -/
import Derived.Test.YtpmeccjfjjklkaaRPi
import Derived.Test.YtpmeccjfjjklkaaRO
import Derived.Test.YtpmeccjfjjklkaaSSw
namespace Go.Proofs.Ytpmeccjfjjklkaa
open Go.RowKit
set_option linter.unusedSimpArgs false
set_option linter.unusedVariables false

set_option maxHeartbeats 1000000 in
theorem indexRd0_c (c pc n : Nat) (a b l : Nat → Int) (w : World) (hcl : w.cell? ⟨c, 0, none⟩ = some (.func (.func 50) #[] #[.pointer (some ⟨pc, 0, none⟩)])) (hpc : w.cell? ⟨pc, 0, none⟩ = some (.int .i64 ((n : Int) - 1))) :
    Calls Try.prog 87 #[.slice none 0 0, .func (.func 76) #[] #[.pointer (some ⟨c, 0, none⟩)]] w (Ret (fun v => ∃ k : Int, v = .int .i64 k ∧ decide (0 ≤ k) = !allB (rdOk n a b l) 0) w) := by
  have hclt : c < w.heap.size := block_lt_of_cell hcl
  have hpct : pc < w.heap.size := block_lt_of_cell hpc
  go_enter Try.func87, Try.ntmps87
  go_wp2
  go_loopw [8] (fun k wr => ∃ i : Nat, i ≤ 0 ∧ k = .int .i64 i ∧ (∀ j, j < i → rdOk n a b l j = true) ∧ Below w.heap.size w wr) (fun k _ => 0 - (intOf k).toNat)
  case atStart => exact ⟨0, by omega, rfl, by omega, by (with_reducible repeat (first | exact Below.refl _ _ | apply below_alloc | apply below_dN | apply below_d | refine below_setCell ?_ (by dsimp only; omega) | refine below_call (by assumption) ?_))⟩
  case round =>
    obtain ⟨i, hi, rfl, hall, hB⟩ := hrel
    have HA := Lib.hid hall
    clear hall
    by_cases hlt : i < 0
    · exact absurd hlt (by omega)
    · obtain rfl : i = 0 := by omega
      have HT := Lib.hid (allB_true HA.out)
      go_wp2
      go_ret
      exact ⟨⟨_, rfl, -1, rfl, by rw [HT.out]; simp⟩, by (with_reducible repeat (first | exact Below.refl _ _ | apply below_alloc | apply below_dN | apply below_d | refine below_setCell ?_ (by dsimp only; omega) | refine below_call (by assumption) ?_))⟩
set_option maxHeartbeats 400000 in
theorem contRd0_c (c pc n : Nat) (a b l : Nat → Int) (w : World) (hcl : w.cell? ⟨c, 0, none⟩ = some (.func (.func 50) #[] #[.pointer (some ⟨pc, 0, none⟩)])) (hpc : w.cell? ⟨pc, 0, none⟩ = some (.int .i64 ((n : Int) - 1))) :
    Calls Try.prog 75 #[.slice none 0 0, .func (.func 76) #[] #[.pointer (some ⟨c, 0, none⟩)]] w (Ret (RV (.bool (!allB (rdOk n a b l) 0))) w) := by
  have HC := Lib.hid (indexRd0_c c pc n a b l w hcl hpc)
  clear hcl hpc
  go_enter Try.func75, Try.ntmps75
  go_wp2_with (first | (go_at_call 87; ((with_reducible refine (HC.out).mono ?_); rintro e w1 ⟨⟨v, rfl, k, rfl, hk⟩, hb⟩)))
  go_ret
  exact ⟨⟨_, rfl, by simp [RV, hk]⟩, by (with_reducible repeat (first | exact Below.refl _ _ | apply below_alloc | apply below_dN | apply below_d | refine below_setCell ?_ (by dsimp only; omega) | refine below_call (by assumption) ?_))⟩
set_option maxHeartbeats 400000 in
theorem areAllRd0_c (pc n : Nat) (a b l : Nat → Int) (w : World) (hpc : w.cell? ⟨pc, 0, none⟩ = some (.int .i64 ((n : Int) - 1))) :
    Calls Try.prog 49 #[.slice none 0 0, .func (.func 50) #[] #[.pointer (some ⟨pc, 0, none⟩)]] w (Ret (RV (.bool (allB (rdOk n a b l) 0))) w) := by
  have hpct : pc < w.heap.size := block_lt_of_cell hpc
  have HC := Lib.hid (fun (w' : World) (hB : Below w.heap.size w w') (hcl : w'.cell? ⟨w.heap.size, 0, none⟩ = some (.func (.func 50) #[] #[.pointer (some ⟨pc, 0, none⟩)])) => contRd0_c w.heap.size pc n a b l w' hcl ((hB.cell (p := ⟨pc, 0, none⟩) hpct).trans hpc))
  clear hpc
  go_enter Try.func49, Try.ntmps49
  go_wp2_with (first | (go_at_call 75; ((with_reducible refine (HC.out _ (by (with_reducible repeat (first | exact Below.refl _ _ | apply below_alloc | apply below_dN | apply below_d | refine below_setCell ?_ (by dsimp only; omega) | refine below_call (by assumption) ?_))) (by simp)).mono ?_); rintro e w1 ⟨⟨v, rfl, rfl⟩, hb⟩)))
  go_ret
  exact ⟨⟨_, rfl, by simp [RV]⟩, by (with_reducible repeat (first | exact Below.refl _ _ | apply below_alloc | apply below_dN | apply below_d | refine below_setCell ?_ (by dsimp only; omega) | refine below_call (by assumption) ?_))⟩
set_option maxRecDepth 100000 in
set_option maxHeartbeats 1000000 in
theorem iValidNet0_c (g n cg : Nat) (X Y : Nat → Nat) (a b l : Nat → Int) (w : World) (hg : g < w.heap.size) (hn : n ≤ 1048576) (hP : PlCells w g n X Y) :
    Calls Try.prog 13 #[.agg #[.slice (some ⟨g, 0, none⟩) n cg, .slice none 0 0]] w (Ret (RV (.bool (netOk n 0 X Y a b l))) w) := by
  have HA := Lib.hid (fun (w' : World) (hB : Below w.heap.size w w') => iArePlaces_c g n cg X Y w' (Nat.lt_of_lt_of_le hg hB.size) hn (fun j hj => by
    obtain ⟨r, s, h1, h2, h3⟩ := hP j hj
    exact ⟨r, s, (hB.cell (p := ⟨g, j * 2, none⟩) hg).trans h1, (hB.cell (p := ⟨g, j * 2 + 1, none⟩) hg).trans h2, h3⟩))
  have HR := Lib.hid (fun (w' : World) (hB : Below w.heap.size w w') pc hpc => areAllRd0_c pc n a b l w' hpc)
  unfold netOk
  clear hP
  generalize arePl n X Y = q at HA
  generalize allB (rdOk n a b l) 0 = r at HR
  have hmd : decide (0 ≤ 64) = decide (((0 : Nat) : Int) ≤ 64) := by simp
  rw [hmd]
  cases q
  · go_enter Try.func13, Try.ntmps13
    go_wp2_with (first | (go_at_call 47; go_in) | (go_at_call 48; ((with_reducible refine (HA.out _ (by (with_reducible repeat (first | exact Below.refl _ _ | apply below_alloc | apply below_dN | apply below_d | refine below_setCell ?_ (by dsimp only; omega) | refine below_call (by assumption) ?_)))).mono ?_); rintro e w1 ⟨⟨v, rfl, rfl⟩, hb⟩); have hu2 : ∀ n : Nat, n < n + 1 + 1 := (fun n => by omega); have hu3 : ∀ n : Nat, n < n + 1 + 1 + 1 := (fun n => by omega); obtain ⟨hc, hfz⟩ := bcell hb; (try simp only [World.heap_drewN] at hc hfz); have hs_ := hb.size; (try simp at hs_); (try have hz0 : w.heap.size < w1.heap.size := (by omega)); (try have hz1 : w.heap.size + 1 < w1.heap.size := (by omega)); (try have hz2 : w.heap.size + 2 < w1.heap.size := (by omega)); (try have hz3 : w.heap.size + 3 < w1.heap.size := (by omega)); (try have hza : wa.heap.size < w1.heap.size := (by omega)); (try have hza1 : wa.heap.size + 1 < w1.heap.size := (by omega)); (try have hzb : wb.heap.size < w1.heap.size := (by omega)); (try have hzb1 : wb.heap.size + 1 < w1.heap.size := (by omega)); (try have hzc : wc.heap.size < w1.heap.size := (by omega)); (try have hzd : wd.heap.size < w1.heap.size := (by omega))))
    go_ret
    exact ⟨⟨_, rfl, rfl⟩, by (with_reducible repeat (first | exact Below.refl _ _ | apply below_alloc | apply below_dN | apply below_d | refine below_setCell ?_ (by dsimp only; omega) | refine below_call (by assumption) ?_))⟩
  · by_cases h64 : ((0 : Nat) : Int) ≤ 64
    · rw [decide_eq_true h64]
      go_enter Try.func13, Try.ntmps13
      go_wp2_with (first | (go_at_call 47; go_in) | (go_at_call 48; ((with_reducible refine (HA.out _ (by (with_reducible repeat (first | exact Below.refl _ _ | apply below_alloc | apply below_dN | apply below_d | refine below_setCell ?_ (by dsimp only; omega) | refine below_call (by assumption) ?_)))).mono ?_); rintro e w1 ⟨⟨v, rfl, rfl⟩, hb⟩); have hu2 : ∀ n : Nat, n < n + 1 + 1 := (fun n => by omega); have hu3 : ∀ n : Nat, n < n + 1 + 1 + 1 := (fun n => by omega); obtain ⟨hc, hfz⟩ := bcell hb; (try simp only [World.heap_drewN] at hc hfz); have hs_ := hb.size; (try simp at hs_); (try have hz0 : w.heap.size < w1.heap.size := (by omega)); (try have hz1 : w.heap.size + 1 < w1.heap.size := (by omega)); (try have hz2 : w.heap.size + 2 < w1.heap.size := (by omega)); (try have hz3 : w.heap.size + 3 < w1.heap.size := (by omega)); (try have hza : wa.heap.size < w1.heap.size := (by omega)); (try have hza1 : wa.heap.size + 1 < w1.heap.size := (by omega)); (try have hzb : wb.heap.size < w1.heap.size := (by omega)); (try have hzb1 : wb.heap.size + 1 < w1.heap.size := (by omega)); (try have hzc : wc.heap.size < w1.heap.size := (by omega)); (try have hzd : wd.heap.size < w1.heap.size := (by omega))) | (go_at_call 49; ((with_reducible refine (HR.out _ (by (with_reducible repeat (first | exact Below.refl _ _ | apply below_alloc | apply below_dN | apply below_d | refine below_setCell ?_ (by dsimp only; omega) | refine below_call (by assumption) ?_))) (w.heap.size + 1) (by first | assumption | (simp [hc]; done) | (go_simp; done))).mono ?_); rintro e w1 ⟨⟨v, rfl, rfl⟩, hb⟩); have hu2 : ∀ n : Nat, n < n + 1 + 1 := (fun n => by omega); have hu3 : ∀ n : Nat, n < n + 1 + 1 + 1 := (fun n => by omega); obtain ⟨hc, hfz⟩ := bcell hb; (try simp only [World.heap_drewN] at hc hfz); have hs_ := hb.size; (try simp at hs_); (try have hz0 : w.heap.size < w1.heap.size := (by omega)); (try have hz1 : w.heap.size + 1 < w1.heap.size := (by omega)); (try have hz2 : w.heap.size + 2 < w1.heap.size := (by omega)); (try have hz3 : w.heap.size + 3 < w1.heap.size := (by omega)); (try have hza : wa.heap.size < w1.heap.size := (by omega)); (try have hza1 : wa.heap.size + 1 < w1.heap.size := (by omega)); (try have hzb : wb.heap.size < w1.heap.size := (by omega)); (try have hzb1 : wb.heap.size + 1 < w1.heap.size := (by omega)); (try have hzc : wc.heap.size < w1.heap.size := (by omega)); (try have hzd : wd.heap.size < w1.heap.size := (by omega))))
      go_ret
      exact ⟨⟨_, rfl, rfl⟩, by (with_reducible repeat (first | exact Below.refl _ _ | apply below_alloc | apply below_dN | apply below_d | refine below_setCell ?_ (by dsimp only; omega) | refine below_call (by assumption) ?_))⟩
    · exact absurd (by omega) h64
set_option maxRecDepth 100000 in
set_option maxHeartbeats 1000000 in
theorem isStop0_c (g n cg : Nat) (X Y : Nat → Nat) (a b l : Nat → Int) (fr : Int) (w : World) (hg : g < w.heap.size) (hn : n ≤ 1048576) (hP : PlCells w g n X Y) :
    Calls Try.prog 62 #[.agg #[.slice (some ⟨g, 0, none⟩) n cg, .slice none 0 0], .int .i64 fr] w (Ret (RV (.bool (rlOk n 0 X Y a b l fr))) w) := by
  have HN := Lib.hid (fun (w' : World) (hB : Below w.heap.size w w') => iValidNet0_c g n cg X Y a b l w' (Nat.lt_of_lt_of_le hg hB.size) hn (hP.dn hg hB))
  have HI := Lib.hid (within_c fr 0 ((n : Int) - 1))
  unfold rlOk
  clear hP
  generalize netOk n 0 X Y a b l = q at HN
  cases q
  · go_enter Try.func62, Try.ntmps62
    go_wp2_with (first | (go_at_call 47; go_in) | (go_at_call 13; ((with_reducible refine (HN.out _ (by (with_reducible repeat (first | exact Below.refl _ _ | apply below_alloc | apply below_dN | apply below_d | refine below_setCell ?_ (by dsimp only; omega) | refine below_call (by assumption) ?_)))).mono ?_); rintro e w1 ⟨⟨v, rfl, rfl⟩, hb⟩); have hu2 : ∀ n : Nat, n < n + 1 + 1 := (fun n => by omega); have hu3 : ∀ n : Nat, n < n + 1 + 1 + 1 := (fun n => by omega); obtain ⟨hc, hfz⟩ := bcell hb; (try simp only [World.heap_drewN] at hc hfz); have hs_ := hb.size; (try simp at hs_); (try have hz0 : w.heap.size < w1.heap.size := (by omega)); (try have hz1 : w.heap.size + 1 < w1.heap.size := (by omega)); (try have hz2 : w.heap.size + 2 < w1.heap.size := (by omega)); (try have hz3 : w.heap.size + 3 < w1.heap.size := (by omega)); (try have hza : wa.heap.size < w1.heap.size := (by omega)); (try have hza1 : wa.heap.size + 1 < w1.heap.size := (by omega)); (try have hzb : wb.heap.size < w1.heap.size := (by omega)); (try have hzb1 : wb.heap.size + 1 < w1.heap.size := (by omega)); (try have hzc : wc.heap.size < w1.heap.size := (by omega)); (try have hzd : wd.heap.size < w1.heap.size := (by omega))))
    go_ret
    exact ⟨⟨_, rfl, by simp [RV]⟩, by (with_reducible repeat (first | exact Below.refl _ _ | apply below_alloc | apply below_dN | apply below_d | refine below_setCell ?_ (by dsimp only; omega) | refine below_call (by assumption) ?_))⟩
  · go_enter Try.func62, Try.ntmps62
    go_wp2_with (first | (go_at_call 47; go_in) | (go_at_call 13; ((with_reducible refine (HN.out _ (by (with_reducible repeat (first | exact Below.refl _ _ | apply below_alloc | apply below_dN | apply below_d | refine below_setCell ?_ (by dsimp only; omega) | refine below_call (by assumption) ?_)))).mono ?_); rintro e w1 ⟨⟨v, rfl, rfl⟩, hb⟩); have hu2 : ∀ n : Nat, n < n + 1 + 1 := (fun n => by omega); have hu3 : ∀ n : Nat, n < n + 1 + 1 + 1 := (fun n => by omega); obtain ⟨hc, hfz⟩ := bcell hb; (try simp only [World.heap_drewN] at hc hfz); have hs_ := hb.size; (try simp at hs_); (try have hz0 : w.heap.size < w1.heap.size := (by omega)); (try have hz1 : w.heap.size + 1 < w1.heap.size := (by omega)); (try have hz2 : w.heap.size + 2 < w1.heap.size := (by omega)); (try have hz3 : w.heap.size + 3 < w1.heap.size := (by omega)); (try have hza : wa.heap.size < w1.heap.size := (by omega)); (try have hza1 : wa.heap.size + 1 < w1.heap.size := (by omega)); (try have hzb : wb.heap.size < w1.heap.size := (by omega)); (try have hzb1 : wb.heap.size + 1 < w1.heap.size := (by omega)); (try have hzc : wc.heap.size < w1.heap.size := (by omega)); (try have hzd : wd.heap.size < w1.heap.size := (by omega))) | (go_at_call 51; ((with_reducible refine (HI.out _).mono ?_); rintro e w' ⟨rfl, rfl⟩)))
    go_ret
    exact ⟨⟨_, rfl, by simp [RV, frIn]⟩, by (with_reducible repeat (first | exact Below.refl _ _ | apply below_alloc | apply below_dN | apply below_d | refine below_setCell ?_ (by dsimp only; omega) | refine below_call (by assumption) ?_))⟩
set_option maxRecDepth 100000 in
set_option maxHeartbeats 8000000 in
theorem routes0_c (g n cg : Nat) (X Y : Nat → Nat) (a b l : Nat → Int) (fr : Nat) (w : World) (hfr : fr < n) (hk : netOk n 0 X Y a b l = true) :
    Calls Try.prog 63 #[.agg #[.slice (some ⟨g, 0, none⟩) n cg, .slice none 0 0], .int .i64 fr, .func (.func 64) #[] #[]] w fun e w' => ∃ q cap, e = .returned (.slice (some ⟨q, 0, none⟩) n cap) ∧ w.heap.size ≤ q ∧ Dr w' q n cap (rt n 0 (eN a) (eN b) l fr) ∧ Below w.heap.size w w' := by
  obtain ⟨⟨hn1, hn⟩, hm, hRd, hab⟩ := netOk_facts hk
  have HREP := Lib.hid (fun bx w hx => repeat_c bx n hn1 hn w hx)
  clear hk
  go_enter Try.func63, Try.ntmps63
  go_upto_region 2 with (go_at_call 78; (with_reducible refine (HREP.out (w.heap.size + 1) _ (by simp)).mono ?_); rintro e w1 ⟨q, rfl, hq, hF, hb1⟩)
  simp only [World.size_alloc] at hq
  obtain ⟨V, hV⟩ : ∃ V, w.alloc (.cells #[.slice (some ⟨g, 0, none⟩) n cg, .slice none 0 0] 31) = V := ⟨_, rfl⟩
  have hVs : V.heap.size = w.heap.size + 1 := by rw [← hV]; simp
  have hwV : Below w.heap.size w V := by rw [← hV]; (with_reducible repeat (first | exact Below.refl _ _ | apply below_alloc | apply below_dN | apply below_d | refine below_setCell ?_ (by dsimp only; omega) | refine below_call (by assumption) ?_))
  have nV : ntc V w.heap.size (.slice (some ⟨g, 0, none⟩) n cg) (.slice none 0 0) := by rw [← hV]; exact ntc.newAt rfl
  rw [hV] at hb1
  have hB1 : Below V.heap.size V w1 := (((Below.refl _ _).alloc (Nat.le_refl _) _).trans (hb1.mono (by simp)))
  have hD0 := fl_dr hF
  have z0 := hD0.cell hfr
  have z1 := hD0.fr fr
  have z2 := hD0.lt
  have HD1 := Lib.hid (hD0.set fr 0)
  have hqV : V.heap.size < q := by omega
  have HB1 := Lib.hid (hB1.setCell (p := ⟨q, fr, none⟩) (show V.heap.size ≤ q by omega) (.int .i64 0))
  have hNV := Lib.hid nV
  clear hb1 hB1 hF hD0 nV HREP
  go_wp2
  go_loopw [8] (fun fl wr => ∃ d c, fl = .bool c ∧ Dr wr q n n d ∧ Rel n 0 (eN a) (eN b) l (rt n 0 (eN a) (eN b) l fr) d c ∧ Below V.heap.size V wr) (fun fl wr => 2 * muw q n wr + bnat fl)
  case atStart => exact ⟨d0 fr, true, rfl, HD1.out.congr (fun j hj => rfl), Rel.start hfr, HB1.out⟩
  case round =>
    clear z0 z1 z2
    obtain ⟨d, c, rfl, hD, hRel, hBx⟩ := hrel
    have HRel := Lib.hid hRel
    have hNx := hNV.out.below hBx
    have n0 := hNx.c0
    have n1 := hNx.c1
    have n2 := hNx.lt
    have hmo := muw_eq hD
    cases c
    · have HD := Lib.hid hD
      have HBx := Lib.hid hBx
      clear hD hRel hBx hNx
      go_wp2
      go_ret
      exact ⟨q, n, rfl, by omega, by rw [← HRel.out.2.2 rfl]; exact HD.out, hwV.trans (HBx.out.mono (by omega))⟩
    · clear hRel hNx
      go_wp2
      clear n0 n1 n2
      go_loopw [8, 27] (fun fl kk wy => ∃ k : Nat, k ≤ 0 ∧ kk = .int .i64 k ∧ fl = .bool (ps (eN a) (eN b) l d k).2 ∧ Dr wy q n n (ps (eN a) (eN b) l d k).1 ∧ Below V.heap.size V wy) (fun _ kk _ => 0 - (intOf kk).toNat)
      case atStart => exact ⟨0, by omega, rfl, rfl, hD, hBx⟩
      case round =>
        clear hD hBx
        obtain ⟨k, hkm, rfl, rfl, hDk, hBk⟩ := hrel
        by_cases hlt2 : k < 0
        · exact absurd hlt2 (by omega)
        · obtain rfl : k = 0 := by omega
          have HFin := Lib.hid (HRel.out.pass hRd hn)
          have hpk := ps_ok hRd hn HRel.out.1 (Nat.le_refl 0)
          have hmw := muw_eq hDk
          have HDk := Lib.hid hDk
          have HBk := Lib.hid hBk
          clear hDk hBk
          generalize (ps (eN a) (eN b) l d 0).1 = d2 at *
          generalize (ps (eN a) (eN b) l d 0).2 = c2 at *
          go_wp2
          go_roundw
          case rel => exact ⟨d2, c2, rfl, HDk.out, HFin.out, HBk.out⟩
          case measure =>
            rw [hmw, hmo]
            obtain ⟨-, p2, p3, p4⟩ := hpk
            cases c2
            · show 2 * mu n d2 + 0 < 2 * mu n d + 1; omega
            · have := p3 rfl; show 2 * mu n d2 + 1 < 2 * mu n d + 1; omega
set_option maxRecDepth 100000 in
set_option maxHeartbeats 1000000 in
theorem iRL0_c (g n cg : Nat) (X Y : Nat → Nat) (a b l : Nat → Int) (fr : Int) (w : World) (hg : g < w.heap.size) (hn : n ≤ 1048576) (hP : PlCells w g n X Y) :
    Calls Try.prog 28 #[.agg #[.slice (some ⟨g, 0, none⟩) n cg, .slice none 0 0], .int .i64 fr] w (RLR n 0 X Y a b l fr w) := by
  have HF := Lib.hid (fun (w' : World) (hB : Below w.heap.size w w') => isStop0_c g n cg X Y a b l fr w' (Nat.lt_of_lt_of_le hg hB.size) hn (hP.dn hg hB))
  unfold RLR
  cases hq : rlOk n 0 X Y a b l fr
  · rw [hq] at HF
    clear hP hq
    go_enter Try.func28, Try.ntmps28
    go_wp2_with (first | (go_at_call 62; ((with_reducible refine (HF.out _ (by (with_reducible repeat (first | exact Below.refl _ _ | apply below_alloc | apply below_dN | apply below_d | refine below_setCell ?_ (by dsimp only; omega) | refine below_call (by assumption) ?_)))).mono ?_); rintro e w1 ⟨⟨v, rfl, rfl⟩, hb⟩); have hu2 : ∀ n : Nat, n < n + 1 + 1 := (fun n => by omega); have hu3 : ∀ n : Nat, n < n + 1 + 1 + 1 := (fun n => by omega); obtain ⟨hc, hfz⟩ := bcell hb; (try simp only [World.heap_drewN] at hc hfz); have hs_ := hb.size; (try simp at hs_); (try have hz0 : w.heap.size < w1.heap.size := (by omega)); (try have hz1 : w.heap.size + 1 < w1.heap.size := (by omega)); (try have hz2 : w.heap.size + 2 < w1.heap.size := (by omega)); (try have hz3 : w.heap.size + 3 < w1.heap.size := (by omega)); (try have hza : wa.heap.size < w1.heap.size := (by omega)); (try have hza1 : wa.heap.size + 1 < w1.heap.size := (by omega)); (try have hzb : wb.heap.size < w1.heap.size := (by omega)); (try have hzb1 : wb.heap.size + 1 < w1.heap.size := (by omega)); (try have hzc : wc.heap.size < w1.heap.size := (by omega)); (try have hzd : wd.heap.size < w1.heap.size := (by omega))))
    go_ret2
    exact ⟨_, rfl, .inl ⟨rfl, rfl⟩, by (with_reducible repeat (first | exact Below.refl _ _ | apply below_alloc | apply below_dN | apply below_d | refine below_setCell ?_ (by dsimp only; omega) | refine below_call (by assumption) ?_))⟩
  · obtain ⟨hk, f, rfl, hf⟩ := rlOk_facts hq
    rw [hq] at HF
    have HL := Lib.hid (fun (w' : World) (hB : Below w.heap.size w w') => routes0_c g n cg X Y a b l f w' hf hk)
    rw [Int.toNat_natCast]
    generalize rt n 0 (eN a) (eN b) l f = d at HL
    clear hP hq hk
    have hb0 : Below w.heap.size w (w.alloc (.cells #[.slice (some ⟨g, 0, none⟩) n cg, .slice none 0 0] 31)) := by (with_reducible repeat (first | exact Below.refl _ _ | apply below_alloc | apply below_dN | apply below_d | refine below_setCell ?_ (by dsimp only; omega) | refine below_call (by assumption) ?_))
    have hs0 : (w.alloc (.cells #[.slice (some ⟨g, 0, none⟩) n cg, .slice none 0 0] 31)).heap.size = w.heap.size + 1 := by simp
    have hN := ntc.newAt (w := w) (p := w.heap.size) (u := .slice (some ⟨g, 0, none⟩) n cg) (v := .slice none 0 0) rfl
    go_enter Try.func28, Try.ntmps28
    go_upto_region 3 with (first | (go_at_call 62; ((with_reducible refine (HF.out _ hb0).mono ?_); rintro e w1 ⟨⟨v, rfl, rfl⟩, hb⟩)))
    have hN1 := hN.below hb
    have n0 := hN1.c0
    have n1 := hN1.c1
    have n2 := hN1.lt
    have hB1 := hb0.trans (hb.mono (by omega))
    go_wp2_with (go_at_call 63; ((with_reducible refine (HL.out _ hB1).mono ?_); rintro e w2 ⟨q, cap, rfl, hq, hD, hb2⟩))
    go_ret2
    have := hB1.size
    exact ⟨.slice (some ⟨q, 0, none⟩) n cap, rfl, IArr.some (by omega) hD, hB1.trans (hb2.mono this)⟩
set_option maxRecDepth 100000 in
set_option maxHeartbeats 4000000 in
theorem iRO0_c (g n cg : Nat) (X Y : Nat → Nat) (a b l : Nat → Int) (fr most : Int) (w : World) (hg : g < w.heap.size) (hn : n ≤ 1048576) (hP : PlCells w g n X Y) :
    Calls Try.prog 33 #[.agg #[.slice (some ⟨g, 0, none⟩) n cg, .slice none 0 0], .int .i64 fr, .int .i64 most] w (ROR n 0 X Y a b l fr most w) := by
  have HF := Lib.hid (fun (w' : World) (hB : Below w.heap.size w w') => isStop0_c g n cg X Y a b l fr w' (Nat.lt_of_lt_of_le hg hB.size) hn (hP.dn hg hB))
  have hIn := within_c most 0 1000000000
  unfold ROR roOk
  generalize hp : (decide (0 ≤ most) && decide (most ≤ 1000000000)) = p at hIn
  have HI := Lib.hid hIn
  clear hIn
  cases hq : rlOk n 0 X Y a b l fr
  · rw [hq] at HF
    clear hP hq HI hp
    go_enter Try.func33, Try.ntmps33
    go_wp2_with (first | (go_at_call 62; ((with_reducible refine (HF.out _ (by (with_reducible repeat (first | exact Below.refl _ _ | apply below_alloc | apply below_dN | apply below_d | refine below_setCell ?_ (by dsimp only; omega) | refine below_call (by assumption) ?_)))).mono ?_); rintro e w1 ⟨⟨v, rfl, rfl⟩, hb⟩); have hu2 : ∀ n : Nat, n < n + 1 + 1 := (fun n => by omega); have hu3 : ∀ n : Nat, n < n + 1 + 1 + 1 := (fun n => by omega); obtain ⟨hc, hfz⟩ := bcell hb; (try simp only [World.heap_drewN] at hc hfz); have hs_ := hb.size; (try simp at hs_); (try have hz0 : w.heap.size < w1.heap.size := (by omega)); (try have hz1 : w.heap.size + 1 < w1.heap.size := (by omega)); (try have hz2 : w.heap.size + 2 < w1.heap.size := (by omega)); (try have hz3 : w.heap.size + 3 < w1.heap.size := (by omega)); (try have hza : wa.heap.size < w1.heap.size := (by omega)); (try have hza1 : wa.heap.size + 1 < w1.heap.size := (by omega)); (try have hzb : wb.heap.size < w1.heap.size := (by omega)); (try have hzb1 : wb.heap.size + 1 < w1.heap.size := (by omega)); (try have hzc : wc.heap.size < w1.heap.size := (by omega)); (try have hzd : wd.heap.size < w1.heap.size := (by omega))))
    go_ret2
    exact ⟨_, rfl, .inl ⟨rfl, rfl⟩, by (with_reducible repeat (first | exact Below.refl _ _ | apply below_alloc | apply below_dN | apply below_d | refine below_setCell ?_ (by dsimp only; omega) | refine below_call (by assumption) ?_))⟩
  · cases p
    · rw [hq] at HF
      clear hP hq hp
      go_enter Try.func33, Try.ntmps33
      go_wp2_with (first | (go_at_call 62; ((with_reducible refine (HF.out _ (by (with_reducible repeat (first | exact Below.refl _ _ | apply below_alloc | apply below_dN | apply below_d | refine below_setCell ?_ (by dsimp only; omega) | refine below_call (by assumption) ?_)))).mono ?_); rintro e w1 ⟨⟨v, rfl, rfl⟩, hb⟩); have hu2 : ∀ n : Nat, n < n + 1 + 1 := (fun n => by omega); have hu3 : ∀ n : Nat, n < n + 1 + 1 + 1 := (fun n => by omega); obtain ⟨hc, hfz⟩ := bcell hb; (try simp only [World.heap_drewN] at hc hfz); have hs_ := hb.size; (try simp at hs_); (try have hz0 : w.heap.size < w1.heap.size := (by omega)); (try have hz1 : w.heap.size + 1 < w1.heap.size := (by omega)); (try have hz2 : w.heap.size + 2 < w1.heap.size := (by omega)); (try have hz3 : w.heap.size + 3 < w1.heap.size := (by omega)); (try have hza : wa.heap.size < w1.heap.size := (by omega)); (try have hza1 : wa.heap.size + 1 < w1.heap.size := (by omega)); (try have hzb : wb.heap.size < w1.heap.size := (by omega)); (try have hzb1 : wb.heap.size + 1 < w1.heap.size := (by omega)); (try have hzc : wc.heap.size < w1.heap.size := (by omega)); (try have hzd : wd.heap.size < w1.heap.size := (by omega))) | (go_at_call 51; ((with_reducible refine (HI.out _).mono ?_); rintro e w' ⟨rfl, rfl⟩)))
      go_ret2
      exact ⟨_, rfl, .inl ⟨rfl, rfl⟩, by (with_reducible repeat (first | exact Below.refl _ _ | apply below_alloc | apply below_dN | apply below_d | refine below_setCell ?_ (by dsimp only; omega) | refine below_call (by assumption) ?_))⟩
    · obtain ⟨hk, f, rfl, hf⟩ := rlOk_facts hq
      obtain ⟨⟨hn1, hn64⟩, -, -, -⟩ := netOk_facts hk
      rw [hq] at HF
      have HL := Lib.hid (fun (w' : World) (hB : Below w.heap.size w w') => routes0_c g n cg X Y a b l f w' hf hk)
      unfold roL
      rw [Int.toNat_natCast]
      generalize rt n 0 (eN a) (eN b) l f = D at HL
      clear hP hq hk hp
      obtain ⟨i0, hi, hI0, hI1, hI2⟩ := info_parts info_i64
      have hb0 : Below w.heap.size w (w.alloc (.cells #[.slice (some ⟨g, 0, none⟩) n cg, .slice none 0 0] 31)) := by (with_reducible repeat (first | exact Below.refl _ _ | apply below_alloc | apply below_dN | apply below_d | refine below_setCell ?_ (by dsimp only; omega) | refine below_call (by assumption) ?_))
      have hs0 : (w.alloc (.cells #[.slice (some ⟨g, 0, none⟩) n cg, .slice none 0 0] 31)).heap.size = w.heap.size + 1 := by simp
      have hN := ntc.newAt (w := w) (p := w.heap.size) (u := .slice (some ⟨g, 0, none⟩) n cg) (v := .slice none 0 0) rfl
      go_enter Try.func33, Try.ntmps33
      go_upto_region 3 with (first | (go_at_call 62; ((with_reducible refine (HF.out _ hb0).mono ?_); rintro e w1 ⟨⟨v, rfl, rfl⟩, hb⟩)) | (go_at_call 51; ((with_reducible refine (HI.out _).mono ?_); rintro e w' ⟨rfl, rfl⟩)))
      have hN1 := hN.below hb
      have n0 := hN1.c0
      have n1 := hN1.c1
      have n2 := hN1.lt
      have hB1 := hb0.trans (hb.mono (by omega))
      go_wp2_with (go_at_call 63; ((with_reducible refine (HL.out _ hB1).mono ?_); rintro e w2 ⟨q, cap, rfl, hq, hD, hb2⟩))
      have hs1 := hB1.size
      have hs2 := hb2.size
      have hB2 := hB1.trans (hb2.mono hs1)
      have HB2 := Lib.hid hB2
      have HD := Lib.hid hD
      have hqs := hD.lt
      clear hD hB2 hb2 hB1 hN1 n0 n1 hN hb0 n2
      generalize hPP : roP D most = P
      go_loopw [8, 24] (fun v k wr => ∃ i : Nat, i ≤ n ∧ k = .int .i64 i ∧ wr.ownsRow w2.heap.size 2 1 v (pkL P i).length (ivs (pkL P i)) ∧ Below w2.heap.size w2 wr) (fun _ k _ => n - (intOf k).toNat)
      case atStart => exact ⟨0, by omega, rfl, ⟨rfl, .inl ⟨rfl, rfl⟩⟩, by (with_reducible repeat (first | exact Below.refl _ _ | apply below_alloc | apply below_dN | apply below_d | refine below_setCell ?_ (by dsimp only; omega) | refine below_call (by assumption) ?_))⟩
      case round =>
        obtain ⟨i, hin, rfl, hown, hB⟩ := hrel
        have hBs := hB.size
        have hln := pkL_len P i
        by_cases hlt : i < n
        · have d0 := (HD.out.below hB).cell hlt
          have dl := (HD.out.below hB).lt
          have HB := Lib.hid hB
          clear hB
          have hPi : P i = (decide (0 ≤ D i) && decide (D i ≤ most)) := by rw [← hPP]; rfl
          have hW := within_c (D i) 0 most
          rw [← hPi] at hW
          have HW := Lib.hid hW
          clear hPi hW
          generalize D i = z at *
          cases hPi : P i
          · rw [hPi] at HW
            have hl := pkL_f hPi
            clear hPi
            go_wp2_with (go_at_call 51; ((with_reducible refine (HW.out _).mono ?_); rintro e w' ⟨rfl, rfl⟩))
            go_roundw
            case rel => exact ⟨i + 1, by omega, by go_num, by rw [hl]; exact hown, HB.out⟩
            case measure => first | (simp [intOf]; done) | (simp [intOf]; omega)
          · rw [hPi] at HW
            have hl := pkL_t hPi
            have hll : (pkL P (i + 1)).length = (pkL P i).length + 1 := by rw [hl]; simp
            clear hPi
            go_wp2_with (first | (go_at_call 51; ((with_reducible refine (HW.out _).mono ?_); rintro e w' ⟨rfl, rfl⟩)) | (at_builtin; refine wpList_append_own _ rfl (.tmp 32) (.tmp 34) 47 rfl w2.heap.size 2 i0 (.int .i64 0) 1 8 Try.underlying47 hi hI0 hI1 hI2 rfl (by decide) _ _ _ rfl (hown.alloc _) ⟨wr.heap.size, 0, none⟩ 1 1 [.int .i64 i] rfl rfl (cell_one_new _ _ _) (by intro u hu; simp at hu; subst hu; rfl) (by unfold maxLen; omega) (by omega) (by simp; omega) ?_; intro v1 w5 hown5 hgrow5 hnil5))
            go_roundw
            case rel => exact ⟨i + 1, by omega, by go_num, by rw [hll, hl, ivs_snoc]; exact hown5, (HB.out.alloc hBs _).grown hgrow5 (by simp; omega) (fun j hj => (hown.lt j hj).1)⟩
            case measure => first | (simp [intOf]; done) | (simp [intOf]; omega)
        · obtain rfl : i = n := by omega
          have HB := Lib.hid hB
          have HI0 := Lib.hid (own_pk hown)
          clear hown hB
          go_wp2
          go_ret2
          exact ⟨_, rfl, IArr.lo HI0.out (by omega), HB2.out.trans (HB.out.mono (by have := HB2.out.size; omega))⟩
set_option maxHeartbeats 400000 in
theorem rs10_c (p g n cg : Nat) (P : Int → Bool) (x : Int) (w : World) (c0 : w.cell? ⟨p, 0, none⟩ = some (.slice (some ⟨g, 0, none⟩) n cg)) (c1 : w.cell? ⟨p, 1, none⟩ = some (.slice none 0 0)) (HV : ∀ w', Below w.heap.size w w' → Calls Try.prog 62 #[.agg #[.slice (some ⟨g, 0, none⟩) n cg, .slice none 0 0], .int .i64 x] w' (Ret (RV (.bool (P x))) w')) :
    Calls Try.prog 68 #[.int .i64 x, .pointer (some ⟨p, 0, none⟩)] w (Ret (RV (.bool (P x))) w) := by
  have hlt := block_lt_of_cell c0
  simp only at hlt
  have H := Lib.hid HV
  clear HV
  generalize P x = q at H
  go_enter Try.func68, Try.ntmps68
  go_wp2_with (go_at_call 62; ((with_reducible refine (H.out _ (by (with_reducible repeat (first | exact Below.refl _ _ | apply below_alloc | apply below_dN | apply below_d | refine below_setCell ?_ (by dsimp only; omega) | refine below_call (by assumption) ?_)))).mono ?_); rintro e w1 ⟨⟨v, rfl, rfl⟩, hb⟩); have hu2 : ∀ n : Nat, n < n + 1 + 1 := (fun n => by omega); have hu3 : ∀ n : Nat, n < n + 1 + 1 + 1 := (fun n => by omega); obtain ⟨hc, hfz⟩ := bcell hb; (try simp only [World.heap_drewN] at hc hfz); have hs_ := hb.size; (try simp at hs_); (try have hz0 : w.heap.size < w1.heap.size := (by omega)); (try have hz1 : w.heap.size + 1 < w1.heap.size := (by omega)); (try have hz2 : w.heap.size + 2 < w1.heap.size := (by omega)); (try have hz3 : w.heap.size + 3 < w1.heap.size := (by omega)); (try have hza : wa.heap.size < w1.heap.size := (by omega)); (try have hza1 : wa.heap.size + 1 < w1.heap.size := (by omega)); (try have hzb : wb.heap.size < w1.heap.size := (by omega)); (try have hzb1 : wb.heap.size + 1 < w1.heap.size := (by omega)); (try have hzc : wc.heap.size < w1.heap.size := (by omega)); (try have hzd : wd.heap.size < w1.heap.size := (by omega)))
  go_ret
  exact ⟨⟨_, rfl, rfl⟩, by (with_reducible repeat (first | exact Below.refl _ _ | apply below_alloc | apply below_dN | apply below_d | refine below_setCell ?_ (by dsimp only; omega) | refine below_call (by assumption) ?_))⟩
theorem rs_ask0 (g n cg : Nat) (X Y : Nat → Nat) (a b l : Nat → Int) (P : Int → Bool) (v : World) (p : Nat) (hg : g < v.heap.size) (hn : n ≤ 1048576) (hP : PlCells v g n X Y) (hPe : ∀ x, rlOk n 0 X Y a b l x = P x)
    (c0 : v.cell? ⟨p, 0, none⟩ = some (.slice (some ⟨g, 0, none⟩) n cg)) (c1 : v.cell? ⟨p, 1, none⟩ = some (.slice none 0 0)) : Ask v p P := by
  have hpl := block_lt_of_cell c0
  refine ⟨hpl, fun w' hb x => ?_⟩
  refine rs10_c p g n cg P x w' ((hb.cell (p := ⟨p, 0, none⟩) hpl).trans c0) ((hb.cell (p := ⟨p, 1, none⟩) hpl).trans c1) (fun w2 hb2 => ?_)
  have hb3 := hb.trans (hb2.mono hb.size)
  rw [← hPe]
  exact isStop0_c g n cg X Y a b l x w2 (Nat.lt_of_lt_of_le hg hb3.size) hn (hP.dn hg hb3)
set_option maxRecDepth 100000 in
set_option maxHeartbeats 4000000 in
theorem iRS0_c (g n cg f k cf : Nat) (X Y : Nat → Nat) (a b l d : Nat → Int) (wk : Int) (w : World) (hg : g < w.heap.size) (hn : n ≤ 1048576) (hk : k ≤ 1048576) (hP : PlCells w g n X Y) (hD : Dr w f k cf d) :
    Calls Try.prog 36 #[.agg #[.slice (some ⟨g, 0, none⟩) n cg, .slice none 0 0], .slice (some ⟨f, 0, none⟩) k cf, .int .i64 wk] w (RSR n 0 X Y a b l k d wk w) := by
  have HF := Lib.hid (fun (w' : World) (hB : Below w.heap.size w w') => iValidNet0_c g n cg X Y a b l w' (Nat.lt_of_lt_of_le hg hB.size) hn (hP.dn hg hB))
  have hIn := isWorkers_c wk
  unfold RSR rsOk
  generalize hp : (decide (1 ≤ wk) && decide (wk ≤ 8)) = p at hIn
  have HI := Lib.hid hIn
  clear hIn hp
  have hfl := hD.lt
  cases hq : netOk n 0 X Y a b l
  · rw [hq] at HF
    clear hP hq hD
    go_enter Try.func36, Try.ntmps36
    go_wp2_with (first | (go_at_call 13; ((with_reducible refine (HF.out _ (by (with_reducible repeat (first | exact Below.refl _ _ | apply below_alloc | apply below_dN | apply below_d | refine below_setCell ?_ (by dsimp only; omega) | refine below_call (by assumption) ?_)))).mono ?_); rintro e w1 ⟨⟨v, rfl, rfl⟩, hb⟩); have hu2 : ∀ n : Nat, n < n + 1 + 1 := (fun n => by omega); have hu3 : ∀ n : Nat, n < n + 1 + 1 + 1 := (fun n => by omega); obtain ⟨hc, hfz⟩ := bcell hb; (try simp only [World.heap_drewN] at hc hfz); have hs_ := hb.size; (try simp at hs_); (try have hz0 : w.heap.size < w1.heap.size := (by omega)); (try have hz1 : w.heap.size + 1 < w1.heap.size := (by omega)); (try have hz2 : w.heap.size + 2 < w1.heap.size := (by omega)); (try have hz3 : w.heap.size + 3 < w1.heap.size := (by omega)); (try have hza : wa.heap.size < w1.heap.size := (by omega)); (try have hza1 : wa.heap.size + 1 < w1.heap.size := (by omega)); (try have hzb : wb.heap.size < w1.heap.size := (by omega)); (try have hzb1 : wb.heap.size + 1 < w1.heap.size := (by omega)); (try have hzc : wc.heap.size < w1.heap.size := (by omega)); (try have hzd : wd.heap.size < w1.heap.size := (by omega))))
    go_ret2
    exact ⟨_, rfl, SSR.nil, by (with_reducible repeat (first | exact Below.refl _ _ | apply below_alloc | apply below_dN | apply below_d | refine below_setCell ?_ (by dsimp only; omega) | refine below_call (by assumption) ?_))⟩
  · rw [hq] at HF
    by_cases hk8 : k ≤ 8
    · rw [decide_eq_true hk8]
      cases p
      · clear hP hD hq
        go_enter Try.func36, Try.ntmps36
        go_wp2_with (first | (go_at_call 13; ((with_reducible refine (HF.out _ (by (with_reducible repeat (first | exact Below.refl _ _ | apply below_alloc | apply below_dN | apply below_d | refine below_setCell ?_ (by dsimp only; omega) | refine below_call (by assumption) ?_)))).mono ?_); rintro e w1 ⟨⟨v, rfl, rfl⟩, hb⟩); have hu2 : ∀ n : Nat, n < n + 1 + 1 := (fun n => by omega); have hu3 : ∀ n : Nat, n < n + 1 + 1 + 1 := (fun n => by omega); obtain ⟨hc, hfz⟩ := bcell hb; (try simp only [World.heap_drewN] at hc hfz); have hs_ := hb.size; (try simp at hs_); (try have hz0 : w.heap.size < w1.heap.size := (by omega)); (try have hz1 : w.heap.size + 1 < w1.heap.size := (by omega)); (try have hz2 : w.heap.size + 2 < w1.heap.size := (by omega)); (try have hz3 : w.heap.size + 3 < w1.heap.size := (by omega)); (try have hza : wa.heap.size < w1.heap.size := (by omega)); (try have hza1 : wa.heap.size + 1 < w1.heap.size := (by omega)); (try have hzb : wb.heap.size < w1.heap.size := (by omega)); (try have hzb1 : wb.heap.size + 1 < w1.heap.size := (by omega)); (try have hzc : wc.heap.size < w1.heap.size := (by omega)); (try have hzd : wd.heap.size < w1.heap.size := (by omega))) | (go_at_call 66; ((with_reducible refine (HI.out _).mono ?_); rintro e w' ⟨rfl, rfl⟩)))
        go_ret2
        exact ⟨_, rfl, SSR.nil, by (with_reducible repeat (first | exact Below.refl _ _ | apply below_alloc | apply below_dN | apply below_d | refine below_setCell ?_ (by dsimp only; omega) | refine below_call (by assumption) ?_))⟩
      · have HL := Lib.hid (fun (x : Nat) (hx : x < n) (w' : World) (hB : Below w.heap.size w w') => routes0_c g n cg X Y a b l x w' hx hq)
        have hfacts : ∀ x : Int, rlOk n 0 X Y a b l x = true → ∃ f : Nat, x = f ∧ f < n := fun x hx => (rlOk_facts hx).2
        have hrs : ∀ (x : Nat) (j : Nat), d j = x → rsD n 0 a b l d j = rt n 0 (eN a) (eN b) l x := fun x j e => by unfold rsD; rw [e, Int.toNat_natCast]
        rw [Bool.true_and, Bool.true_and, Bool.true_and]
        generalize rsD n 0 a b l d = D at hrs
        obtain ⟨P, hPe⟩ : ∃ P : Int → Bool, ∀ x, rlOk n 0 X Y a b l x = P x := ⟨_, fun _ => rfl⟩
        have HA := Lib.hid (fun (v : World) (hB : Below w.heap.size w v) c0 c1 => rs_ask0 g n cg X Y a b l P v w.heap.size (Nat.lt_of_lt_of_le hg hB.size) hn (hP.dn hg hB) hPe c0 c1)
        simp only [hPe] at hfacts ⊢
        obtain ⟨K, hK⟩ : ∃ K, allB (fun j => P (d j)) k = K := ⟨_, rfl⟩
        rw [hK]
        obtain ⟨N, hNn⟩ : ∃ N, (if K = true then k else 0) = N := ⟨_, rfl⟩
        rw [hNn]
        have HC := Lib.hid (fun (v : World) (hB : Below w.heap.size w v) (hA : Ask v w.heap.size P) => (show Calls Try.prog 67 #[.slice (some ⟨f, 0, none⟩) k cf, .func (.func 68) #[] #[.pointer (some ⟨w.heap.size, 0, none⟩)]] v (Ret (RV (.bool K)) v) from hK ▸ areAllI_c f w.heap.size k cf d P v (by omega) (hD.below hB) hA))
        have HKK := Lib.hid hK
        have HNN := Lib.hid hNn
        clear hK hNn
        have HRS := Lib.hid hrs
        have HFA := Lib.hid hfacts
        obtain ⟨i0, hi, hI0, hI1, hI2⟩ := info_parts info_i64S
        have hb0 : Below w.heap.size w (w.alloc (.cells #[.slice (some ⟨g, 0, none⟩) n cg, .slice none 0 0] 31)) := by (with_reducible repeat (first | exact Below.refl _ _ | apply below_alloc | apply below_dN | apply below_d | refine below_setCell ?_ (by dsimp only; omega) | refine below_call (by assumption) ?_))
        have hs0 : (w.alloc (.cells #[.slice (some ⟨g, 0, none⟩) n cg, .slice none 0 0] 31)).heap.size = w.heap.size + 1 := by simp
        have hN := ntc.newAt (w := w) (p := w.heap.size) (u := .slice (some ⟨g, 0, none⟩) n cg) (v := .slice none 0 0) rfl
        have HD := Lib.hid hD
        clear hP hD hq hrs hfacts hPe
        cases K
        · obtain rfl : N = 0 := HNN.out.symm
          go_enter Try.func36, Try.ntmps36
          go_wp2_with (first | (go_at_call 13; ((with_reducible refine (HF.out _ hb0).mono ?_); rintro e wA ⟨⟨v, rfl, rfl⟩, hb⟩; have hBA := hb0.trans (hb.mono (by omega)); have hNA := hN.below hb; have hAA := HA.out _ hBA hNA.c0 hNA.c1)) | (go_at_call 66; ((with_reducible refine (HI.out _).mono ?_); rintro e w' ⟨rfl, rfl⟩)) | (go_at_call 67; ((with_reducible refine (HC.out _ hBA hAA).mono ?_); rintro e wB ⟨⟨v, rfl, rfl⟩, hbB⟩)))
          go_ret2
          exact ⟨_, rfl, SSR.nil, hBA.trans (hbB.mono hBA.size)⟩
        · obtain rfl : N = k := HNN.out.symm
          go_enter Try.func36, Try.ntmps36
          go_upto_region 3 with (first | (go_at_call 13; ((with_reducible refine (HF.out _ hb0).mono ?_); rintro e wA ⟨⟨v, rfl, rfl⟩, hb⟩; have hBA := hb0.trans (hb.mono (by omega)); have hNA := hN.below hb; have hAA := HA.out _ hBA hNA.c0 hNA.c1)) | (go_at_call 66; ((with_reducible refine (HI.out _).mono ?_); rintro e w' ⟨rfl, rfl⟩)) | (go_at_call 67; ((with_reducible refine (HC.out _ hBA hAA).mono ?_); rintro e wB ⟨⟨v, rfl, rfl⟩, hbB⟩)))
          have hN1 := hNA.below hbB
          have hB1 := hBA.trans (hbB.mono hBA.size)
          have hs1 := hb.size
          have hs1' := hB1.size
          have HN1 := Lib.hid hN1
          have HB1 := Lib.hid hB1
          clear hN hN1 hb hB1 hb0 hBA hNA hAA hbB
          go_wp2
          go_loopw [8, 32] (fun v kk wr => ∃ (i : Nat) (q c : Nat → Nat), i ≤ N ∧ kk = .int .i64 i ∧ RIn wr wB.heap.size n i v D q c ∧ Below wB.heap.size wB wr) (fun _ kk _ => N - (intOf kk).toNat)
          case atStart => exact ⟨0, fun _ => 0, fun _ => 0, by omega, rfl, RIn.start ⟨rfl, .inl ⟨rfl, rfl⟩⟩, by (with_reducible repeat (first | exact Below.refl _ _ | apply below_alloc | apply below_dN | apply below_d | refine below_setCell ?_ (by dsimp only; omega) | refine below_call (by assumption) ?_))⟩
          case round =>
            obtain ⟨i, q, c, hik, rfl, hI, hB⟩ := hrel
            have hBs := hB.size
            by_cases hlt : i < N
            · have hBx := HB1.out.trans (hB.mono (by omega))
              have d0 := (HD.out.below hBx).cell hlt
              have dl := (HD.out.below hBx).lt
              have hNr := HN1.out.below hB
              have n0 := hNr.c0
              have n1 := hNr.c1
              have hnl := hNr.lt
              have hPi : P (d i) = true := allB_of HKK.out i hlt
              obtain ⟨x, hx, hxn⟩ := HFA.out _ hPi
              have hDi := HRS.out x i hx
              rw [hx] at d0
              have HIN := Lib.hid hI
              have HB := Lib.hid hB
              clear hI hB hPi hx
              go_wp2_with (first | (go_at_call 63; ((with_reducible refine (HL.out x hxn _ hBx).mono ?_); rintro e w2 ⟨q', c', rfl, hq', hD', hb2⟩; have hs2 := hb2.size; have hIb := HIN.out.below hb2; have hown := hIb.1)) | (at_builtin; refine wpList_append_own _ rfl (.tmp 36) (.tmp 40) 55 rfl wB.heap.size 47 i0 (.slice none 0 0) 1 24 Try.underlying55 hi hI0 hI1 hI2 rfl (by decide) _ _ _ rfl (hown.alloc _) ⟨w2.heap.size, 0, none⟩ 1 1 [.slice (some ⟨q', 0, none⟩) n c'] rfl rfl (cell_one_new _ _ _) (by intro u hu; simp at hu; subst hu; rfl) (by unfold maxLen; omega) (by omega) (by simp; omega) ?_; intro v1 w5 hown5 hgrow5 hnil5))
              go_roundw
              case rel => exact ⟨i + 1, _, _, by omega, by go_num, RIn.push HIN.out hb2 (by omega) hq' (by rw [hDi]; exact hD') hgrow5 hown5, ((HB.out.trans (hb2.mono (by omega))).alloc (by omega) _).grown hgrow5 (by simp; omega) (fun j hj => (hown.lt j hj).1)⟩
              case measure => first | (simp [intOf]; done) | (simp [intOf]; omega)
            · obtain rfl : i = N := by omega
              have HIN := Lib.hid hI
              have HB := Lib.hid hB
              clear hI hB
              go_wp2
              go_ret2
              refine ⟨_, rfl, HIN.out.ssr.lo (by omega), ?_⟩
              exact HB1.out.trans (HB.out.mono (by omega))
    · rw [decide_eq_false hk8]
      clear hP hD hq
      have hk8' : (8 : Int) < k := by omega
      go_enter Try.func36, Try.ntmps36
      go_wp2_with (first | (go_at_call 13; ((with_reducible refine (HF.out _ (by (with_reducible repeat (first | exact Below.refl _ _ | apply below_alloc | apply below_dN | apply below_d | refine below_setCell ?_ (by dsimp only; omega) | refine below_call (by assumption) ?_)))).mono ?_); rintro e w1 ⟨⟨v, rfl, rfl⟩, hb⟩); have hu2 : ∀ n : Nat, n < n + 1 + 1 := (fun n => by omega); have hu3 : ∀ n : Nat, n < n + 1 + 1 + 1 := (fun n => by omega); obtain ⟨hc, hfz⟩ := bcell hb; (try simp only [World.heap_drewN] at hc hfz); have hs_ := hb.size; (try simp at hs_); (try have hz0 : w.heap.size < w1.heap.size := (by omega)); (try have hz1 : w.heap.size + 1 < w1.heap.size := (by omega)); (try have hz2 : w.heap.size + 2 < w1.heap.size := (by omega)); (try have hz3 : w.heap.size + 3 < w1.heap.size := (by omega)); (try have hza : wa.heap.size < w1.heap.size := (by omega)); (try have hza1 : wa.heap.size + 1 < w1.heap.size := (by omega)); (try have hzb : wb.heap.size < w1.heap.size := (by omega)); (try have hzb1 : wb.heap.size + 1 < w1.heap.size := (by omega)); (try have hzc : wc.heap.size < w1.heap.size := (by omega)); (try have hzd : wd.heap.size < w1.heap.size := (by omega))))
      go_ret2
      exact ⟨_, rfl, SSR.nil, by (with_reducible repeat (first | exact Below.refl _ _ | apply below_alloc | apply below_dN | apply below_d | refine below_setCell ?_ (by dsimp only; omega) | refine below_call (by assumption) ?_))⟩
set_option maxRecDepth 100000 in
set_option maxHeartbeats 8000000 in
theorem iRP0_c (g n cg : Nat) (X Y : Nat → Nat) (a b l : Nat → Int) (fr tg : Int) (w : World) (hg : g < w.heap.size) (hn : n ≤ 1048576) (hP : PlCells w g n X Y) :
    Calls Try.prog 41 #[.agg #[.slice (some ⟨g, 0, none⟩) n cg, .slice none 0 0], .int .i64 fr, .int .i64 tg] w (RPR n 0 X Y a b l fr tg w) := by
  have HF := Lib.hid (fun (x : Int) (w' : World) (hB : Below w.heap.size w w') => isStop0_c g n cg X Y a b l x w' (Nat.lt_of_lt_of_le hg hB.size) hn (hP.dn hg hB))
  have hb0 : Below w.heap.size w (w.alloc (.cells #[.slice (some ⟨g, 0, none⟩) n cg, .slice none 0 0] 31)) := by (with_reducible repeat (first | exact Below.refl _ _ | apply below_alloc | apply below_dN | apply below_d | refine below_setCell ?_ (by dsimp only; omega) | refine below_call (by assumption) ?_))
  have hs0 : (w.alloc (.cells #[.slice (some ⟨g, 0, none⟩) n cg, .slice none 0 0] 31)).heap.size = w.heap.size + 1 := by simp
  have hN := ntc.newAt (w := w) (p := w.heap.size) (u := .slice (some ⟨g, 0, none⟩) n cg) (v := .slice none 0 0) rfl
  cases hq1 : rlOk n 0 X Y a b l fr
  · refine Calls.mono ?_ (fun e w' h => RPR.no (by unfold rpOk; rw [hq1]; rfl) h)
    have hF1 := HF.out fr; rw [hq1] at hF1; have HF1 := Lib.hid hF1; clear hF1
    clear hP hq1 HF
    go_enter Try.func41, Try.ntmps41
    go_wp2_with (go_at_call 62; ((with_reducible refine (HF1.out _ hb0).mono ?_); rintro e wA ⟨⟨v, rfl, rfl⟩, hbA⟩))
    go_ret3
    exact I3Res.nil (hb0.trans (hbA.mono (by omega)))
  · cases hq2 : rlOk n 0 X Y a b l tg
    · refine Calls.mono ?_ (fun e w' h => RPR.no (by unfold rpOk; rw [hq1, hq2]; rfl) h)
      have hF1 := HF.out fr; rw [hq1] at hF1; have HF1 := Lib.hid hF1; clear hF1
      have hF2 := HF.out tg; rw [hq2] at hF2; have HF2 := Lib.hid hF2; clear hF2
      clear hP hq1 hq2 HF
      go_enter Try.func41, Try.ntmps41
      go_wp2_with (first | (go_at_call 62; ((with_reducible refine (HF1.out _ hb0).mono ?_); rintro e wA ⟨⟨v, rfl, rfl⟩, hbA⟩; have hNA := hN.below hbA; have hBA := hb0.trans (hbA.mono (by omega)); have na0 := hNA.c0; have na1 := hNA.c1; have nal := hNA.lt)) | (go_at_call 62; ((with_reducible refine (HF2.out _ hBA).mono ?_); rintro e wB ⟨⟨v, rfl, rfl⟩, hbB⟩)))
      go_ret3
      exact I3Res.nil (hBA.trans (hbB.mono hBA.size))
    · obtain ⟨hk, fr, rfl, hf⟩ := rlOk_facts hq1
      obtain ⟨-, tg, rfl, ht⟩ := rlOk_facts hq2
      obtain ⟨⟨hn1, hn64⟩, hm64, hRd, hab⟩ := netOk_facts hk
      have hLong := rt_long hRd hn64 hf
      have hKK : rpOk n 0 X Y a b l (fr : Int) (tg : Int) = decide (0 ≤ rt n 0 (eN a) (eN b) l fr tg) := by unfold rpOk; rw [hq1, hq2, Int.toNat_natCast, Int.toNat_natCast]; rfl
      have hno : ∀ {e w'}, ¬ (0 ≤ rt n 0 (eN a) (eN b) l fr tg) → I3Res false 0 (nthI (rpL n 0 a b l fr tg)) 0 w e w' → RPR n 0 X Y a b l fr tg w e w' := fun h1 h2 => RPR.no (hKK.trans (decide_eq_false h1)) h2
      have hyes : ∀ {e w'}, 0 ≤ rt n 0 (eN a) (eN b) l fr tg → I3Res true (pth 0 (eN a) (eN b) l (rt n 0 (eN a) (eN b) l fr) fr tg).reverse.length (nthI (pth 0 (eN a) (eN b) l (rt n 0 (eN a) (eN b) l fr) fr tg).reverse) (rt n 0 (eN a) (eN b) l fr tg) w e w' → RPR n 0 X Y a b l fr tg w e w' := fun h1 h2 => RPR.yes (hKK.trans (decide_eq_true h1)) (by unfold rpL; rw [Int.toNat_natCast, Int.toNat_natCast]; exact h2)
      have HL := Lib.hid (fun (w' : World) (hB : Below w.heap.size w w') => routes0_c g n cg X Y a b l fr w' hf hk)
      have hF1 := HF.out fr; rw [hq1] at hF1; have HF1 := Lib.hid hF1; clear hF1
      have hF2 := HF.out tg; rw [hq2] at hF2; have HF2 := Lib.hid hF2; clear hF2
      clear hP hq1 hq2 HF hKK hk
      generalize rt n 0 (eN a) (eN b) l fr = D at *
      have hbt := hLong.bnd tg ht
      by_cases hd : 0 ≤ D tg
      · refine Calls.mono ?_ (fun e w' h => hyes hd h)
        clear hno hyes
        have hpl := pth_len hLong ht hd
        have hfull : pth 0 (eN a) (eN b) l D fr tg = tg :: pthT 0 (eN a) (eN b) l D fr (D tg).toNat tg := rfl
        generalize pth 0 (eN a) (eN b) l D fr tg = full at *
        have HFULL := Lib.hid hfull
        have HLong := Lib.hid hLong
        have HAB := Lib.hid hab
        have HRd := Lib.hid hRd
        clear hfull hLong hab hRd
        obtain ⟨dt, hdt⟩ : ∃ x, D tg = x := ⟨_, rfl⟩
        have HDT := Lib.hid hdt
        rw [hdt] at hd hbt
        simp only [hdt]
        have hdn : ¬ (dt < 0) := by omega
        obtain ⟨i0, hi, hI0, hI1, hI2⟩ := info_parts info_i64
        go_enter Try.func41, Try.ntmps41
        go_upto_region 3 with (first | (go_at_call 62; ((with_reducible refine (HF1.out _ hb0).mono ?_); rintro e wA ⟨⟨v, rfl, rfl⟩, hbA⟩; have hNA := hN.below hbA; have hBA := hb0.trans (hbA.mono (by omega)); have na0 := hNA.c0; have na1 := hNA.c1; have nal := hNA.lt)) | (go_at_call 62; ((with_reducible refine (HF2.out _ hBA).mono ?_); rintro e wB ⟨⟨v, rfl, rfl⟩, hbB⟩)))
        have hBB := hBA.trans (hbB.mono hBA.size)
        have hNB := hNA.below hbB
        clear na0 na1 nal
        have n0 := hNB.c0
        have n1 := hNB.c1
        have nl := hNB.lt
        go_upto_region 4 with (go_at_call 63; ((with_reducible refine (HL.out _ hBB).mono ?_); rintro e w2 ⟨q, cap, rfl, hq, hD, hb2⟩))
        have hs1 := hBB.size
        have hs2 := hb2.size
        have HB2 := Lib.hid (hBB.trans (hb2.mono hs1))
        have HN2 := Lib.hid (hNB.below hb2)
        have z0 := hD.cell ht
        rw [HDT.out] at z0
        have zl := hD.lt
        have HD := Lib.hid hD
        have hwl : w.heap.size < w2.heap.size := by have := HN2.out.lt; exact this
        clear hb2 hBB hNB n0 n1 nl hNA hN hBA hbA hbB hD hb0 hs0 hs1
        go_wp2
        clear z0 zl
        go_loopw [10, 11] (fun bk av wr => ∃ (v f : Nat) (xs : List Nat), v < n ∧ 0 ≤ D v ∧ av = .int .i64 v ∧ (D v).toNat ≤ f ∧ xs ++ pthT 0 (eN a) (eN b) l D fr f v = full ∧ wr.ownsRow w2.heap.size 2 1 bk xs.length (ivs xs) ∧ Below w2.heap.size w2 wr) (fun _ av _ => (D (intOf av).toNat).toNat)
        case atStart => exact ⟨tg, dt.toNat, [tg], ht, by rw [HDT.out]; exact hd, rfl, by rw [HDT.out]; exact Nat.le_refl _, by rw [HFULL.out, HDT.out]; rfl, ⟨rfl, .inr ⟨w2.heap.size, 1, #[.int .i64 (tg : Int)], rfl, Nat.le_refl _, heap_alloc_new _ _, Nat.le_refl _, by simp [maxLen], rfl, rfl⟩⟩, by (with_reducible repeat (first | exact Below.refl _ _ | apply below_alloc | apply below_dN | apply below_d | refine below_setCell ?_ (by dsimp only; omega) | refine below_call (by assumption) ?_))⟩
        case round =>
          rename World => wO
          obtain ⟨v, f, xs, hv, hdv0, rfl, hf0, hxs, hown, hB⟩ := hrel
          have hxl : xs.length ≤ 65 := by
            have e := congrArg List.length hxs
            rw [List.length_append] at e
            omega
          have hBs := hB.size
          by_cases ev : v = fr
          · subst ev
            have hx2 : xs = full := by rw [← hxs, pthT_end, List.append_nil]
            rw [hx2] at hown hxl
            clear hx2 hxs
            obtain ⟨g3, cap3, rfl, hg3, hD3⟩ := own_dr (d := nthI full) hown (by omega) (fun j hj => by simp [ivs, nthI, List.getElem?_eq_getElem hj])
            have HREV := Lib.hid (rev_c w2.heap.size g3 full.length cap3 (nthI full) wO hg3 (by omega) hD3)
            have HB := Lib.hid hB
            have hg3l := hD3.lt
            clear hB hown hD3
            go_upto_region 23 with (go_at_call 69; ((with_reducible refine (HREV.out).mono ?_); rintro e w3 ⟨rfl, hD3, hb3⟩))
            have hb3s := hb3.size
            have hBE := HB.out.trans hb3
            have z0 := (HD.out.below hBE).cell ht
            rw [HDT.out] at z0
            have zl := (HD.out.below hBE).lt
            have HBE := Lib.hid hBE
            have HD3 := Lib.hid hD3
            clear hBE hb3 hD3
            go_wp2
            (refine region_below (by kernel_rfl) (by kernel_rfl) ?_; (repeat (first | go_big_quiet_step (fail) | quiet_step (fail))); refine wpQuiet_nil ?_; intro w1 hb; obtain ⟨hc, hfz⟩ := bcell hb; (try simp only [World.heap_drewN] at hc hfz); have hz := hb.size)
            go_wp2
            go_ret3
            rw [List.length_reverse]
            exact ⟨_, rfl, IArr.lo (IArr.some hg3 ((HD3.out.below hb).congr (fun j hj => (nthI_rev hj).symm))) (by omega), HB2.out.trans ((HBE.out.trans (hb.mono (by have := HBE.out.size; omega))).mono (by omega))⟩
          · obtain ⟨j, u, hj, -⟩ := HLong.out.pred v hv ev hdv0
            exact absurd hj (by omega)
      · refine Calls.mono ?_ (fun e w' h => hno hd h)
        clear hno hyes
        obtain ⟨dt, hdt⟩ : ∃ x, D tg = x := ⟨_, rfl⟩
        have HDT := Lib.hid hdt
        rw [hdt] at hd hbt
        have hdn : dt < 0 := by omega
        clear hdt
        go_enter Try.func41, Try.ntmps41
        go_upto_region 3 with (first | (go_at_call 62; ((with_reducible refine (HF1.out _ hb0).mono ?_); rintro e wA ⟨⟨v, rfl, rfl⟩, hbA⟩; have hNA := hN.below hbA; have hBA := hb0.trans (hbA.mono (by omega)); have na0 := hNA.c0; have na1 := hNA.c1; have nal := hNA.lt)) | (go_at_call 62; ((with_reducible refine (HF2.out _ hBA).mono ?_); rintro e wB ⟨⟨v, rfl, rfl⟩, hbB⟩)))
        have hBB := hBA.trans (hbB.mono hBA.size)
        have hNB := hNA.below hbB
        clear na0 na1 nal
        have n0 := hNB.c0
        have n1 := hNB.c1
        have nl := hNB.lt
        go_upto_region 4 with (go_at_call 63; ((with_reducible refine (HL.out _ hBB).mono ?_); rintro e w2 ⟨q, cap, rfl, hq, hD, hb2⟩))
        have z0 := hD.cell ht
        rw [HDT.out] at z0
        have zl := hD.lt
        have HBF := Lib.hid (hBB.trans (hb2.mono hBB.size))
        clear hb2 hBB hNB n0 n1 nl hNA hN hBA hbA hbB hD hb0 hs0
        go_wp2
        go_ret3
        exact I3Res.nil HBF.out
end Go.Proofs.Ytpmeccjfjjklkaa
