/- Contract of spec.l07Longs. No condition. -/
import Derived.Test.YtpmeccjfjjklkaaRtS
namespace Go.Proofs.Ytpmeccjfjjklkaa
open Go.RowKit
set_option linter.unusedSimpArgs false
set_option maxRecDepth 100000 in
set_option maxHeartbeats 8000000 in
theorem l07Longs_c (p g h n m cg ch : Nat) (X Y : Nat → Nat) (a b l : Nat → Int) (fr : Nat) (w : World) (hfr : fr < n) (hk : netOk n m X Y a b l = true) (c0 : w.cell? ⟨p, 0, none⟩ = some (.slice (some ⟨g, 0, none⟩) n cg)) (c1 : w.cell? ⟨p, 1, none⟩ = some (.slice (some ⟨h, 0, none⟩) m ch)) (hR : RdBlk w h m a b l) :
    Calls Try.prog 61 #[.pointer (some ⟨p, 0, none⟩), .int .i64 fr, .bool false] w fun e w' => ∃ q cap, e = .returned (.slice (some ⟨q, 0, none⟩) n cap) ∧ w.heap.size ≤ q ∧ Dr w' q n cap (rt n m (eN a) (eN b) l fr) ∧ Below w.heap.size w w' := by
  obtain ⟨⟨hn1, hn⟩, hm, hRd, hab⟩ := netOk_facts hk
  obtain ⟨i0, hi, hI0, hI1, hI2⟩ := info_parts info_i64
  have hpl := block_lt_of_cell c0
  simp only at hpl
  clear hk
  go_enter Try.func61, Try.ntmps61
  go_wp2
  go_loopw [7, 18] (fun v k wr => ∃ i : Nat, i ≤ n ∧ k = .int .i64 i ∧ wr.ownsRow w.heap.size 2 1 v i (List.replicate i (.int .i64 (-1))) ∧ Below w.heap.size w wr) (fun _ k _ => n - (intOf k).toNat)
  case atStart => exact ⟨0, by omega, rfl, ⟨rfl, .inr ⟨w.heap.size, 0, #[], rfl, Nat.le_refl _, heap_alloc_new _ _, by omega, by simp [maxLen], rfl, rfl⟩⟩, by (with_reducible repeat (first | exact Below.refl _ _ | apply below_alloc | apply below_dN | apply below_d | refine below_setCell ?_ (by dsimp only; omega) | refine below_call (by assumption) ?_))⟩
  case round =>
    obtain ⟨i, hin, rfl, hown, hB⟩ := hrel
    have hBs := hB.size
    by_cases hlt : i < n
    · have HB := Lib.hid hB
      clear hB
      go_wp2_with (at_builtin; refine wpList_append_own _ rfl (.tmp 20) (.tmp 21) 47 rfl w.heap.size 2 i0 (.int .i64 0) 1 8 Try.underlying47 hi hI0 hI1 hI2 rfl (by decide) _ _ _ rfl (hown.alloc _) ⟨wr.heap.size, 0, none⟩ 1 1 [.int .i64 (-1)] rfl rfl (cell_one_new _ _ _) (by intro u hu; simp at hu; subst hu; rfl) (by unfold maxLen; omega) (by omega) (by simp; omega) ?_; intro v1 w5 hown5 hgrow5 hnil5)
      go_roundw
      case rel => exact ⟨i + 1, by omega, by go_num, by rw [List.replicate_succ']; exact hown5, (HB.out.alloc hBs _).grown hgrow5 (by simp; omega) (fun j hj => (hown.lt j hj).1)⟩
      case measure => first | (simp [intOf]; done) | (simp [intOf]; omega)
    · obtain rfl : i = n := by omega
      obtain ⟨q, cap, rfl, hq, hD0⟩ := own_dr (d := fun _ => -1) hown (by omega) (fun j hj => by rw [List.getElem?_replicate, if_pos hj])
      have z0 := hD0.cell hfr
      have z1 := hD0.fr fr
      have z2 := hD0.lt
      have hD1 := hD0.set fr 0
      have HD1 := Lib.hid hD1
      have hB1 := hB.setCell (p := ⟨q, fr, none⟩) hq (.int .i64 0)
      have HB1 := Lib.hid hB1
      have hRdB := hR.below hB hR.lt
      have hne : h ≠ q := by have := hR.lt; omega
      have hpne : p ≠ q := by omega
      clear hB hB1 hD1 hD0 hown
      go_wp2
      have hd0 : ∀ j, j < i → (fun j => if j = fr then (0 : Int) else (fun _ => -1) j) j = d0 fr j := fun j hj => rfl
      go_loopw [8] (fun fl wx => ∃ d c, fl = .bool c ∧ Dr wx q i cap d ∧ Rel i m (eN a) (eN b) l (rt i m (eN a) (eN b) l fr) d c ∧ Below w.heap.size w wx) (fun fl wx => 2 * muw q i wx + bnat fl)
      case atStart => exact ⟨d0 fr, true, rfl, HD1.out.congr hd0, Rel.start hfr, HB1.out⟩
      case round =>
        obtain ⟨d, c, rfl, hD, hRel, hBx⟩ := hrel
        have HD := Lib.hid hD
        have HRel := Lib.hid hRel
        have c1x : wr.cell? ⟨p, 1, none⟩ = some (.slice (some ⟨h, 0, none⟩) m ch) := (hBx.cell (p := ⟨p, 1, none⟩) hpl).trans c1
        have hBxs := hBx.size
        have hmo := muw_eq hD
        have hpx : p < wr.heap.size := by omega
        cases c
        · have HBx := Lib.hid hBx
          clear hD hRel hBx
          go_wp2
          go_ret
          exact ⟨q, cap, rfl, hq, by rw [← HRel.out.2.2 rfl]; exact HD.out, HBx.out⟩
        · clear hRel
          go_wp2
          go_loopw [8, 33] (fun fl kk wy => ∃ k : Nat, k ≤ m ∧ kk = .int .i64 k ∧ fl = .bool (ps (eN a) (eN b) l d k).2 ∧ Dr wy q i cap (ps (eN a) (eN b) l d k).1 ∧ Below w.heap.size w wy) (fun _ kk _ => m - (intOf kk).toNat)
          case atStart => exact ⟨0, by omega, rfl, rfl, hD, hBx⟩
          case round =>
            obtain ⟨k, hkm, rfl, rfl, hDk, hBk⟩ := hrel
            have c1y : wr.cell? ⟨p, 1, none⟩ = some (.slice (some ⟨h, 0, none⟩) m ch) := (hBk.cell (p := ⟨p, 1, none⟩) hpl).trans c1
            have hBks := hBk.size
            have hpy : p < wr.heap.size := by omega
            have HBk := Lib.hid hBk
            by_cases hlt2 : k < m
            · obtain ⟨hA1, hB1, hne1, hL1, hL2⟩ := hRd k hlt2
              obtain ⟨eA, eB⟩ := hab k hlt2
              have hps := (ps_ok hRd hn HRel.out.1 hkm).1
              have s1 := (rl_le (d := (ps (eN a) (eN b) l d k).1) hps hn hA1 hB1 hL1 hL2).1
              have hpsS : (ps (eN a) (eN b) l d (k + 1)).1 = rl (rl (ps (eN a) (eN b) l d k).1 (eN a k) (eN b k) (l k)) (eN b k) (eN a k) (l k) ∧ (ps (eN a) (eN b) l d (k + 1)).2 = (((ps (eN a) (eN b) l d k).2 || rlc (ps (eN a) (eN b) l d k).1 (eN a k) (eN b k) (l k)) || rlc (rl (ps (eN a) (eN b) l d k).1 (eN a k) (eN b k) (l k)) (eN b k) (eN a k) (l k)) := ⟨rfl, rfl⟩
              have HPS := Lib.hid hpsS
              have hRdy := hR.below hBk hR.lt
              have r0 := hRdy.c0 hlt2
              have r1 := hRdy.c1 hlt2
              have r2 := hRdy.c2 hlt2
              have hhl := hRdy.lt
              clear hpsS hBx hD hBk
              generalize (ps (eN a) (eN b) l d k).1 = e at *
              generalize (ps (eN a) (eN b) l d k).2 = f1 at *
              rw [eA] at r0
              rw [eB] at r1
              obtain ⟨A1, hA1e⟩ : ∃ x, eN a k = x := ⟨_, rfl⟩
              obtain ⟨B1, hB1e⟩ : ∃ x, eN b k = x := ⟨_, rfl⟩
              obtain ⟨L, eL⟩ : ∃ x, l k = x := ⟨_, rfl⟩
              rw [hA1e] at hA1 hne1 eA r0 s1 HPS
              rw [hB1e] at hB1 hne1 eB r1 s1 HPS
              rw [eL] at hL1 hL2 r2 s1 HPS
              clear hA1e hB1e
              have hba := hps.bnd hn hA1
              have hbb := hps.bnd hn hB1
              obtain ⟨va, hva⟩ : ∃ v, e A1 = v := ⟨_, rfl⟩
              obtain ⟨vb, hvb⟩ : ∃ v, e B1 = v := ⟨_, rfl⟩
              have ca := hDk.cell hA1
              have cb := hDk.cell hB1
              have zb := hDk.fr B1
              have zl := hDk.lt
              rw [hva] at ca hba
              rw [hvb] at cb hbb
              have hcl := hDk.le
              have HDy := Lib.hid hDk
              have HBy := HBk
              clear hDk
        -- HERE
              have HRd1 := Lib.hid hRdy
              have EA := Lib.hid eA
              have EB := Lib.hid eB
              have EL := Lib.hid eL
              clear hRdy eA eB eL
              go_upto_region 17 with fail
              go_cut [83] (fun t wz => t = .bool (rlc e A1 B1 L) ∧ Below wr.heap.size wr wz)
              case first =>
                by_cases k1 : 0 ≤ va
                · by_cases k2 : vb < 0
                  · have hrl : rlc e A1 B1 L = true := by unfold rlc; rw [hva, hvb]; simp [*]
                    have HRL := Lib.hid hrl
                    clear hrl hva hvb
                    (refine region_below (by kernel_rfl) (by kernel_rfl) ?_; (repeat (first | go_big_quiet_step (fail) | quiet_step (fail))); refine wpQuiet_nil ?_; intro w1 hb; obtain ⟨hc, hfz⟩ := bcell hb; (try simp only [World.heap_drewN] at hc hfz); have hz := hb.size)
                    go_wp2
                    go_meet
                    case rel => exact ⟨by rw [HRL.out], hb⟩
                  · by_cases k3 : va + L < vb
                    · have hrl : rlc e A1 B1 L = true := by unfold rlc; rw [hva, hvb]; simp [*]
                      have HRL := Lib.hid hrl
                      clear hrl hva hvb
                      (refine region_below (by kernel_rfl) (by kernel_rfl) ?_; (repeat (first | go_big_quiet_step (fail) | quiet_step (fail))); refine wpQuiet_nil ?_; intro w1 hb; obtain ⟨hc, hfz⟩ := bcell hb; (try simp only [World.heap_drewN] at hc hfz); have hz := hb.size)
                      go_wp2
                      go_meet
                      case rel => exact ⟨by rw [HRL.out], hb⟩
                    · have hrl : rlc e A1 B1 L = false := by unfold rlc; rw [hva, hvb]; simp [*]
                      have HRL := Lib.hid hrl
                      clear hrl hva hvb
                      (refine region_below (by kernel_rfl) (by kernel_rfl) ?_; (repeat (first | go_big_quiet_step (fail) | quiet_step (fail))); refine wpQuiet_nil ?_; intro w1 hb; obtain ⟨hc, hfz⟩ := bcell hb; (try simp only [World.heap_drewN] at hc hfz); have hz := hb.size)
                      go_wp2
                      go_meet
                      case rel => exact ⟨by rw [HRL.out], hb⟩
                · have hrl : rlc e A1 B1 L = false := by unfold rlc; rw [hva, hvb]; simp [*]
                  have HRL := Lib.hid hrl
                  clear hrl hva hvb
                  (refine region_below (by kernel_rfl) (by kernel_rfl) ?_; (repeat (first | go_big_quiet_step (fail) | quiet_step (fail))); refine wpQuiet_nil ?_; intro w1 hb; obtain ⟨hc, hfz⟩ := bcell hb; (try simp only [World.heap_drewN] at hc hfz); have hz := hb.size)
                  go_wp2
                  go_meet
                  case rel => exact ⟨by rw [HRL.out], hb⟩
              case rest =>
              obtain ⟨rfl, hbc⟩ := hcut
              have hD1c := HDy.out.below hbc
              have hR1c := HRd1.out.below hbc hhl
              have hB1c := HBy.out.trans (hbc.mono HBy.out.size)
              clear r0 r1 r2 ca cb zb zl hhl
              have r0 := hR1c.c0 hlt2
              have r1 := hR1c.c1 hlt2
              have r2 := hR1c.c2 hlt2
              rw [EA.out] at r0
              rw [EB.out] at r1
              rw [EL.out] at r2
              have hhl := hR1c.lt
              have ca := hD1c.cell hA1
              have cb := hD1c.cell hB1
              have zb := hD1c.fr B1
              have zl := hD1c.lt
              rw [hva] at ca
              rw [hvb] at cb
              have HDc1 := Lib.hid hD1c
              have HRc1 := Lib.hid hR1c
              have HBc1 := Lib.hid hB1c
              have hszc1 := hB1c.size
              clear hD1c hR1c hB1c
              obtain ⟨t1, ht1⟩ : ∃ t, rlc e A1 B1 L = t := ⟨_, rfl⟩
              have HT1 := Lib.hid ht1
              simp only [ht1]
              clear ht1
              go_upto_if 83 with fail
              go_cut [8] (fun fl wz => fl = .bool (f1 || t1) ∧ Dr wz q i cap (rl e A1 B1 L) ∧ Below w.heap.size w wz)
              case first =>
                cases t1
                · have hrl2 : rl e A1 B1 L = e := rl_same HT1.out
                  have HRL2 := Lib.hid hrl2
                  clear hrl2 hva hvb
                  go_wp2
                  go_meet
                  case rel => exact ⟨by simp, by rw [HRL2.out]; exact HDc1.out, HBc1.out⟩
                · have hwr : IntKind.i64.wrap (va + L) = va + L := by rw [IntKind.wrap_i64]; omega
                  have hrl2 : rl e A1 B1 L = fun j => if j = B1 then va + L else e j := by unfold rl; rw [HT1.out, if_pos rfl, hva]
                  have HRL2 := Lib.hid hrl2
                  clear hrl2 hva hvb
                  go_wp2
                  go_region_held3 (fun w' => w'.cell? ⟨h, k * 3, none⟩ = some (.int .i64 (A1 : Int)) ∧ w'.cell? ⟨h, k * 3 + 1, none⟩ = some (.int .i64 (B1 : Int)) ∧ w'.cell? ⟨q, A1, none⟩ = some (.int .i64 va)) ((first | assumption | exact ⟨r0, r1, ca⟩ | (refine keepSt hne hne1 ?_; assumption))) (fail)
                  go_wp2
                  go_meet
                  case rel => exact ⟨by simp, by rw [HRL2.out]; exact (HDc1.out.set _ _).drew, by have := HBc1.out; (with_reducible repeat (first | exact Below.refl _ _ | apply below_alloc | apply below_dN | apply below_d | refine below_setCell ?_ (by dsimp only; omega) | refine below_call (by assumption) ?_))⟩
              case rest =>
              obtain ⟨rfl, hDz, hBz⟩ := hcut
              have hBzs := hBz.size
              have hRdz := hR.below hBz hR.lt
              clear r0 r1 r2 ca cb zb zl hhl hva hvb
              have r0 := hRdz.c0 hlt2
              have r1 := hRdz.c1 hlt2
              have r2 := hRdz.c2 hlt2
              rw [EA.out] at r0
              rw [EB.out] at r1
              rw [EL.out] at r2
              have hhl := hRdz.lt
              obtain ⟨e2, he2⟩ : ∃ x, rl e A1 B1 L = x := ⟨_, rfl⟩
              rw [he2] at hDz s1
              have hps2 : (ps (eN a) (eN b) l d (k + 1)).1 = rl e2 B1 A1 L ∧ (ps (eN a) (eN b) l d (k + 1)).2 = ((f1 || t1) || rlc e2 B1 A1 L) := by rw [HPS.out.1, HPS.out.2, HT1.out, he2]; exact ⟨rfl, rfl⟩
              clear HPS
              have HPS := Lib.hid hps2
              clear hps2 he2
              have hbb := s1.bnd hn hB1
              have hba := s1.bnd hn hA1
              obtain ⟨va, hva⟩ : ∃ v, e2 B1 = v := ⟨_, rfl⟩
              obtain ⟨vb, hvb⟩ : ∃ v, e2 A1 = v := ⟨_, rfl⟩
              have ca := hDz.cell hB1
              have cb := hDz.cell hA1
              have zb := hDz.fr A1
              have zl := hDz.lt
              rw [hva] at ca hbb
              rw [hvb] at cb hba
              have hcl := hDz.le
              have HDz := Lib.hid hDz
              have HBz := Lib.hid hBz
              have HRd2 := Lib.hid hRdz
              clear hDz hBz hRdz
              go_upto_region 20 with fail
              go_cut [135] (fun t wz => t = .bool (rlc e2 B1 A1 L) ∧ Below wc.heap.size wc wz)
              case first =>
                by_cases k1 : 0 ≤ va
                · by_cases k2 : vb < 0
                  · have hrl : rlc e2 B1 A1 L = true := by unfold rlc; rw [hva, hvb]; simp [*]
                    have HRL := Lib.hid hrl
                    clear hrl hva hvb
                    (refine region_below (by kernel_rfl) (by kernel_rfl) ?_; (repeat (first | go_big_quiet_step (fail) | quiet_step (fail))); refine wpQuiet_nil ?_; intro w1 hb; obtain ⟨hc, hfz⟩ := bcell hb; (try simp only [World.heap_drewN] at hc hfz); have hz := hb.size)
                    go_wp2
                    go_meet
                    case rel => exact ⟨by rw [HRL.out], hb⟩
                  · by_cases k3 : va + L < vb
                    · have hrl : rlc e2 B1 A1 L = true := by unfold rlc; rw [hva, hvb]; simp [*]
                      have HRL := Lib.hid hrl
                      clear hrl hva hvb
                      (refine region_below (by kernel_rfl) (by kernel_rfl) ?_; (repeat (first | go_big_quiet_step (fail) | quiet_step (fail))); refine wpQuiet_nil ?_; intro w1 hb; obtain ⟨hc, hfz⟩ := bcell hb; (try simp only [World.heap_drewN] at hc hfz); have hz := hb.size)
                      go_wp2
                      go_meet
                      case rel => exact ⟨by rw [HRL.out], hb⟩
                    · have hrl : rlc e2 B1 A1 L = false := by unfold rlc; rw [hva, hvb]; simp [*]
                      have HRL := Lib.hid hrl
                      clear hrl hva hvb
                      (refine region_below (by kernel_rfl) (by kernel_rfl) ?_; (repeat (first | go_big_quiet_step (fail) | quiet_step (fail))); refine wpQuiet_nil ?_; intro w1 hb; obtain ⟨hc, hfz⟩ := bcell hb; (try simp only [World.heap_drewN] at hc hfz); have hz := hb.size)
                      go_wp2
                      go_meet
                      case rel => exact ⟨by rw [HRL.out], hb⟩
                · have hrl : rlc e2 B1 A1 L = false := by unfold rlc; rw [hva, hvb]; simp [*]
                  have HRL := Lib.hid hrl
                  clear hrl hva hvb
                  (refine region_below (by kernel_rfl) (by kernel_rfl) ?_; (repeat (first | go_big_quiet_step (fail) | quiet_step (fail))); refine wpQuiet_nil ?_; intro w1 hb; obtain ⟨hc, hfz⟩ := bcell hb; (try simp only [World.heap_drewN] at hc hfz); have hz := hb.size)
                  go_wp2
                  go_meet
                  case rel => exact ⟨by rw [HRL.out], hb⟩
              case rest =>
              obtain ⟨rfl, hbc⟩ := hcut
              have hD2c := HDz.out.below hbc
              have hR2c := HRd2.out.below hbc hhl
              have hB2c := HBz.out.trans (hbc.mono HBz.out.size)
              clear r0 r1 r2 ca cb zb zl hhl
              have r0 := hR2c.c0 hlt2
              have r1 := hR2c.c1 hlt2
              have r2 := hR2c.c2 hlt2
              rw [EA.out] at r0
              rw [EB.out] at r1
              rw [EL.out] at r2
              have hhl := hR2c.lt
              have ca := hD2c.cell hB1
              have cb := hD2c.cell hA1
              have zb := hD2c.fr A1
              have zl := hD2c.lt
              rw [hva] at ca
              rw [hvb] at cb
              have HDc2 := Lib.hid hD2c
              have HRc2 := Lib.hid hR2c
              have HBc2 := Lib.hid hB2c
              have hszc2 := hB2c.size
              clear hD2c hR2c hB2c
              obtain ⟨t2, ht2⟩ : ∃ t, rlc e2 B1 A1 L = t := ⟨_, rfl⟩
              have HT2 := Lib.hid ht2
              simp only [ht2]
              clear ht2
              cases t2
              · have hrl2 : rl e2 B1 A1 L = e2 := rl_same HT2.out
                have HRL2 := Lib.hid hrl2
                clear hrl2 hva hvb
                go_wp2
                go_roundw
                case rel => exact ⟨k + 1, by omega, by go_num, by rw [HPS.out.2, HT2.out]; simp, by rw [HPS.out.1, HRL2.out]; exact HDc2.out, HBc2.out⟩
                case measure => first | (simp [intOf]; done) | (simp [intOf]; omega)
              · have hwr : IntKind.i64.wrap (va + L) = va + L := by rw [IntKind.wrap_i64]; omega
                have hrl2 : rl e2 B1 A1 L = fun j => if j = A1 then va + L else e2 j := by unfold rl; rw [HT2.out, if_pos rfl, hva]
                have HRL2 := Lib.hid hrl2
                clear hrl2 hva hvb
                go_wp2
                go_region_held3 (fun w' => w'.cell? ⟨h, k * 3, none⟩ = some (.int .i64 (A1 : Int)) ∧ w'.cell? ⟨h, k * 3 + 1, none⟩ = some (.int .i64 (B1 : Int)) ∧ w'.cell? ⟨q, B1, none⟩ = some (.int .i64 va)) ((first | assumption | exact ⟨r0, r1, ca⟩ | (refine keepSt hne hne1.symm ?_; assumption))) (fail)
                go_wp2
                go_roundw
                case rel => exact ⟨k + 1, by omega, by go_num, by rw [HPS.out.2, HT2.out]; simp, by rw [HPS.out.1, HRL2.out]; exact HDc2.out.drew.set _ _, by have := HBc2.out; (with_reducible repeat (first | exact Below.refl _ _ | apply below_alloc | apply below_dN | apply below_d | refine below_setCell ?_ (by dsimp only; omega) | refine below_call (by assumption) ?_))⟩
                case measure => first | (simp [intOf]; done) | (simp [intOf]; omega)
            · obtain rfl : k = m := by omega
              have HFin := Lib.hid (HRel.out.pass hRd hn)
              have hpk := ps_ok hRd hn HRel.out.1 (Nat.le_refl k)
              have hmw := muw_eq hDk
              have HDk := Lib.hid hDk
              generalize (ps (eN a) (eN b) l d k).1 = d2 at *
              generalize (ps (eN a) (eN b) l d k).2 = c2 at *
              go_wp2
              go_roundw
              case rel => exact ⟨d2, c2, rfl, HDk.out, HFin.out, HBk.out⟩
              case measure =>
                rw [hmw, hmo]
                obtain ⟨-, p2, p3, p4⟩ := hpk
                cases c2
                · show 2 * mu i d2 + 0 < 2 * mu i d + 1; omega
                · have := p3 rfl; show 2 * mu i d2 + 1 < 2 * mu i d + 1; omega
end Go.Proofs.Ytpmeccjfjjklkaa
