/- The program's cutting of a list. No condition. -/
import Derived.Test.YtnkimeeofmbhkaaCutW
namespace Go.Proofs.Ytnkimeeofmbhkaa
open Go.RowKit
set_option linter.unusedSimpArgs false
attribute [local go_sem ↓] Go.wp_at_zero Go.wp_at_succ
set_option maxRecDepth 100000 in
set_option maxHeartbeats 8000000 in
theorem iCut_c (b n cap br B : Nat) (X Y : Nat → Nat) (w : World) (hB : cn .f32 br = B) (hbl : b < w.heap.size) (hn : n ≤ 1048576) (hP : PlCells w b n X Y) :
    Calls Try.prog 15 #[.slice (some ⟨b, 0, none⟩) n cap, .float .f32 br] w (CutR (cutOk n X Y B) n X Y B w) := by
  have HA := Lib.hid (iArePlaces_c b n cap X Y w hbl hn hP)
  have HI := Lib.hid (fun (w' : World) => inside_c br 3204448256 1056964608 B 3204448256 1056964608 hB (by decide +kernel) (by decide +kernel) w')
  unfold CutR cutOk
  cases ha : arePl n X Y
  · rw [ha] at HA
    clear hP ha
    go_enter Try.func15, Try.ntmps15
    go_wp2_with (first | (go_at_call 42; ((with_reducible refine (HA.out).mono ?_); rintro e w1 ⟨⟨v, rfl, rfl⟩, hb⟩); have hu2 : ∀ n : Nat, n < n + 1 + 1 := (fun n => by omega); have hu3 : ∀ n : Nat, n < n + 1 + 1 + 1 := (fun n => by omega); obtain ⟨hc, hfz⟩ := bcell hb; (try simp only [World.heap_drewN] at hc hfz); have hs_ := hb.size; (try simp at hs_); (try have hz0 : w.heap.size < w1.heap.size := (by omega)); (try have hz1 : w.heap.size + 1 < w1.heap.size := (by omega)); (try have hz2 : w.heap.size + 2 < w1.heap.size := (by omega)); (try have hz3 : w.heap.size + 3 < w1.heap.size := (by omega)); (try have hza : wa.heap.size < w1.heap.size := (by omega)); (try have hza1 : wa.heap.size + 1 < w1.heap.size := (by omega)); (try have hzb : wb.heap.size < w1.heap.size := (by omega)); (try have hzb1 : wb.heap.size + 1 < w1.heap.size := (by omega)); (try have hzc : wc.heap.size < w1.heap.size := (by omega)); (try have hzd : wd.heap.size < w1.heap.size := (by omega))))
    go_ret2
    exact ⟨_, rfl, rfl, by (with_reducible repeat (first | exact Below.refl _ _ | apply below_alloc | apply below_dN | apply below_d | refine below_setCell ?_ (by dsimp only; omega) | refine below_call (by assumption) ?_))⟩
  · rw [ha] at HA
    cases hi : (fge .f32 B 3204448256 && fle .f32 B 1056964608)
    · rw [hi] at HI
      clear hP ha hi
      go_enter Try.func15, Try.ntmps15
      go_wp2_with (first | (go_at_call 42; ((with_reducible refine (HA.out).mono ?_); rintro e w1 ⟨⟨v, rfl, rfl⟩, hb⟩); have hu2 : ∀ n : Nat, n < n + 1 + 1 := (fun n => by omega); have hu3 : ∀ n : Nat, n < n + 1 + 1 + 1 := (fun n => by omega); obtain ⟨hc, hfz⟩ := bcell hb; (try simp only [World.heap_drewN] at hc hfz); have hs_ := hb.size; (try simp at hs_); (try have hz0 : w.heap.size < w1.heap.size := (by omega)); (try have hz1 : w.heap.size + 1 < w1.heap.size := (by omega)); (try have hz2 : w.heap.size + 2 < w1.heap.size := (by omega)); (try have hz3 : w.heap.size + 3 < w1.heap.size := (by omega)); (try have hza : wa.heap.size < w1.heap.size := (by omega)); (try have hza1 : wa.heap.size + 1 < w1.heap.size := (by omega)); (try have hzb : wb.heap.size < w1.heap.size := (by omega)); (try have hzb1 : wb.heap.size + 1 < w1.heap.size := (by omega)); (try have hzc : wc.heap.size < w1.heap.size := (by omega)); (try have hzd : wd.heap.size < w1.heap.size := (by omega))) | (go_at_call 43; ((with_reducible refine (HI.out _).mono ?_); rintro e w1 ⟨⟨v, rfl, rfl⟩, hb⟩); have hu2 : ∀ n : Nat, n < n + 1 + 1 := (fun n => by omega); have hu3 : ∀ n : Nat, n < n + 1 + 1 + 1 := (fun n => by omega); obtain ⟨hc, hfz⟩ := bcell hb; (try simp only [World.heap_drewN] at hc hfz); have hs_ := hb.size; (try simp at hs_); (try have hz0 : w.heap.size < w1.heap.size := (by omega)); (try have hz1 : w.heap.size + 1 < w1.heap.size := (by omega)); (try have hz2 : w.heap.size + 2 < w1.heap.size := (by omega)); (try have hz3 : w.heap.size + 3 < w1.heap.size := (by omega)); (try have hza : wa.heap.size < w1.heap.size := (by omega)); (try have hza1 : wa.heap.size + 1 < w1.heap.size := (by omega)); (try have hzb : wb.heap.size < w1.heap.size := (by omega)); (try have hzb1 : wb.heap.size + 1 < w1.heap.size := (by omega)); (try have hzc : wc.heap.size < w1.heap.size := (by omega)); (try have hzd : wd.heap.size < w1.heap.size := (by omega))))
      go_ret2
      exact ⟨_, rfl, rfl, by (with_reducible repeat (first | exact Below.refl _ _ | apply below_alloc | apply below_dN | apply below_d | refine below_setCell ?_ (by dsimp only; omega) | refine below_call (by assumption) ?_))⟩
    · rw [hi] at HI
      have hbi := border_inn hi
      obtain ⟨hall, hn1, hn64⟩ := arePl_get ha
      clear ha hi
      have HP := Lib.hid hP
      clear hP
      obtain ⟨i0, hti, hI0, hI1, hI2⟩ := info_parts info_plC
      obtain ⟨j0, htj, hJ0, hJ1, hJ2⟩ := info_parts info_slC
      go_enter Try.func15, Try.ntmps15
      go_wp2_with (first | (go_at_call 42; ((with_reducible refine (HA.out).mono ?_); rintro e w1 ⟨⟨v, rfl, rfl⟩, hb⟩); have hu2 : ∀ n : Nat, n < n + 1 + 1 := (fun n => by omega); have hu3 : ∀ n : Nat, n < n + 1 + 1 + 1 := (fun n => by omega); obtain ⟨hc, hfz⟩ := bcell hb; (try simp only [World.heap_drewN] at hc hfz); have hs_ := hb.size; (try simp at hs_); (try have hz0 : w.heap.size < w1.heap.size := (by omega)); (try have hz1 : w.heap.size + 1 < w1.heap.size := (by omega)); (try have hz2 : w.heap.size + 2 < w1.heap.size := (by omega)); (try have hz3 : w.heap.size + 3 < w1.heap.size := (by omega)); (try have hza : wa.heap.size < w1.heap.size := (by omega)); (try have hza1 : wa.heap.size + 1 < w1.heap.size := (by omega)); (try have hzb : wb.heap.size < w1.heap.size := (by omega)); (try have hzb1 : wb.heap.size + 1 < w1.heap.size := (by omega)); (try have hzc : wc.heap.size < w1.heap.size := (by omega)); (try have hzd : wd.heap.size < w1.heap.size := (by omega))) | (go_at_call 43; ((with_reducible refine (HI.out _).mono ?_); rintro e w1 ⟨⟨v, rfl, rfl⟩, hb⟩); have hu2 : ∀ n : Nat, n < n + 1 + 1 := (fun n => by omega); have hu3 : ∀ n : Nat, n < n + 1 + 1 + 1 := (fun n => by omega); obtain ⟨hc, hfz⟩ := bcell hb; (try simp only [World.heap_drewN] at hc hfz); have hs_ := hb.size; (try simp at hs_); (try have hz0 : w.heap.size < w1.heap.size := (by omega)); (try have hz1 : w.heap.size + 1 < w1.heap.size := (by omega)); (try have hz2 : w.heap.size + 2 < w1.heap.size := (by omega)); (try have hz3 : w.heap.size + 3 < w1.heap.size := (by omega)); (try have hza : wa.heap.size < w1.heap.size := (by omega)); (try have hza1 : wa.heap.size + 1 < w1.heap.size := (by omega)); (try have hzb : wb.heap.size < w1.heap.size := (by omega)); (try have hzb1 : wb.heap.size + 1 < w1.heap.size := (by omega)); (try have hzc : wc.heap.size < w1.heap.size := (by omega)); (try have hzd : wd.heap.size < w1.heap.size := (by omega))))
      go_loopw [22, 6, 7] (fun k v bf wr => ∃ i f : Nat, i ≤ n ∧ k = .int .i64 i ∧ bf = .float .f32 f ∧ okf .f32 f ∧ (0 < i → cn .f32 f = EastF B (Y (i - 1))) ∧ CutSt wr w.heap.size v (cutAt B Y) X Y i ∧ Below w.heap.size w wr) (fun k _ _ _ => n - (intOf k).toNat)
      case atStart => exact ⟨0, 0, by omega, rfl, rfl, fun _ => by decide, fun h => absurd h (by omega), CutSt.start (World.ownsRow_nil _ _ _ _), by (with_reducible repeat (first | exact Below.refl _ _ | apply below_alloc | apply below_dN | apply below_d | refine below_setCell ?_ (by dsimp only; omega) | refine below_call (by assumption) ?_))⟩
      case round =>
        obtain ⟨i, f0, hin, rfl, rfl, hof0, hcf0, hS, hBw⟩ := hrel
        clear hb hc hfz hs_ hu2 hu3
        by_cases hlt : i < n
        · obtain ⟨x, y, hx0, hy0, hx, hy⟩ := HP.out i hlt
          have hin4 := east_arg hbi (vplace_num (allP_get hall hlt)).2
          have HALL := Lib.hid hall
          rw [← hBw.cell (p := ⟨b, i * 2, none⟩) hbl] at hx0
          rw [← hBw.cell (p := ⟨b, i * 2 + 1, none⟩) hbl] at hy0
          have hbr : b < wr.heap.size := Nat.lt_of_lt_of_le hbl hBw.size
          have HS := Lib.hid hS
          have HBW := Lib.hid hBw
          have hsW := hBw.size
          clear hS hBw HA HI hall
          go_upto_region 8 with fail
          obtain ⟨V, hV⟩ : ∃ V, wr.alloc (.cells #[.float .f32 x, .float .f32 y] 24) = V := ⟨_, rfl⟩
          have hVb : Below wr.heap.size wr V := by rw [← hV]; exact (Below.refl _ _).alloc (Nat.le_refl _) _
          have hVs : V.heap.size = wr.heap.size + 1 := by rw [← hV]; simp
          have p0 : V.cell? ⟨wr.heap.size, 0, none⟩ = some (.float .f32 x) := by rw [← hV]; simp
          have p1 : V.cell? ⟨wr.heap.size, 1, none⟩ = some (.float .f32 y) := by rw [← hV]; simp
          rw [hV]
          clear hV hx0 hy0
          have HVB := Lib.hid hVb
          have HVS := Lib.hid hVs
          clear hVb hVs
          by_cases hi0 : i = 0
          · subst hi0
            have hct : cutAt B Y 0 = true := rfl
            go_upto_region 10 with (first | (refine wpL_farith rfl _ _ _ _ _ rfl rfl _ _ _ rfl rfl ?_; intro r n hr hw) | (go_at_call 44; have hE : cn .f32 r = fop .sub .f32 (fop .sub .f32 (Y 0) B) 1056964608 := (by simp only [*, cnc_f32_1056964608]); ((with_reducible refine (iWrap_c _ _ hE hin4 _).mono ?_); rintro e w8 ⟨⟨v, rfl, f, rfl, hf0, hwf⟩, hb8⟩); have hf : cn .f32 f = EastF B (Y 0) := hf0; clear hf0 hE))
            have B8 : Below V.heap.size V w8 := by (with_reducible repeat (first | exact Below.refl _ _ | apply below_alloc | apply below_dN | apply below_d | refine below_setCell ?_ (by dsimp only; omega) | refine below_call (by assumption) ?_))
            have hs8 : wr.heap.size + 1 ≤ w8.heap.size := by have := B8.size; have := HVS.out; omega
            have c0 := (B8.cell (p := ⟨wr.heap.size, 0, none⟩) (by have := HVS.out; simp only; omega)).trans p0
            have c1 := (B8.cell (p := ⟨wr.heap.size, 1, none⟩) (by have := HVS.out; simp only; omega)).trans p1
            obtain ⟨vals, xs, hC0, hPX⟩ := HS.out
            have hC := (hC0.below HVB.out).below B8
            have hKi := pK_le (ct := cutAt B Y) 0
            have hu6 : ∀ q, u6.ownBlock = some q → q < wr.heap.size := fun q hq => (hC0.out.lt q hq).2
            obtain ⟨K, hK⟩ : ∃ K, pK (cutAt B Y) 0 = K := ⟨_, rfl⟩
            rw [hK] at hC hKi
            have HPX := Lib.hid hPX
            have HK := Lib.hid hK
            have HB8 := Lib.hid B8
            have HCT := Lib.hid hct
            have hCo := hC.out
            have HC := Lib.hid hC
            have HU6 := Lib.hid hu6
            clear hPX hK B8 hct hC p0 p1 hC0 hu6
            go_upto_region 11 with (at_builtin; refine wpList_append_lies _ rfl (.tmp 42) (.tmp 43) 38 rfl w.heap.size 25 j0 (.slice none 0 0) 1 24 Try.underlying38 htj hJ0 hJ1 hJ2 rfl (by decide) _ _ _ rfl (hCo.alloc _) ⟨w8.heap.size, 0, none⟩ 1 1 [.slice none 0 0] rfl rfl (cell_one_new _ _ _) (by intro u hu; simp at hu; subst hu; rfl) (by omega) (by unfold maxLen; omega) (by omega) (by simp; omega) _ rfl ?_; intro O capO wA hownO hgrowO hatO hltO)
            have hsA : w8.heap.size + 1 ≤ wA.heap.size := by have := hgrowO.size; simpa using this
            have hC5 := (HC.out.below ((Below.refl w8.heap.size w8).alloc (Nat.le_refl _) _)).push (by decide) hgrowO hownO (World.ownsRow_nil _ _ _ _) (by intro j hj q hq; simp [Value.ownBlock])
            have hS12 : S12 O K wr.heap.size 0 (.slice none 0 0) x y wA := by
              obtain ⟨O', cap', e, -, h1, h2, h3⟩ := hC5.form (by omega)
              injection e with e1 e2 e3
              injection e1 with e1
              injection e1 with e1
              subst e1
              have hb : Below w8.heap.size w8 (w8.alloc (.cells #[.slice none 0 0] 25)) := (Below.refl _ _).alloc (Nat.le_refl _) _
              have hne : ∀ o : Nat, some (⟨wr.heap.size, o, none⟩ : Addr).block ≠ u6.ownBlock := fun o e => by have := HU6.out _ e.symm; simp only at this; omega
              refine ⟨by simpa using h2 K (by omega), ?_, ?_, h3 K, h1, by omega⟩
              · exact (hgrowO.cell_far ⟨wr.heap.size, 0, none⟩ (by simp; omega) (hne 0)).trans ((hb.cell (p := ⟨wr.heap.size, 0, none⟩) (by simp only; omega)).trans c0)
              · exact (hgrowO.cell_far ⟨wr.heap.size, 1, none⟩ (by simp; omega) (hne 1)).trans ((hb.cell (p := ⟨wr.heap.size, 1, none⟩) (by simp only; omega)).trans c1)
            have hOne : O ≠ wr.heap.size := by
              rcases hatO with e | e
              · have := HU6.out _ e; omega
              · simp at e; omega
            have hOlo : w.heap.size ≤ O := (hownO.lt O rfl).1
            have HC5 := Lib.hid hC5
            have HGO := Lib.hid hgrowO
            clear hC5 hgrowO hatO hownO hCo
            go_upto_region 12 with fail
            have d0 := hS12.1
            have hk1 : (0 : Int) ≤ (K : Int) := by omega
            have hk2 : (K : Int) < (K : Int) + 1 := by omega
            have d1 := hS12.2.1
            have d2 := hS12.2.2.1
            have d3 := hS12.2.2.2.2.2
            go_region_law ((refine step_append_lies _ (by rfl) (.tmp 53) (.tmp 55) 25 (by rfl) w.heap.size 24 i0 (.agg #[.float .f32 0, .float .f32 0]) 2 8 Try.underlying25 hti hI0 hI1 hI2 (by rfl) (by decide) (.slice none 0 0) 0 [] (by rfl) (World.ownsRow_nil _ _ _ _) ⟨wA.heap.size, 0, none⟩ 1 1 [.float .f32 x, .float .f32 y] (by rfl) (by rfl) (World.news_of_block (cs := #[.float .f32 x, .float .f32 y]) (t := 24) (fr := (0, 0)) (heap_alloc_new wA _)) (by simp [Value.oneCell']) (by omega) (by unfold maxLen; omega) (by omega) (by simp; omega) (wA.heap.size + 1) (by simp) ?_; intro g6 c6 wB hownB hgrowB hatB hltB; have hkB := (hS12.alloc _).grown (grown_drew hgrowB) (by simp [Value.ownBlock]) (by simp [Value.ownBlock]); have q1 := hkB.1; have q4 := hkB.2.2.2.1))
            all_goals
              have hfin : CutSt (wB.setCell ⟨O, K, none⟩ (.slice (some ⟨g6, 0, none⟩) 1 c6)) w.heap.size (.slice (some ⟨O, 0, none⟩) (K + 1) capO) (cutAt B Y) X Y (0 + 1) := CutSt.fresh HC5.out HK.out HPX.out HCT.out hx hy (grown_drew hgrowB) (by simpa using hownB) (by simpa using hatB) (by omega)
              have hB1 : Below w.heap.size w w8 := HBW.out.trans ((HVB.out.mono hsW).trans (HB8.out.mono (by have := HVS.out; omega)))
              have hB2 := (hB1.alloc (by omega) _).grown HGO.out (by simp; omega) (fun j hj => (HC.out.out.lt j hj).1)
              have hB3 := (hB2.alloc (by omega) _).grown (grown_drew hgrowB) (by simp; omega) (fun j hj => by simp [Value.ownBlock] at hj)
              have hB4 : Below w.heap.size w (wB.setCell ⟨O, K, none⟩ (.slice (some ⟨g6, 0, none⟩) 1 c6)) := hB3.setCell (p := ⟨O, K, none⟩) hOlo _
              have HFIN := Lib.hid hfin
              have HB4 := Lib.hid hB4
              clear hfin hB1 hB2 hB3 hB4 hownB hgrowB hatB q1 q4 hS12
              go_wp2
              go_roundw
              case rel => exact ⟨0 + 1, f, by omega, by go_num, rfl, hwf, fun _ => by simpa using hf, HFIN.out, HB4.out⟩
              case measure => first | (simp [intOf]; done) | (simp [intOf]; omega)
          · have hi' : 0 < i := by omega
            have hiz : ((i : Int) == 0) = false := by simp; omega
            have hinP := east_arg hbi (vplace_num (allP_get HALL.out (show i - 1 < n by omega))).2
            have hdi : inn .f32 (fop .sub .f32 (EastF B (Y i)) (EastF B (Y (i - 1)))) (-128) 128 := diff_inn (Wrap_inn hin4) (Wrap_inn hinP)
            have hcf := hcf0 hi'
            clear hcf0 hinP
            cases hct : cutAt B Y i
            · have hgt : fgt .f32 (szI (fop .sub .f32 (EastF B (Y i)) (EastF B (Y (i - 1))))) 1056964608 = false := by unfold cutAt at hct; rw [if_neg hi0] at hct; exact hct
              go_upto_region 11 with (first | (go_at_call 44; have hE : cn .f32 r = fop .sub .f32 (fop .sub .f32 (Y i) B) 1056964608 := (by simp only [*, cnc_f32_1056964608]); ((with_reducible refine (iWrap_c _ _ hE hin4 _).mono ?_); rintro e w8 ⟨⟨v, rfl, f, rfl, hf0, hwf⟩, hb8⟩); have hf : cn .f32 f = EastF B (Y i) := hf0; clear hf0 hE) | (go_at_call 45; have hE2 : cn .f32 r = fop .sub .f32 (EastF B (Y i)) (EastF B (Y (i - 1))) := (by simp only [*]); ((with_reducible refine (absolute_c _ _ hE2 hdi _).mono ?_); rintro e w9 ⟨⟨v, rfl, q, rfl, hq, hwq⟩, hb9⟩)) | (refine wpL_farith rfl _ _ _ _ _ rfl rfl _ _ _ rfl rfl ?_; intro r n hr hw))
              have B8 : Below V.heap.size V w9 := by (with_reducible repeat (first | exact Below.refl _ _ | apply below_alloc | apply below_dN | apply below_d | refine below_setCell ?_ (by dsimp only; omega) | refine below_call (by assumption) ?_))
              have hs8 : wr.heap.size + 1 ≤ w9.heap.size := by have := B8.size; have := HVS.out; omega
              have c0 := (B8.cell (p := ⟨wr.heap.size, 0, none⟩) (by have := HVS.out; simp only; omega)).trans p0
              have c1 := (B8.cell (p := ⟨wr.heap.size, 1, none⟩) (by have := HVS.out; simp only; omega)).trans p1
              obtain ⟨vals, xs, hC0, hPX⟩ := HS.out
              have hKi := pK_le (ct := cutAt B Y) i
              obtain ⟨K, hK⟩ : ∃ K, pK (cutAt B Y) i = K + 1 := ⟨pK (cutAt B Y) i - 1, by have := pK_pos (ct := cutAt B Y) rfl i hi'; omega⟩
              have hLi := p_in (ct := cutAt B Y) i K (by omega)
              rw [hK] at hC0 hKi
              obtain ⟨O, capO, rfl, hOlo, hOlt, -, -⟩ := hC0.form (by omega)
              have hC := (hC0.below HVB.out).below B8
              obtain ⟨O', cap', e, -, h1, h2, h3⟩ := hC.form (by omega)
              injection e with e1 e2 e3
              injection e1 with e1
              injection e1 with e1
              subst e1 e3
              have hOne : O ≠ wr.heap.size := by omega
              obtain ⟨u, hu⟩ : ∃ u, vals K = u := ⟨_, rfl⟩
              obtain ⟨l, hl⟩ : ∃ l, pL (cutAt B Y) i K = l := ⟨_, rfl⟩
              have hin0 := hC0.inn K (by omega)
              have hinK := hC.inn K (by omega)
              rw [hu] at hin0 hinK
              have hS12 : S12 O K wr.heap.size 0 u x y w9 := ⟨by rw [← hu]; exact h2 K (by omega), c0, c1, h3 K, h1, by omega⟩
              have hneO : u.ownBlock ≠ some O := own_two hC0.out hin0 (by decide) rfl
              have hneQ : u.ownBlock ≠ some wr.heap.size := fun e => by have := (hin0.lt _ e).2; omega
              rw [hl] at hinK hLi
              have HIO : ∀ j, u.ownBlock = some j → w.heap.size ≤ j := fun j hj => (hinK.lt j hj).1
              have HPX := Lib.hid hPX
              have HK := Lib.hid hK
              have HU := Lib.hid hu
              have HL := Lib.hid hl
              have HB8 := Lib.hid B8
              have HCT := Lib.hid hct
              have HC := Lib.hid hC
              clear hPX hK B8 hct hC p0 p1 hC0 hin0 hu hl h2 h3
              go_upto_region 12 with fail
              have d0 := hS12.1
              have hk1 : (0 : Int) ≤ (K : Int) := by omega
              have hk2 : (K : Int) < (K : Int) + 1 := by omega
              have d1 := hS12.2.1
              have d2 := hS12.2.2.1
              have d3 := hS12.2.2.2.2.2
              go_region_law ((refine step_append_lies _ (by rfl) (.tmp 53) (.tmp 55) 25 (by rfl) w.heap.size 24 i0 (.agg #[.float .f32 0, .float .f32 0]) 2 8 Try.underlying25 hti hI0 hI1 hI2 (by rfl) (by decide) u l (xs K) (by rfl) ((hinK.alloc _).drew) ⟨w9.heap.size, 0, none⟩ 1 1 [.float .f32 x, .float .f32 y] (by rfl) (by rfl) (World.news_of_block (cs := #[.float .f32 x, .float .f32 y]) (t := 24) (fr := (0, 0)) (heap_alloc_new w9 _)) (by simp [Value.oneCell']) (by omega) (by unfold maxLen; omega) (by omega) (by simp; omega) (w9.heap.size + 1) (by simp) ?_; intro g6 c6 wB hownB hgrowB hatB hltB; have hkB := (hS12.alloc _).grown (grown_drew hgrowB) hneO hneQ; have q1 := hkB.1; have q4 := hkB.2.2.2.1))
              all_goals
                have hfin : CutSt (wB.setCell ⟨O, K, none⟩ (.slice (some ⟨g6, 0, none⟩) (l + 1) c6)) w.heap.size (.slice (some ⟨O, 0, none⟩) (K + 1) capO) (cutAt B Y) X Y (i + 1) := CutSt.old HC.out HK.out HPX.out HCT.out rfl hi' HL.out hx hy (by rw [HU.out]; exact grown_drew hgrowB) hownB (by rw [HU.out]; exact hatB) (by omega)
                have hB1 : Below w.heap.size w w9 := HBW.out.trans ((HVB.out.mono hsW).trans (HB8.out.mono (by have := HVS.out; omega)))
                have hB3 := (hB1.alloc (by omega) _).grown (grown_drew hgrowB) (by simp; omega) (fun j hj => HIO j hj)
                have hB4 : Below w.heap.size w (wB.setCell ⟨O, K, none⟩ (.slice (some ⟨g6, 0, none⟩) (l + 1) c6)) := hB3.setCell (p := ⟨O, K, none⟩) hOlo _
                have HFIN := Lib.hid hfin
                have HB4 := Lib.hid hB4
                clear hfin hB1 hB3 hB4 hownB hgrowB hatB q1 q4 hS12
                go_wp2
                go_roundw
                case rel => exact ⟨i + 1, f, by omega, by go_num, rfl, hwf, fun _ => by simpa using hf, HFIN.out, HB4.out⟩
                case measure => first | (simp [intOf]; done) | (simp [intOf]; omega)
            · have hgt : fgt .f32 (szI (fop .sub .f32 (EastF B (Y i)) (EastF B (Y (i - 1))))) 1056964608 = true := by unfold cutAt at hct; rw [if_neg hi0] at hct; exact hct
              go_upto_region 10 with (first | (go_at_call 44; have hE : cn .f32 r = fop .sub .f32 (fop .sub .f32 (Y i) B) 1056964608 := (by simp only [*, cnc_f32_1056964608]); ((with_reducible refine (iWrap_c _ _ hE hin4 _).mono ?_); rintro e w8 ⟨⟨v, rfl, f, rfl, hf0, hwf⟩, hb8⟩); have hf : cn .f32 f = EastF B (Y i) := hf0; clear hf0 hE) | (go_at_call 45; have hE2 : cn .f32 r = fop .sub .f32 (EastF B (Y i)) (EastF B (Y (i - 1))) := (by simp only [*]); ((with_reducible refine (absolute_c _ _ hE2 hdi _).mono ?_); rintro e w9 ⟨⟨v, rfl, q, rfl, hq, hwq⟩, hb9⟩)) | (refine wpL_farith rfl _ _ _ _ _ rfl rfl _ _ _ rfl rfl ?_; intro r n hr hw))
              have B8 : Below V.heap.size V w9 := by (with_reducible repeat (first | exact Below.refl _ _ | apply below_alloc | apply below_dN | apply below_d | refine below_setCell ?_ (by dsimp only; omega) | refine below_call (by assumption) ?_))
              have hs8 : wr.heap.size + 1 ≤ w9.heap.size := by have := B8.size; have := HVS.out; omega
              have c0 := (B8.cell (p := ⟨wr.heap.size, 0, none⟩) (by have := HVS.out; simp only; omega)).trans p0
              have c1 := (B8.cell (p := ⟨wr.heap.size, 1, none⟩) (by have := HVS.out; simp only; omega)).trans p1
              obtain ⟨vals, xs, hC0, hPX⟩ := HS.out
              have hC := (hC0.below HVB.out).below B8
              have hKi := pK_le (ct := cutAt B Y) i
              have hu6 : ∀ q, u6.ownBlock = some q → q < wr.heap.size := fun q hq => (hC0.out.lt q hq).2
              obtain ⟨K, hK⟩ : ∃ K, pK (cutAt B Y) i = K := ⟨_, rfl⟩
              rw [hK] at hC hKi
              have HPX := Lib.hid hPX
              have HK := Lib.hid hK
              have HB8 := Lib.hid B8
              have HCT := Lib.hid hct
              have hCo := hC.out
              have HC := Lib.hid hC
              have HU6 := Lib.hid hu6
              clear hPX hK B8 hct hC p0 p1 hC0 hu6
              go_upto_region 11 with (at_builtin; refine wpList_append_lies _ rfl (.tmp 42) (.tmp 43) 38 rfl w.heap.size 25 j0 (.slice none 0 0) 1 24 Try.underlying38 htj hJ0 hJ1 hJ2 rfl (by decide) _ _ _ rfl (hCo.alloc _) ⟨w9.heap.size, 0, none⟩ 1 1 [.slice none 0 0] rfl rfl (cell_one_new _ _ _) (by intro u hu; simp at hu; subst hu; rfl) (by omega) (by unfold maxLen; omega) (by omega) (by simp; omega) _ rfl ?_; intro O capO wA hownO hgrowO hatO hltO)
              have hsA : w9.heap.size + 1 ≤ wA.heap.size := by have := hgrowO.size; simpa using this
              have hC5 := (HC.out.below ((Below.refl w9.heap.size w9).alloc (Nat.le_refl _) _)).push (by decide) hgrowO hownO (World.ownsRow_nil _ _ _ _) (by intro j hj q hq; simp [Value.ownBlock])
              have hS12 : S12 O K wr.heap.size 0 (.slice none 0 0) x y wA := by
                obtain ⟨O', cap', e, -, h1, h2, h3⟩ := hC5.form (by omega)
                injection e with e1 e2 e3
                injection e1 with e1
                injection e1 with e1
                subst e1
                have hb : Below w9.heap.size w9 (w9.alloc (.cells #[.slice none 0 0] 25)) := (Below.refl _ _).alloc (Nat.le_refl _) _
                have hne : ∀ o : Nat, some (⟨wr.heap.size, o, none⟩ : Addr).block ≠ u6.ownBlock := fun o e => by have := HU6.out _ e.symm; simp only at this; omega
                refine ⟨by simpa using h2 K (by omega), ?_, ?_, h3 K, h1, by omega⟩
                · exact (hgrowO.cell_far ⟨wr.heap.size, 0, none⟩ (by simp; omega) (hne 0)).trans ((hb.cell (p := ⟨wr.heap.size, 0, none⟩) (by simp only; omega)).trans c0)
                · exact (hgrowO.cell_far ⟨wr.heap.size, 1, none⟩ (by simp; omega) (hne 1)).trans ((hb.cell (p := ⟨wr.heap.size, 1, none⟩) (by simp only; omega)).trans c1)
              have hOne : O ≠ wr.heap.size := by
                rcases hatO with e | e
                · have := HU6.out _ e; omega
                · simp at e; omega
              have hOlo : w.heap.size ≤ O := (hownO.lt O rfl).1
              have HC5 := Lib.hid hC5
              have HGO := Lib.hid hgrowO
              clear hC5 hgrowO hatO hownO hCo
              go_upto_region 12 with fail
              have d0 := hS12.1
              have hk1 : (0 : Int) ≤ (K : Int) := by omega
              have hk2 : (K : Int) < (K : Int) + 1 := by omega
              have d1 := hS12.2.1
              have d2 := hS12.2.2.1
              have d3 := hS12.2.2.2.2.2
              go_region_law ((refine step_append_lies _ (by rfl) (.tmp 53) (.tmp 55) 25 (by rfl) w.heap.size 24 i0 (.agg #[.float .f32 0, .float .f32 0]) 2 8 Try.underlying25 hti hI0 hI1 hI2 (by rfl) (by decide) (.slice none 0 0) 0 [] (by rfl) (World.ownsRow_nil _ _ _ _) ⟨wA.heap.size, 0, none⟩ 1 1 [.float .f32 x, .float .f32 y] (by rfl) (by rfl) (World.news_of_block (cs := #[.float .f32 x, .float .f32 y]) (t := 24) (fr := (0, 0)) (heap_alloc_new wA _)) (by simp [Value.oneCell']) (by omega) (by unfold maxLen; omega) (by omega) (by simp; omega) (wA.heap.size + 1) (by simp) ?_; intro g6 c6 wB hownB hgrowB hatB hltB; have hkB := (hS12.alloc _).grown (grown_drew hgrowB) (by simp [Value.ownBlock]) (by simp [Value.ownBlock]); have q1 := hkB.1; have q4 := hkB.2.2.2.1))
              all_goals
                have hfin : CutSt (wB.setCell ⟨O, K, none⟩ (.slice (some ⟨g6, 0, none⟩) 1 c6)) w.heap.size (.slice (some ⟨O, 0, none⟩) (K + 1) capO) (cutAt B Y) X Y (i + 1) := CutSt.fresh HC5.out HK.out HPX.out HCT.out hx hy (grown_drew hgrowB) (by simpa using hownB) (by simpa using hatB) (by omega)
                have hB1 : Below w.heap.size w w9 := HBW.out.trans ((HVB.out.mono hsW).trans (HB8.out.mono (by have := HVS.out; omega)))
                have hB2 := (hB1.alloc (by omega) _).grown HGO.out (by simp; omega) (fun j hj => (HC.out.out.lt j hj).1)
                have hB3 := (hB2.alloc (by omega) _).grown (grown_drew hgrowB) (by simp; omega) (fun j hj => by simp [Value.ownBlock] at hj)
                have hB4 : Below w.heap.size w (wB.setCell ⟨O, K, none⟩ (.slice (some ⟨g6, 0, none⟩) 1 c6)) := hB3.setCell (p := ⟨O, K, none⟩) hOlo _
                have HFIN := Lib.hid hfin
                have HB4 := Lib.hid hB4
                clear hfin hB1 hB2 hB3 hB4 hownB hgrowB hatB q1 q4 hS12
                go_wp2
                go_roundw
                case rel => exact ⟨i + 1, f, by omega, by go_num, rfl, hwf, fun _ => by simpa using hf, HFIN.out, HB4.out⟩
                case measure => first | (simp [intOf]; done) | (simp [intOf]; omega)
        · obtain rfl : i = n := by omega
          have HS := Lib.hid hS
          have HBW := Lib.hid hBw
          clear hS hBw
          go_wp2
          go_ret2
          exact ⟨_, rfl, HS.out, HBW.out⟩
end Go.Proofs.Ytnkimeeofmbhkaa
