/- Contract of spec.RoutePath. No condition. -/
import Derived.Test.YtpmeccjfjjklkaaRtP
import Derived.Test.YtpmeccjfjjklkaaRO
namespace Go.Proofs.Ytpmeccjfjjklkaa
open Go.RowKit
set_option linter.unusedSimpArgs false
/-- What a slice of whole numbers, a number and a word are returned as. -/
def I3Res (K : Bool) (N : Nat) (Dd : Nat → Int) (L : Int) (w : World) (e : Ending) (w' : World) : Prop := ∃ v, e = .returned (.tuple #[v, .int .i64 L, .bool K]) ∧ IArr w' w.heap.size v N Dd ∧ Below w.heap.size w w'
def rpOk (n m : Nat) (X Y : Nat → Nat) (a b l : Nat → Int) (fr tg : Int) : Bool := (rlOk n m X Y a b l fr && rlOk n m X Y a b l tg) && decide (0 ≤ rt n m (eN a) (eN b) l fr.toNat tg.toNat)
def rpL (n m : Nat) (a b l : Nat → Int) (fr tg : Int) : List Nat := (pth m (eN a) (eN b) l (rt n m (eN a) (eN b) l fr.toNat) fr.toNat tg.toNat).reverse
def RPR (n m : Nat) (X Y : Nat → Nat) (a b l : Nat → Int) (fr tg : Int) : World → Ending → World → Prop := I3Res (rpOk n m X Y a b l fr tg) (if rpOk n m X Y a b l fr tg then (rpL n m a b l fr tg).length else 0) (nthI (rpL n m a b l fr tg)) (if rpOk n m X Y a b l fr tg then rt n m (eN a) (eN b) l fr.toNat tg.toNat else 0)
theorem RPR.no {n m : Nat} {X Y : Nat → Nat} {a b l : Nat → Int} {fr tg : Int} {w : World} {e : Ending} {w' : World} (hK : rpOk n m X Y a b l fr tg = false) (h : I3Res false 0 (nthI (rpL n m a b l fr tg)) 0 w e w') : RPR n m X Y a b l fr tg w e w' := by
  unfold RPR
  rw [hK]
  exact h
theorem RPR.yes {n m : Nat} {X Y : Nat → Nat} {a b l : Nat → Int} {fr tg : Int} {w : World} {e : Ending} {w' : World} (hK : rpOk n m X Y a b l fr tg = true) (h : I3Res true (rpL n m a b l fr tg).length (nthI (rpL n m a b l fr tg)) (rt n m (eN a) (eN b) l fr.toNat tg.toNat) w e w') : RPR n m X Y a b l fr tg w e w' := by
  unfold RPR
  rw [hK]
  exact h
theorem I3Res.nil {w w' : World} {Dd : Nat → Int} (h : Below w.heap.size w w') : I3Res false 0 Dd 0 w (.returned (.tuple #[.slice none 0 0, .int .i64 0, .bool false])) w' := ⟨_, rfl, .inl ⟨rfl, rfl⟩, h⟩
theorem drop_rev (xs : List Nat) {i : Nat} (h : i < xs.length) : (xs.drop i).reverse = (xs.drop (i + 1)).reverse ++ [xs[i]] := by
  rw [List.drop_eq_getElem_cons h, List.reverse_cons]
set_option maxRecDepth 100000 in
set_option maxHeartbeats 8000000 in
theorem sRP_c (g h n m cg ch : Nat) (X Y : Nat → Nat) (a b l : Nat → Int) (fr tg : Int) (w : World) (hg : g < w.heap.size) (hn : n ≤ 1048576) (hm : m ≤ 1048576) (hP : PlCells w g n X Y) (hR : RdBlk w h m a b l) :
    Calls Try.prog 40 #[.agg #[.slice (some ⟨g, 0, none⟩) n cg, .slice (some ⟨h, 0, none⟩) m ch], .int .i64 fr, .int .i64 tg] w (RPR n m X Y a b l fr tg w) := by
  have HF := Lib.hid (fun (x : Int) (w' : World) (hB : Below w.heap.size w w') c0 c1 => l07From_c w.heap.size g h n m cg ch X Y a b l x w' hn hm c0 c1 (hP.dn hg hB) (hR.below hB hR.lt))
  have hb0 : Below w.heap.size w (w.alloc (.cells #[.slice (some ⟨g, 0, none⟩) n cg, .slice (some ⟨h, 0, none⟩) m ch] 31)) := by (with_reducible repeat (first | exact Below.refl _ _ | apply below_alloc | apply below_dN | apply below_d | refine below_setCell ?_ (by dsimp only; omega) | refine below_call (by assumption) ?_))
  have hs0 : (w.alloc (.cells #[.slice (some ⟨g, 0, none⟩) n cg, .slice (some ⟨h, 0, none⟩) m ch] 31)).heap.size = w.heap.size + 1 := by simp
  have hN := ntc.newAt (w := w) (p := w.heap.size) (u := .slice (some ⟨g, 0, none⟩) n cg) (v := .slice (some ⟨h, 0, none⟩) m ch) rfl
  cases hq1 : rlOk n m X Y a b l fr
  · refine Calls.mono ?_ (fun e w' h => RPR.no (by unfold rpOk; rw [hq1]; rfl) h)
    have hF1 := HF.out fr; rw [hq1] at hF1; have HF1 := Lib.hid hF1; clear hF1
    clear hP hR hq1 HF
    go_enter Try.func40, Try.ntmps40
    go_wp2_with (go_at_call 60; ((with_reducible refine (HF1.out _ hb0 hN.c0 hN.c1).mono ?_); rintro e wA ⟨⟨v, rfl, rfl⟩, hbA⟩))
    go_ret3
    exact I3Res.nil (hb0.trans (hbA.mono (by omega)))
  · cases hq2 : rlOk n m X Y a b l tg
    · refine Calls.mono ?_ (fun e w' h => RPR.no (by unfold rpOk; rw [hq1, hq2]; rfl) h)
      have hF1 := HF.out fr; rw [hq1] at hF1; have HF1 := Lib.hid hF1; clear hF1
      have hF2 := HF.out tg; rw [hq2] at hF2; have HF2 := Lib.hid hF2; clear hF2
      clear hP hR hq1 hq2 HF
      go_enter Try.func40, Try.ntmps40
      go_wp2_with (first | (go_at_call 60; ((with_reducible refine (HF1.out _ hb0 hN.c0 hN.c1).mono ?_); rintro e wA ⟨⟨v, rfl, rfl⟩, hbA⟩; have hNA := hN.below hbA; have hBA := hb0.trans (hbA.mono (by omega)))) | (go_at_call 60; ((with_reducible refine (HF2.out _ hBA hNA.c0 hNA.c1).mono ?_); rintro e wB ⟨⟨v, rfl, rfl⟩, hbB⟩)))
      go_ret3
      exact I3Res.nil (hBA.trans (hbB.mono hBA.size))
    · obtain ⟨hk, fr, rfl, hf⟩ := rlOk_facts hq1
      obtain ⟨-, tg, rfl, ht⟩ := rlOk_facts hq2
      obtain ⟨⟨hn1, hn64⟩, hm64, hRd, hab⟩ := netOk_facts hk
      have hLong := rt_long hRd hn64 hf
      have hKK : rpOk n m X Y a b l (fr : Int) (tg : Int) = decide (0 ≤ rt n m (eN a) (eN b) l fr tg) := by unfold rpOk; rw [hq1, hq2, Int.toNat_natCast, Int.toNat_natCast]; rfl
      have hno : ∀ {e w'}, ¬ (0 ≤ rt n m (eN a) (eN b) l fr tg) → I3Res false 0 (nthI (rpL n m a b l fr tg)) 0 w e w' → RPR n m X Y a b l fr tg w e w' := fun h1 h2 => RPR.no (hKK.trans (decide_eq_false h1)) h2
      have hyes : ∀ {e w'}, 0 ≤ rt n m (eN a) (eN b) l fr tg → I3Res true (pth m (eN a) (eN b) l (rt n m (eN a) (eN b) l fr) fr tg).reverse.length (nthI (pth m (eN a) (eN b) l (rt n m (eN a) (eN b) l fr) fr tg).reverse) (rt n m (eN a) (eN b) l fr tg) w e w' → RPR n m X Y a b l fr tg w e w' := fun h1 h2 => RPR.yes (hKK.trans (decide_eq_true h1)) (by unfold rpL; rw [Int.toNat_natCast, Int.toNat_natCast]; exact h2)
      have HL := Lib.hid (fun (w' : World) (hB : Below w.heap.size w w') c0 c1 => l07Longs_c w.heap.size g h n m cg ch X Y a b l fr w' hf hk c0 c1 (hR.below hB hR.lt))
      have hF1 := HF.out fr; rw [hq1] at hF1; have HF1 := Lib.hid hF1; clear hF1
      have hF2 := HF.out tg; rw [hq2] at hF2; have HF2 := Lib.hid hF2; clear hF2
      have HRb := Lib.hid hR
      have hhl0 := hR.lt
      clear hP hR hq1 hq2 HF hKK hk
      generalize rt n m (eN a) (eN b) l fr = D at *
      have hbt := hLong.bnd tg ht
      by_cases hd : 0 ≤ D tg
      · refine Calls.mono ?_ (fun e w' h => hyes hd h)
        clear hno hyes
        have hpl := pth_len hLong ht hd
        have hfull : pth m (eN a) (eN b) l D fr tg = tg :: pthT m (eN a) (eN b) l D fr (D tg).toNat tg := rfl
        generalize pth m (eN a) (eN b) l D fr tg = full at *
        have HFULL := Lib.hid hfull
        have HLong := Lib.hid hLong
        have HAB := Lib.hid hab
        have HRd := Lib.hid hRd
        clear hfull hLong hab hRd
        obtain ⟨dt, hdt⟩ : ∃ x, D tg = x := ⟨_, rfl⟩
        have HDT := Lib.hid hdt
        rw [hdt] at hd hbt
        simp only [hdt]
        have hdn : ¬ (dt < 0) := by omega
        obtain ⟨i0, hi, hI0, hI1, hI2⟩ := info_parts info_i64
        go_enter Try.func40, Try.ntmps40
        go_upto_region 3 with (first | (go_at_call 60; ((with_reducible refine (HF1.out _ hb0 hN.c0 hN.c1).mono ?_); rintro e wA ⟨⟨v, rfl, rfl⟩, hbA⟩; have hNA := hN.below hbA; have hBA := hb0.trans (hbA.mono (by omega)))) | (go_at_call 60; ((with_reducible refine (HF2.out _ hBA hNA.c0 hNA.c1).mono ?_); rintro e wB ⟨⟨v, rfl, rfl⟩, hbB⟩)))
        have hBB := hBA.trans (hbB.mono hBA.size)
        have hNB := hNA.below hbB
        have n0 := hNB.c0
        have n1 := hNB.c1
        go_upto_region 4 with (go_at_call 61; ((with_reducible refine (HL.out _ hBB n0 n1).mono ?_); rintro e w2 ⟨q, cap, rfl, hq, hD, hb2⟩))
        have hs1 := hBB.size
        have hs2 := hb2.size
        have HB2 := Lib.hid (hBB.trans (hb2.mono hs1))
        have HN2 := Lib.hid (hNB.below hb2)
        have z0 := hD.cell ht
        rw [HDT.out] at z0
        have zl := hD.lt
        have HD := Lib.hid hD
        have hwl : w.heap.size < w2.heap.size := by have := HN2.out.lt; exact this
        clear hb2 hBB hNB n0 n1 hNA hN hBA hbA hbB hD hb0 hs0 hs1
        go_wp2
        clear z0 zl
        go_loopw [10, 11] (fun bk av wr => ∃ (v f : Nat) (xs : List Nat), v < n ∧ 0 ≤ D v ∧ av = .int .i64 v ∧ (D v).toNat ≤ f ∧ xs ++ pthT m (eN a) (eN b) l D fr f v = full ∧ wr.ownsRow w2.heap.size 2 1 bk xs.length (ivs xs) ∧ Below w2.heap.size w2 wr) (fun _ av _ => (D (intOf av).toNat).toNat)
        case atStart => exact ⟨tg, dt.toNat, [tg], ht, by rw [HDT.out]; exact hd, rfl, by rw [HDT.out]; exact Nat.le_refl _, by rw [HFULL.out, HDT.out]; rfl, ⟨rfl, .inr ⟨w2.heap.size, 1, #[.int .i64 (tg : Int)], rfl, Nat.le_refl _, heap_alloc_new _ _, Nat.le_refl _, by simp [maxLen], rfl, rfl⟩⟩, by (with_reducible repeat (first | exact Below.refl _ _ | apply below_alloc | apply below_dN | apply below_d | refine below_setCell ?_ (by dsimp only; omega) | refine below_call (by assumption) ?_))⟩
        case round =>
          obtain ⟨v, f, xs, hv, hdv0, rfl, hf0, hxs, hown, hB⟩ := hrel
          have hxl : xs.length ≤ 65 := by
            have e := congrArg List.length hxs
            rw [List.length_append] at e
            omega
          have hBs := hB.size
          by_cases ev : v = fr
          · subst ev
            have hx2 : xs = full := by rw [← hxs, pthT_end, List.append_nil]
            rw [hx2] at hown hxl
            clear hx2 hxs
            obtain ⟨g3, cap3, rfl, hg3, hD3⟩ := own_dr (d := nthI full) hown (by omega) (fun j hj => by simp [ivs, nthI, List.getElem?_eq_getElem hj])
            have HD3 := Lib.hid hD3
            have hg3l := hD3.lt
            have HB := Lib.hid hB
            clear hB hown hD3
            obtain ⟨sE, hsE⟩ : ∃ s, wr.heap.size = s := ⟨_, rfl⟩
            have HSE := Lib.hid hsE
            clear hsE
            go_wp2
            go_loopw [16, 17] (fun ov kv wz => ∃ i : Nat, i ≤ full.length ∧ kv = .int .i64 ((i : Int) - 1) ∧ wz.ownsRow sE 2 1 ov (full.drop i).reverse.length (ivs (full.drop i).reverse) ∧ Below wr.heap.size wr wz) (fun _ kv _ => (intOf kv + 1).toNat)
            case atStart => exact ⟨full.length, Nat.le_refl _, rfl, by rw [List.drop_length]; exact ⟨rfl, .inr ⟨wr.heap.size, 0, #[], rfl, by have := HSE.out; omega, heap_alloc_new _ _, Nat.le_refl _, by simp [maxLen], rfl, rfl⟩⟩, by (with_reducible repeat (first | exact Below.refl _ _ | apply below_alloc | apply below_dN | apply below_d | refine below_setCell ?_ (by dsimp only; omega) | refine below_call (by assumption) ?_))⟩
            case round =>
              obtain ⟨i, hi', hkv, hown2, hBz⟩ := hrel
              have hBzs := hBz.size
              cases i with
              | zero =>
                obtain rfl := hkv
                have z0 := ((HD.out.below HB.out).below hBz).cell ht
                rw [HDT.out] at z0
                have zl := ((HD.out.below HB.out).below hBz).lt
                have HBz := Lib.hid hBz
                have HI0 := Lib.hid (own_pk hown2)
                clear hBz hown2
                go_wp2
                (refine region_below (by kernel_rfl) (by kernel_rfl) ?_; (repeat (first | go_big_quiet_step (fail) | quiet_step (fail))); refine wpQuiet_nil ?_; intro w1 hb; obtain ⟨hc, hfz⟩ := bcell hb; (try simp only [World.heap_drewN] at hc hfz); have hz := hb.size)
                go_wp2
                go_ret3
                have hse := HSE.out
                exact ⟨_, rfl, IArr.lo (HI0.out.below hb) (by omega), (HB2.out.trans (HB.out.mono (by omega))).trans ((HBz.out.trans (hb.mono (by omega))).mono (by omega))⟩
              | succ i =>
                obtain rfl : _ = Value.int .i64 (i : Int) := hkv.trans (by congr 1; omega)
                have hil : i < full.length := hi'
                have hdr := drop_rev full hil
                have hl1 : (full.drop (i + 1)).reverse.length + 1 = (full.drop i).reverse.length := by rw [hdr, List.length_append]; rfl
                have hl2 : (full.drop (i + 1)).reverse.length ≤ 65 := by rw [List.length_reverse, List.length_drop]; omega
                have c0 := (HD3.out.below hBz).cell hil
                rw [show nthI full i = ((full[i] : Nat) : Int) by simp [nthI, List.getElem?_eq_getElem hil]] at c0
                have cl := (HD3.out.below hBz).lt
                have HDR := Lib.hid hdr
                have HBz := Lib.hid hBz
                clear hBz hdr hkv
                generalize full[i] = u at c0 HDR
                go_wp2_with (at_builtin; refine wpList_append_own _ rfl (.tmp 118) (.tmp 123) 47 rfl sE 2 i0 (.int .i64 0) 1 8 Try.underlying47 hi hI0 hI1 hI2 rfl (by decide) _ _ _ rfl (hown2.alloc _) ⟨wr.heap.size, 0, none⟩ 1 1 [.int .i64 u] rfl rfl (cell_one_new _ _ _) (by intro u hu; simp at hu; subst hu; rfl) (by unfold maxLen; omega) (by omega) (by simp; have := HSE.out; omega) ?_; intro v1 w5 hown5 hgrow5 hnil5)
                go_roundw
                case rel => exact ⟨i, by omega, by go_num, by rw [← hl1, HDR.out, ivs_snoc]; exact hown5, (HBz.out.alloc hBzs _).grown hgrow5 (by simp; omega) (fun j hj => by have := HSE.out; have := (hown2.lt j hj).1; omega)⟩
                case measure => first | (simp [intOf]; done) | (simp [intOf]; omega)
          · have hev : ((v : Int) != (fr : Int)) = true := bne_iff_ne.2 (by omega)
            obtain ⟨nx1, nx2, nx3, nx4, -⟩ := nx_ok HLong.out hv ev hdv0
            obtain ⟨f, rfl⟩ : ∃ f', f = f' + 1 := ⟨f - 1, by omega⟩
            rw [pthT_step ev] at hxs
            have HNX := Lib.hid nx1
            have HXS := Lib.hid hxs
            have HOWN := Lib.hid hown
            have HB := Lib.hid hB
            have hNr := HN2.out.below hB
            have n0 := hNr.c0
            have n1 := hNr.c1
            have nl := hNr.lt
            have HNr := Lib.hid hNr
            obtain ⟨dv, hdv⟩ : ∃ x, D v = x := ⟨_, rfl⟩
            have HDV := Lib.hid hdv
            have hbv := HLong.out.bnd v hv
            rw [hdv] at hdv0 hbv nx4 hf0
            have HWR := Lib.hid (HRb.out.below (HB2.out.trans (hB.mono (by omega))) hhl0)
            have HDr := Lib.hid (HD.out.below hB)
            clear nx1 hxs hown hB hNr hdv
            go_wp2
            clear n0 n1 nl
            go_loopw [12, 42] (fun nv kv wx => ∃ j : Nat, j ≤ m ∧ kv = .int .i64 j ∧ nv = .int .i64 (bst (eN a) (eN b) l D v j) ∧ Below wr.heap.size wr wx) (fun _ kv _ => m - (intOf kv).toNat)
            case atStart => exact ⟨0, by omega, rfl, rfl, Below.refl _ _⟩
            case round =>
              obtain ⟨j, hj, rfl, rfl, hBx⟩ := hrel
              by_cases hlt2 : j < m
              · obtain ⟨hA1, hB1, hne1, hL1, hL2⟩ := HRd.out j hlt2
                obtain ⟨eA, eB⟩ := HAB.out j hlt2
                have hRx := HWR.out.below hBx HWR.out.lt
                have hDx := HDr.out.below hBx
                have hNx := HNr.out.below hBx
                have n0 := hNx.c0
                have n1 := hNx.c1
                have nl := hNx.lt
                have r0 := hRx.c0 hlt2
                have r1 := hRx.c1 hlt2
                have r2 := hRx.c2 hlt2
                have hhl := hRx.lt
                have ql := hDx.lt
                have cv := hDx.cell hv
                have cA := hDx.cell hA1
                have cB := hDx.cell hB1
                have bA := HLong.out.bnd _ hA1
                have bB := HLong.out.bnd _ hB1
                have hVB : eN a j = v ∨ False → 0 ≤ D (eN b j) := fun e => (HLong.out.step j v (eN b j) hlt2 (.inl ⟨e.resolve_right id, rfl⟩) (by rw [HDV.out]; exact hdv0)).1
                have hVA : eN b j = v ∨ False → 0 ≤ D (eN a j) := fun e => (HLong.out.step j v (eN a j) hlt2 (.inr ⟨e.resolve_right id, rfl⟩) (by rw [HDV.out]; exact hdv0)).1
                have hS : bst (eN a) (eN b) l D v (j + 1) = bt (bst (eN a) (eN b) l D v j) (if eN a j = v then (if D (eN b j) + l j = D v then some (eN b j) else none) else if eN b j = v then (if D (eN a j) + l j = D v then some (eN a j) else none) else none) := rfl
                rw [eA] at r0
                rw [eB] at r1
                rw [HDV.out] at cv hS
                have HS := Lib.hid hS
                have HB := Lib.hid hBx
                clear hS hBx hRx hDx hNx eA eB
                generalize bst (eN a) (eN b) l D v j = x at *
                generalize eN a j = A1 at *
                generalize eN b j = B1 at *
                generalize l j = L at *
                generalize D A1 = vA at *
                generalize D B1 = vB at *
                have hwA : IntKind.i64.wrap (vA + L) = vA + L := by rw [IntKind.wrap_i64]; omega
                have hwB : IntKind.i64.wrap (vB + L) = vB + L := by rw [IntKind.wrap_i64]; omega
                have hwd : IntKind.i64.wrap dv = dv := by rw [IntKind.wrap_i64]; omega
                have hA0 : (0 : Int) ≤ A1 := by omega
                have hB0 : (0 : Int) ≤ B1 := by omega
                by_cases e1 : A1 = v
                · have e1' : (A1 : Int) = (v : Int) := by omega
                  have hvo := hVB (.inl e1)
                  by_cases e2 : vB + L = dv
                  · by_cases e3 : x < 0
                    · have hx : bst (eN a) (eN b) l D v (j + 1) = (B1 : Int) := by rw [HS.out]; rw [if_pos e1, if_pos e2]; exact if_pos (.inl e3)
                      have HX := Lib.hid hx
                      clear hx
                      go_wp2
                      (refine region_below (by kernel_rfl) (by kernel_rfl) ?_; (repeat (first | go_big_quiet_step (fail) | quiet_step (fail))); refine wpQuiet_nil ?_; intro w1 hb; obtain ⟨hc, hfz⟩ := bcell hb; (try simp only [World.heap_drewN] at hc hfz); have hz := hb.size)
                      go_wp2
                      go_roundw
                      case rel => exact ⟨j + 1, by omega, by go_num, by rw [HX.out], HB.out.trans (hb.mono HB.out.size)⟩
                      case measure => first | (simp [intOf]; done) | (simp [intOf]; omega)
                    · by_cases e4 : (B1 : Int) < x
                      · have hx : bst (eN a) (eN b) l D v (j + 1) = (B1 : Int) := by rw [HS.out]; rw [if_pos e1, if_pos e2]; exact if_pos (.inr e4)
                        have HX := Lib.hid hx
                        clear hx
                        go_wp2
                        (refine region_below (by kernel_rfl) (by kernel_rfl) ?_; (repeat (first | go_big_quiet_step (fail) | quiet_step (fail))); refine wpQuiet_nil ?_; intro w1 hb; obtain ⟨hc, hfz⟩ := bcell hb; (try simp only [World.heap_drewN] at hc hfz); have hz := hb.size)
                        go_wp2
                        go_roundw
                        case rel => exact ⟨j + 1, by omega, by go_num, by rw [HX.out], HB.out.trans (hb.mono HB.out.size)⟩
                        case measure => first | (simp [intOf]; done) | (simp [intOf]; omega)
                      · have hx : bst (eN a) (eN b) l D v (j + 1) = x := by rw [HS.out]; rw [if_pos e1, if_pos e2]; exact if_neg (by omega)
                        have HX := Lib.hid hx
                        clear hx
                        go_wp2
                        (refine region_below (by kernel_rfl) (by kernel_rfl) ?_; (repeat (first | go_big_quiet_step (fail) | quiet_step (fail))); refine wpQuiet_nil ?_; intro w1 hb; obtain ⟨hc, hfz⟩ := bcell hb; (try simp only [World.heap_drewN] at hc hfz); have hz := hb.size)
                        go_wp2
                        go_roundw
                        case rel => exact ⟨j + 1, by omega, by go_num, by rw [HX.out], HB.out.trans (hb.mono HB.out.size)⟩
                        case measure => first | (simp [intOf]; done) | (simp [intOf]; omega)
                  · have hx : bst (eN a) (eN b) l D v (j + 1) = x := by rw [HS.out]; rw [if_pos e1, if_neg e2]; rfl
                    have HX := Lib.hid hx
                    clear hx
                    go_wp2
                    (refine region_below (by kernel_rfl) (by kernel_rfl) ?_; (repeat (first | go_big_quiet_step (fail) | quiet_step (fail))); refine wpQuiet_nil ?_; intro w1 hb; obtain ⟨hc, hfz⟩ := bcell hb; (try simp only [World.heap_drewN] at hc hfz); have hz := hb.size)
                    go_wp2
                    go_roundw
                    case rel => exact ⟨j + 1, by omega, by go_num, by rw [HX.out], HB.out.trans (hb.mono HB.out.size)⟩
                    case measure => first | (simp [intOf]; done) | (simp [intOf]; omega)
                · have e1' : ¬ ((A1 : Int) = (v : Int)) := by omega
                  by_cases e5 : B1 = v
                  · have e5' : (B1 : Int) = (v : Int) := by omega
                    have hvo := hVA (.inl e5)
                    by_cases e2 : vA + L = dv
                    · by_cases e3 : x < 0
                      · have hx : bst (eN a) (eN b) l D v (j + 1) = (A1 : Int) := by rw [HS.out]; rw [if_neg e1, if_pos e5, if_pos e2]; exact if_pos (.inl e3)
                        have HX := Lib.hid hx
                        clear hx
                        go_wp2
                        (refine region_below (by kernel_rfl) (by kernel_rfl) ?_; (repeat (first | go_big_quiet_step (fail) | quiet_step (fail))); refine wpQuiet_nil ?_; intro w1 hb; obtain ⟨hc, hfz⟩ := bcell hb; (try simp only [World.heap_drewN] at hc hfz); have hz := hb.size)
                        go_wp2
                        go_roundw
                        case rel => exact ⟨j + 1, by omega, by go_num, by rw [HX.out], HB.out.trans (hb.mono HB.out.size)⟩
                        case measure => first | (simp [intOf]; done) | (simp [intOf]; omega)
                      · by_cases e4 : (A1 : Int) < x
                        · have hx : bst (eN a) (eN b) l D v (j + 1) = (A1 : Int) := by rw [HS.out]; rw [if_neg e1, if_pos e5, if_pos e2]; exact if_pos (.inr e4)
                          have HX := Lib.hid hx
                          clear hx
                          go_wp2
                          (refine region_below (by kernel_rfl) (by kernel_rfl) ?_; (repeat (first | go_big_quiet_step (fail) | quiet_step (fail))); refine wpQuiet_nil ?_; intro w1 hb; obtain ⟨hc, hfz⟩ := bcell hb; (try simp only [World.heap_drewN] at hc hfz); have hz := hb.size)
                          go_wp2
                          go_roundw
                          case rel => exact ⟨j + 1, by omega, by go_num, by rw [HX.out], HB.out.trans (hb.mono HB.out.size)⟩
                          case measure => first | (simp [intOf]; done) | (simp [intOf]; omega)
                        · have hx : bst (eN a) (eN b) l D v (j + 1) = x := by rw [HS.out]; rw [if_neg e1, if_pos e5, if_pos e2]; exact if_neg (by omega)
                          have HX := Lib.hid hx
                          clear hx
                          go_wp2
                          (refine region_below (by kernel_rfl) (by kernel_rfl) ?_; (repeat (first | go_big_quiet_step (fail) | quiet_step (fail))); refine wpQuiet_nil ?_; intro w1 hb; obtain ⟨hc, hfz⟩ := bcell hb; (try simp only [World.heap_drewN] at hc hfz); have hz := hb.size)
                          go_wp2
                          go_roundw
                          case rel => exact ⟨j + 1, by omega, by go_num, by rw [HX.out], HB.out.trans (hb.mono HB.out.size)⟩
                          case measure => first | (simp [intOf]; done) | (simp [intOf]; omega)
                    · have hx : bst (eN a) (eN b) l D v (j + 1) = x := by rw [HS.out]; rw [if_neg e1, if_pos e5, if_neg e2]; rfl
                      have HX := Lib.hid hx
                      clear hx
                      go_wp2
                      (refine region_below (by kernel_rfl) (by kernel_rfl) ?_; (repeat (first | go_big_quiet_step (fail) | quiet_step (fail))); refine wpQuiet_nil ?_; intro w1 hb; obtain ⟨hc, hfz⟩ := bcell hb; (try simp only [World.heap_drewN] at hc hfz); have hz := hb.size)
                      go_wp2
                      go_roundw
                      case rel => exact ⟨j + 1, by omega, by go_num, by rw [HX.out], HB.out.trans (hb.mono HB.out.size)⟩
                      case measure => first | (simp [intOf]; done) | (simp [intOf]; omega)
                  · have e5' : ¬ ((B1 : Int) = (v : Int)) := by omega
                    have hx : bst (eN a) (eN b) l D v (j + 1) = x := by rw [HS.out]; rw [if_neg e1, if_neg e5]; rfl
                    have HX := Lib.hid hx
                    clear hx
                    go_wp2
                    (refine region_below (by kernel_rfl) (by kernel_rfl) ?_; (repeat (first | go_big_quiet_step (fail) | quiet_step (fail))); refine wpQuiet_nil ?_; intro w1 hb; obtain ⟨hc, hfz⟩ := bcell hb; (try simp only [World.heap_drewN] at hc hfz); have hz := hb.size)
                    go_wp2
                    go_roundw
                    case rel => exact ⟨j + 1, by omega, by go_num, by rw [HX.out], HB.out.trans (hb.mono HB.out.size)⟩
                    case measure => first | (simp [intOf]; done) | (simp [intOf]; omega)
              · obtain rfl : j = m := by omega
                rw [HNX.out]
                have hown := own_below HOWN.out hBx
                have hBw := HB.out.trans (hBx.mono hBs)
                have hBws := hBw.size
                have HBw := Lib.hid hBw
                clear hBx hBw
                generalize nx j (eN a) (eN b) l D v = u at *
                go_wp2_with (at_builtin; refine wpList_append_own _ rfl (.tmp 106) (.tmp 108) 47 rfl w2.heap.size 2 i0 (.int .i64 0) 1 8 Try.underlying47 hi hI0 hI1 hI2 rfl (by decide) _ _ _ rfl (hown.alloc _) ⟨wr.heap.size, 0, none⟩ 1 1 [.int .i64 (u : Int)] rfl rfl (cell_one_new _ _ _) (by intro u hu; simp at hu; subst hu; rfl) (by unfold maxLen; omega) (by omega) (by simp; omega) ?_; intro v1 w5 hown5 hgrow5 hnil5)
                go_roundw
                case rel => exact ⟨u, f, xs ++ [u], nx2, nx3, rfl, by omega, by rw [List.append_assoc]; exact HXS.out, by rw [List.length_append, ivs_snoc]; exact hown5, (HBw.out.alloc hBws _).grown hgrow5 (by simp; omega) (fun j hj => (hown.lt j hj).1)⟩
                case measure => simp [intOf, HDV.out]; omega
      · refine Calls.mono ?_ (fun e w' h => hno hd h)
        clear hno hyes
        obtain ⟨dt, hdt⟩ : ∃ x, D tg = x := ⟨_, rfl⟩
        have HDT := Lib.hid hdt
        rw [hdt] at hd hbt
        have hdn : dt < 0 := by omega
        clear hdt
        go_enter Try.func40, Try.ntmps40
        go_upto_region 3 with (first | (go_at_call 60; ((with_reducible refine (HF1.out _ hb0 hN.c0 hN.c1).mono ?_); rintro e wA ⟨⟨v, rfl, rfl⟩, hbA⟩; have hNA := hN.below hbA; have hBA := hb0.trans (hbA.mono (by omega)))) | (go_at_call 60; ((with_reducible refine (HF2.out _ hBA hNA.c0 hNA.c1).mono ?_); rintro e wB ⟨⟨v, rfl, rfl⟩, hbB⟩)))
        have hBB := hBA.trans (hbB.mono hBA.size)
        have hNB := hNA.below hbB
        have n0 := hNB.c0
        have n1 := hNB.c1
        go_upto_region 4 with (go_at_call 61; ((with_reducible refine (HL.out _ hBB n0 n1).mono ?_); rintro e w2 ⟨q, cap, rfl, hq, hD, hb2⟩))
        have z0 := hD.cell ht
        rw [HDT.out] at z0
        have zl := hD.lt
        have HBF := Lib.hid (hBB.trans (hb2.mono hBB.size))
        clear hb2 hBB hNB n0 n1 hNA hN hBA hbA hbB hD hb0 hs0
        go_wp2
        go_ret3
        exact I3Res.nil HBF.out
end Go.Proofs.Ytpmeccjfjjklkaa
