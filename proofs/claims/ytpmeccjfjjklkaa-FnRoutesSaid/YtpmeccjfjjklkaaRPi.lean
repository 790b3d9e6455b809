/- Contract of impl.RoutePath. No condition. -/
import Derived.Test.YtpmeccjfjjklkaaRPs
import Derived.Test.YtpmeccjfjjklkaaRev
namespace Go.Proofs.Ytpmeccjfjjklkaa
open Go.RowKit
set_option linter.unusedSimpArgs false
/-- The best other end behind the first of a road's two ways. -/
def wb (A B : Nat) (L : Int) (D : Nat → Int) (v : Nat) (x : Int) : Nat → Int
  | 0 => x
  | j + 1 => bt (wb A B L D v x j) (if xw B A j = v then (if D (xw A B j) + L = D v then some (xw A B j) else none) else none)
theorem wb_two {a b : Nat → Nat} {l : Nat → Int} {D : Nat → Int} {v k : Nat} (hab : a k ≠ b k) : wb (a k) (b k) (l k) D v (bst a b l D v k) 2 = bst a b l D v (k + 1) := by
  have h0 : wb (a k) (b k) (l k) D v (bst a b l D v k) 2 = bt (bt (bst a b l D v k) (if b k = v then (if D (a k) + l k = D v then some (a k) else none) else none)) (if a k = v then (if D (b k) + l k = D v then some (b k) else none) else none) := rfl
  have h1 : bst a b l D v (k + 1) = bt (bst a b l D v k) (if a k = v then (if D (b k) + l k = D v then some (b k) else none) else if b k = v then (if D (a k) + l k = D v then some (a k) else none) else none) := rfl
  rw [h0, h1]
  by_cases e1 : a k = v
  · have e2 : ¬ b k = v := fun e => hab (e1.trans e.symm)
    simp only [if_neg e2, if_pos e1]
    rfl
  · simp only [if_neg e1]
    rfl
theorem wb_bnd {A B : Nat} {L : Int} {D : Nat → Int} {v : Nat} {x : Int} (h : -1 ≤ x) : ∀ j, -1 ≤ wb A B L D v x j
  | 0 => h
  | j + 1 => by
    have ih := wb_bnd (A := A) (B := B) (L := L) (D := D) (v := v) h j
    show -1 ≤ bt _ _
    unfold bt
    split
    · exact ih
    · split <;> omega
theorem bst_bnd {a b : Nat → Nat} {l : Nat → Int} {D : Nat → Int} {v k : Nat} : -1 ≤ bst a b l D v k := by
  rcases bst_mem (a := a) (b := b) (l := l) (D := D) (v := v) (k := k) with ⟨h, -⟩ | ⟨j, u, -, -, h⟩ <;> omega
theorem nthI_rev {l : List Nat} {j : Nat} (h : j < l.length) : nthI l.reverse j = nthI l (l.length - 1 - j) := by
  unfold nthI
  rw [List.getElem?_reverse h]
set_option maxRecDepth 100000 in
set_option maxHeartbeats 8000000 in
theorem iRP_c (g h n m cg ch : Nat) (X Y : Nat → Nat) (a b l : Nat → Int) (fr tg : Int) (w : World) (hg : g < w.heap.size) (hn : n ≤ 1048576) (hm : m ≤ 1048576) (hP : PlCells w g n X Y) (hR : RdBlk w h m a b l) :
    Calls Try.prog 41 #[.agg #[.slice (some ⟨g, 0, none⟩) n cg, .slice (some ⟨h, 0, none⟩) m ch], .int .i64 fr, .int .i64 tg] w (RPR n m X Y a b l fr tg w) := by
  have HF := Lib.hid (fun (x : Int) (w' : World) (hB : Below w.heap.size w w') => isStop_c g h n m cg ch X Y a b l x w' (Nat.lt_of_lt_of_le hg hB.size) hn hm (hP.dn hg hB) (hR.below hB hR.lt))
  have hb0 : Below w.heap.size w (w.alloc (.cells #[.slice (some ⟨g, 0, none⟩) n cg, .slice (some ⟨h, 0, none⟩) m ch] 31)) := by (with_reducible repeat (first | exact Below.refl _ _ | apply below_alloc | apply below_dN | apply below_d | refine below_setCell ?_ (by dsimp only; omega) | refine below_call (by assumption) ?_))
  have hs0 : (w.alloc (.cells #[.slice (some ⟨g, 0, none⟩) n cg, .slice (some ⟨h, 0, none⟩) m ch] 31)).heap.size = w.heap.size + 1 := by simp
  have hN := ntc.newAt (w := w) (p := w.heap.size) (u := .slice (some ⟨g, 0, none⟩) n cg) (v := .slice (some ⟨h, 0, none⟩) m ch) rfl
  cases hq1 : rlOk n m X Y a b l fr
  · refine Calls.mono ?_ (fun e w' h => RPR.no (by unfold rpOk; rw [hq1]; rfl) h)
    have hF1 := HF.out fr; rw [hq1] at hF1; have HF1 := Lib.hid hF1; clear hF1
    clear hP hR hq1 HF
    go_enter Try.func41, Try.ntmps41
    go_wp2_with (go_at_call 62; ((with_reducible refine (HF1.out _ hb0).mono ?_); rintro e wA ⟨⟨v, rfl, rfl⟩, hbA⟩))
    go_ret3
    exact I3Res.nil (hb0.trans (hbA.mono (by omega)))
  · cases hq2 : rlOk n m X Y a b l tg
    · refine Calls.mono ?_ (fun e w' h => RPR.no (by unfold rpOk; rw [hq1, hq2]; rfl) h)
      have hF1 := HF.out fr; rw [hq1] at hF1; have HF1 := Lib.hid hF1; clear hF1
      have hF2 := HF.out tg; rw [hq2] at hF2; have HF2 := Lib.hid hF2; clear hF2
      clear hP hR hq1 hq2 HF
      go_enter Try.func41, Try.ntmps41
      go_wp2_with (first | (go_at_call 62; ((with_reducible refine (HF1.out _ hb0).mono ?_); rintro e wA ⟨⟨v, rfl, rfl⟩, hbA⟩; have hNA := hN.below hbA; have hBA := hb0.trans (hbA.mono (by omega)); have na0 := hNA.c0; have na1 := hNA.c1; have nal := hNA.lt)) | (go_at_call 62; ((with_reducible refine (HF2.out _ hBA).mono ?_); rintro e wB ⟨⟨v, rfl, rfl⟩, hbB⟩)))
      go_ret3
      exact I3Res.nil (hBA.trans (hbB.mono hBA.size))
    · obtain ⟨hk, fr, rfl, hf⟩ := rlOk_facts hq1
      obtain ⟨-, tg, rfl, ht⟩ := rlOk_facts hq2
      obtain ⟨⟨hn1, hn64⟩, hm64, hRd, hab⟩ := netOk_facts hk
      have hLong := rt_long hRd hn64 hf
      have hKK : rpOk n m X Y a b l (fr : Int) (tg : Int) = decide (0 ≤ rt n m (eN a) (eN b) l fr tg) := by unfold rpOk; rw [hq1, hq2, Int.toNat_natCast, Int.toNat_natCast]; rfl
      have hno : ∀ {e w'}, ¬ (0 ≤ rt n m (eN a) (eN b) l fr tg) → I3Res false 0 (nthI (rpL n m a b l fr tg)) 0 w e w' → RPR n m X Y a b l fr tg w e w' := fun h1 h2 => RPR.no (hKK.trans (decide_eq_false h1)) h2
      have hyes : ∀ {e w'}, 0 ≤ rt n m (eN a) (eN b) l fr tg → I3Res true (pth m (eN a) (eN b) l (rt n m (eN a) (eN b) l fr) fr tg).reverse.length (nthI (pth m (eN a) (eN b) l (rt n m (eN a) (eN b) l fr) fr tg).reverse) (rt n m (eN a) (eN b) l fr tg) w e w' → RPR n m X Y a b l fr tg w e w' := fun h1 h2 => RPR.yes (hKK.trans (decide_eq_true h1)) (by unfold rpL; rw [Int.toNat_natCast, Int.toNat_natCast]; exact h2)
      have HL := Lib.hid (fun (w' : World) (hB : Below w.heap.size w w') => routes_c g h n m cg ch X Y a b l fr w' hf hk (hR.below hB hR.lt))
      have hF1 := HF.out fr; rw [hq1] at hF1; have HF1 := Lib.hid hF1; clear hF1
      have hF2 := HF.out tg; rw [hq2] at hF2; have HF2 := Lib.hid hF2; clear hF2
      have HRb := Lib.hid hR
      have hhl0 := hR.lt
      clear hP hR hq1 hq2 HF hKK hk
      generalize rt n m (eN a) (eN b) l fr = D at *
      have hbt := hLong.bnd tg ht
      by_cases hd : 0 ≤ D tg
      · refine Calls.mono ?_ (fun e w' h => hyes hd h)
        clear hno hyes
        have hpl := pth_len hLong ht hd
        have hfull : pth m (eN a) (eN b) l D fr tg = tg :: pthT m (eN a) (eN b) l D fr (D tg).toNat tg := rfl
        generalize pth m (eN a) (eN b) l D fr tg = full at *
        have HFULL := Lib.hid hfull
        have HLong := Lib.hid hLong
        have HAB := Lib.hid hab
        have HRd := Lib.hid hRd
        clear hfull hLong hab hRd
        obtain ⟨dt, hdt⟩ : ∃ x, D tg = x := ⟨_, rfl⟩
        have HDT := Lib.hid hdt
        rw [hdt] at hd hbt
        simp only [hdt]
        have hdn : ¬ (dt < 0) := by omega
        obtain ⟨i0, hi, hI0, hI1, hI2⟩ := info_parts info_i64
        go_enter Try.func41, Try.ntmps41
        go_upto_region 3 with (first | (go_at_call 62; ((with_reducible refine (HF1.out _ hb0).mono ?_); rintro e wA ⟨⟨v, rfl, rfl⟩, hbA⟩; have hNA := hN.below hbA; have hBA := hb0.trans (hbA.mono (by omega)); have na0 := hNA.c0; have na1 := hNA.c1; have nal := hNA.lt)) | (go_at_call 62; ((with_reducible refine (HF2.out _ hBA).mono ?_); rintro e wB ⟨⟨v, rfl, rfl⟩, hbB⟩)))
        have hBB := hBA.trans (hbB.mono hBA.size)
        have hNB := hNA.below hbB
        clear na0 na1 nal
        have n0 := hNB.c0
        have n1 := hNB.c1
        have nl := hNB.lt
        go_upto_region 4 with (go_at_call 63; ((with_reducible refine (HL.out _ hBB).mono ?_); rintro e w2 ⟨q, cap, rfl, hq, hD, hb2⟩))
        have hs1 := hBB.size
        have hs2 := hb2.size
        have HB2 := Lib.hid (hBB.trans (hb2.mono hs1))
        have HN2 := Lib.hid (hNB.below hb2)
        have z0 := hD.cell ht
        rw [HDT.out] at z0
        have zl := hD.lt
        have HD := Lib.hid hD
        have hwl : w.heap.size < w2.heap.size := by have := HN2.out.lt; exact this
        clear hb2 hBB hNB n0 n1 nl hNA hN hBA hbA hbB hD hb0 hs0 hs1
        go_wp2
        clear z0 zl
        go_loopw [10, 11] (fun bk av wr => ∃ (v f : Nat) (xs : List Nat), v < n ∧ 0 ≤ D v ∧ av = .int .i64 v ∧ (D v).toNat ≤ f ∧ xs ++ pthT m (eN a) (eN b) l D fr f v = full ∧ wr.ownsRow w2.heap.size 2 1 bk xs.length (ivs xs) ∧ Below w2.heap.size w2 wr) (fun _ av _ => (D (intOf av).toNat).toNat)
        case atStart => exact ⟨tg, dt.toNat, [tg], ht, by rw [HDT.out]; exact hd, rfl, by rw [HDT.out]; exact Nat.le_refl _, by rw [HFULL.out, HDT.out]; rfl, ⟨rfl, .inr ⟨w2.heap.size, 1, #[.int .i64 (tg : Int)], rfl, Nat.le_refl _, heap_alloc_new _ _, Nat.le_refl _, by simp [maxLen], rfl, rfl⟩⟩, by (with_reducible repeat (first | exact Below.refl _ _ | apply below_alloc | apply below_dN | apply below_d | refine below_setCell ?_ (by dsimp only; omega) | refine below_call (by assumption) ?_))⟩
        case round =>
          rename World => wO
          obtain ⟨v, f, xs, hv, hdv0, rfl, hf0, hxs, hown, hB⟩ := hrel
          have hxl : xs.length ≤ 65 := by
            have e := congrArg List.length hxs
            rw [List.length_append] at e
            omega
          have hBs := hB.size
          by_cases ev : v = fr
          · subst ev
            have hx2 : xs = full := by rw [← hxs, pthT_end, List.append_nil]
            rw [hx2] at hown hxl
            clear hx2 hxs
            obtain ⟨g3, cap3, rfl, hg3, hD3⟩ := own_dr (d := nthI full) hown (by omega) (fun j hj => by simp [ivs, nthI, List.getElem?_eq_getElem hj])
            have HREV := Lib.hid (rev_c w2.heap.size g3 full.length cap3 (nthI full) wO hg3 (by omega) hD3)
            have HB := Lib.hid hB
            have hg3l := hD3.lt
            clear hB hown hD3
            go_upto_region 23 with (go_at_call 69; ((with_reducible refine (HREV.out).mono ?_); rintro e w3 ⟨rfl, hD3, hb3⟩))
            have hb3s := hb3.size
            have hBE := HB.out.trans hb3
            have z0 := (HD.out.below hBE).cell ht
            rw [HDT.out] at z0
            have zl := (HD.out.below hBE).lt
            have HBE := Lib.hid hBE
            have HD3 := Lib.hid hD3
            clear hBE hb3 hD3
            go_wp2
            (refine region_below (by kernel_rfl) (by kernel_rfl) ?_; (repeat (first | go_big_quiet_step (fail) | quiet_step (fail))); refine wpQuiet_nil ?_; intro w1 hb; obtain ⟨hc, hfz⟩ := bcell hb; (try simp only [World.heap_drewN] at hc hfz); have hz := hb.size)
            go_wp2
            go_ret3
            rw [List.length_reverse]
            exact ⟨_, rfl, IArr.lo (IArr.some hg3 ((HD3.out.below hb).congr (fun j hj => (nthI_rev hj).symm))) (by omega), HB2.out.trans ((HBE.out.trans (hb.mono (by have := HBE.out.size; omega))).mono (by omega))⟩
          · have hev : ((v : Int) != (fr : Int)) = true := bne_iff_ne.2 (by omega)
            obtain ⟨nx1, nx2, nx3, nx4, -⟩ := nx_ok HLong.out hv ev hdv0
            obtain ⟨f, rfl⟩ : ∃ f', f = f' + 1 := ⟨f - 1, by omega⟩
            rw [pthT_step ev] at hxs
            have HNX := Lib.hid nx1
            have HXS := Lib.hid hxs
            have HOWN := Lib.hid hown
            have HB := Lib.hid hB
            have hNr := HN2.out.below hB
            have n0 := hNr.c0
            have n1 := hNr.c1
            have nl := hNr.lt
            have HNr := Lib.hid hNr
            obtain ⟨dv, hdv⟩ : ∃ x, D v = x := ⟨_, rfl⟩
            have HDV := Lib.hid hdv
            have hbv := HLong.out.bnd v hv
            rw [hdv] at hdv0 hbv nx4 hf0
            have HWR := Lib.hid (HRb.out.below (HB2.out.trans (hB.mono (by omega))) hhl0)
            have HDr := Lib.hid (HD.out.below hB)
            clear nx1 hxs hown hB hNr hdv
            go_wp2
            clear n0 n1 nl
            go_loopw [12, 44] (fun nv kv wx => ∃ k : Nat, k ≤ m ∧ kv = .int .i64 k ∧ nv = .int .i64 (bst (eN a) (eN b) l D v k) ∧ Below wO.heap.size wO wx) (fun _ kv _ => m - (intOf kv).toNat)
            case atStart => exact ⟨0, by omega, rfl, rfl, Below.refl _ _⟩
            case round =>
              rename World => wM
              obtain ⟨k, hk, rfl, rfl, hBx⟩ := hrel
              by_cases hlt2 : k < m
              · obtain ⟨hA1, hB1, hne1, hL1, hL2⟩ := HRd.out k hlt2
                obtain ⟨eA, eB⟩ := HAB.out k hlt2
                have hwb := wb_two (a := eN a) (b := eN b) (l := l) (D := D) (v := v) (k := k) hne1
                have hxb := bst_bnd (a := eN a) (b := eN b) (l := l) (D := D) (v := v) (k := k)
                have hRx := HWR.out.below hBx HWR.out.lt
                have r0 := hRx.c0 hlt2
                have r1 := hRx.c1 hlt2
                have r2 := hRx.c2 hlt2
                have hhl := hRx.lt
                rw [eA] at r0
                rw [eB] at r1
                clear hRx eA eB
                obtain ⟨A1, hA1e⟩ : ∃ x, eN a k = x := ⟨_, rfl⟩
                obtain ⟨B1, hB1e⟩ : ∃ x, eN b k = x := ⟨_, rfl⟩
                obtain ⟨L, eL⟩ : ∃ x, l k = x := ⟨_, rfl⟩
                obtain ⟨x', ex⟩ : ∃ x, bst (eN a) (eN b) l D v k = x := ⟨_, rfl⟩
                rw [ex] at hwb hxb ⊢
                rw [hA1e] at hA1 hne1 r0 hwb
                rw [hB1e] at hB1 hne1 r1 hwb
                rw [eL] at hL1 hL2 r2 hwb
                have HWB := Lib.hid hwb
                clear hwb hA1e hB1e eL ex
                have hBxs := hBx.size
                obtain ⟨s0, hs0⟩ : ∃ x, wM.heap.size = x := ⟨_, rfl⟩
                have tR : rcp ((wM.alloc (.cells #[.int .i64 A1, .int .i64 B1, .int .i64 L] 69)).alloc (.cells #[.int .i64 A1, .int .i64 B1, .int .i64 B1, .int .i64 A1] 96)) s0 A1 B1 L := (rcp.newAt hs0.symm).alloc _
                have tW : wys ((wM.alloc (.cells #[.int .i64 A1, .int .i64 B1, .int .i64 L] 69)).alloc (.cells #[.int .i64 A1, .int .i64 B1, .int .i64 B1, .int .i64 A1] 96)) (s0 + 1) A1 B1 := wys.newAt (by simp [hs0])
                have hBk2 : Below wO.heap.size wO ((wM.alloc (.cells #[.int .i64 A1, .int .i64 B1, .int .i64 L] 69)).alloc (.cells #[.int .i64 A1, .int .i64 B1, .int .i64 B1, .int .i64 A1] 96)) := (hBx.alloc hBxs _).alloc (by simp; omega) _
                have TR := Lib.hid tR
                have TW := Lib.hid tW
                have HBk2 := Lib.hid hBk2
                clear tR tW hBk2 hBx
                go_wp2
                go_loopw [12, 60] (fun nv jj wz => ∃ j : Nat, j ≤ 2 ∧ jj = .int .i64 j ∧ nv = .int .i64 (wb A1 B1 L D v x' j) ∧ rcp wz s0 A1 B1 L ∧ wys wz (s0 + 1) A1 B1 ∧ Below wO.heap.size wO wz) (fun _ jj _ => 2 - (intOf jj).toNat)
                case atStart => exact ⟨0, by omega, rfl, rfl, TR.out, TW.out, HBk2.out⟩
                case round =>
                  clear r0 r1 r2 hhl hs0
                  obtain ⟨j, hj2, rfl, rfl, hRj, hWj, hBj⟩ := hrel
                  by_cases hlt3 : j < 2
                  · obtain ⟨w0', w1'⟩ := hWj.cx hlt3
                    have hx0 : xw A1 B1 j < n := by unfold xw; split <;> assumption
                    have hy0 : xw B1 A1 j < n := by unfold xw; split <;> assumption
                    have hS : wb A1 B1 L D v x' (j + 1) = bt (wb A1 B1 L D v x' j) (if xw B1 A1 j = v then (if D (xw A1 B1 j) + L = D v then some (xw A1 B1 j) else none) else none) := rfl
                    have hyb := wb_bnd (A := A1) (B := B1) (L := L) (D := D) (v := v) hxb j
                    have hDx := HDr.out.below hBj
                    have ql := hDx.lt
                    have cv := hDx.cell hv
                    have cx := hDx.cell hx0
                    have bx := HLong.out.bnd _ hx0
                    have q2 := hRj.c2
                    rw [HDV.out] at cv hS
                    have HS := Lib.hid hS
                    have wl := hWj.lt
                    have rl' := hRj.lt
                    have hBjs := hBj.size
                    have HRj := Lib.hid hRj
                    have HWj := Lib.hid hWj
                    have HBj := Lib.hid hBj
                    clear hS hRj hWj hBj hDx
                    generalize wb A1 B1 L D v x' j = y at *
                    generalize xw A1 B1 j = x0 at *
                    generalize xw B1 A1 j = y0 at *
                    generalize D x0 = va at *
                    have hwA : IntKind.i64.wrap (va + L) = va + L := by rw [IntKind.wrap_i64]; omega
                    have hwd : IntKind.i64.wrap dv = dv := by rw [IntKind.wrap_i64]; omega
                    by_cases e1 : y0 = v
                    · have e1' : (y0 : Int) = (v : Int) := by omega
                      by_cases e2 : va + L = dv
                      · by_cases e3 : y < 0
                        · have hx : wb A1 B1 L D v x' (j + 1) = (x0 : Int) := by rw [HS.out]; rw [if_pos e1, if_pos e2]; exact if_pos (.inl e3)
                          have HX := Lib.hid hx
                          clear hx
                          go_wp2
                          (refine region_below (by kernel_rfl) (by kernel_rfl) ?_; (repeat (first | go_big_quiet_step (fail) | quiet_step (fail))); refine wpQuiet_nil ?_; intro w1 hb; obtain ⟨hc, hfz⟩ := bcell hb; (try simp only [World.heap_drewN] at hc hfz); have hz := hb.size)
                          have hBw : Below wr.heap.size wr w1 := ((Below.refl wr.heap.size wr).alloc (Nat.le_refl _) (.cells #[.int .i64 (x0 : Int), .int .i64 (v : Int)] 96)).trans (hb.mono (by simp))
                          go_wp2
                          go_roundw
                          case rel => exact ⟨j + 1, by omega, by go_num, by rw [HX.out], HRj.out.below hBw, HWj.out.below hBw, HBj.out.trans (hBw.mono (by omega))⟩
                          case measure => first | (simp [intOf]; done) | (simp [intOf]; omega)
                        · by_cases e4 : (x0 : Int) < y
                          · have hx : wb A1 B1 L D v x' (j + 1) = (x0 : Int) := by rw [HS.out]; rw [if_pos e1, if_pos e2]; exact if_pos (.inr e4)
                            have HX := Lib.hid hx
                            clear hx
                            go_wp2
                            (refine region_below (by kernel_rfl) (by kernel_rfl) ?_; (repeat (first | go_big_quiet_step (fail) | quiet_step (fail))); refine wpQuiet_nil ?_; intro w1 hb; obtain ⟨hc, hfz⟩ := bcell hb; (try simp only [World.heap_drewN] at hc hfz); have hz := hb.size)
                            have hBw : Below wr.heap.size wr w1 := ((Below.refl wr.heap.size wr).alloc (Nat.le_refl _) (.cells #[.int .i64 (x0 : Int), .int .i64 (v : Int)] 96)).trans (hb.mono (by simp))
                            go_wp2
                            go_roundw
                            case rel => exact ⟨j + 1, by omega, by go_num, by rw [HX.out], HRj.out.below hBw, HWj.out.below hBw, HBj.out.trans (hBw.mono (by omega))⟩
                            case measure => first | (simp [intOf]; done) | (simp [intOf]; omega)
                          · have hx : wb A1 B1 L D v x' (j + 1) = y := by rw [HS.out]; rw [if_pos e1, if_pos e2]; exact if_neg (by omega)
                            have HX := Lib.hid hx
                            clear hx
                            go_wp2
                            (refine region_below (by kernel_rfl) (by kernel_rfl) ?_; (repeat (first | go_big_quiet_step (fail) | quiet_step (fail))); refine wpQuiet_nil ?_; intro w1 hb; obtain ⟨hc, hfz⟩ := bcell hb; (try simp only [World.heap_drewN] at hc hfz); have hz := hb.size)
                            have hBw : Below wr.heap.size wr w1 := ((Below.refl wr.heap.size wr).alloc (Nat.le_refl _) (.cells #[.int .i64 (x0 : Int), .int .i64 (v : Int)] 96)).trans (hb.mono (by simp))
                            go_wp2
                            go_roundw
                            case rel => exact ⟨j + 1, by omega, by go_num, by rw [HX.out], HRj.out.below hBw, HWj.out.below hBw, HBj.out.trans (hBw.mono (by omega))⟩
                            case measure => first | (simp [intOf]; done) | (simp [intOf]; omega)
                      · have hx : wb A1 B1 L D v x' (j + 1) = y := by rw [HS.out]; rw [if_pos e1, if_neg e2]; rfl
                        have HX := Lib.hid hx
                        clear hx
                        go_wp2
                        (refine region_below (by kernel_rfl) (by kernel_rfl) ?_; (repeat (first | go_big_quiet_step (fail) | quiet_step (fail))); refine wpQuiet_nil ?_; intro w1 hb; obtain ⟨hc, hfz⟩ := bcell hb; (try simp only [World.heap_drewN] at hc hfz); have hz := hb.size)
                        have hBw : Below wr.heap.size wr w1 := ((Below.refl wr.heap.size wr).alloc (Nat.le_refl _) (.cells #[.int .i64 (x0 : Int), .int .i64 (v : Int)] 96)).trans (hb.mono (by simp))
                        go_wp2
                        go_roundw
                        case rel => exact ⟨j + 1, by omega, by go_num, by rw [HX.out], HRj.out.below hBw, HWj.out.below hBw, HBj.out.trans (hBw.mono (by omega))⟩
                        case measure => first | (simp [intOf]; done) | (simp [intOf]; omega)
                    · have e1' : ¬ ((y0 : Int) = (v : Int)) := by omega
                      have hx : wb A1 B1 L D v x' (j + 1) = y := by rw [HS.out]; rw [if_neg e1]; rfl
                      have HX := Lib.hid hx
                      clear hx
                      go_wp2
                      (refine region_below (by kernel_rfl) (by kernel_rfl) ?_; (repeat (first | go_big_quiet_step (fail) | quiet_step (fail))); refine wpQuiet_nil ?_; intro w1 hb; obtain ⟨hc, hfz⟩ := bcell hb; (try simp only [World.heap_drewN] at hc hfz); have hz := hb.size)
                      have hBw : Below wr.heap.size wr w1 := ((Below.refl wr.heap.size wr).alloc (Nat.le_refl _) (.cells #[.int .i64 (x0 : Int), .int .i64 (y0 : Int)] 96)).trans (hb.mono (by simp))
                      go_wp2
                      go_roundw
                      case rel => exact ⟨j + 1, by omega, by go_num, by rw [HX.out], HRj.out.below hBw, HWj.out.below hBw, HBj.out.trans (hBw.mono (by omega))⟩
                      case measure => first | (simp [intOf]; done) | (simp [intOf]; omega)
                  · obtain rfl : j = 2 := by omega
                    rw [HWB.out]
                    have HBj := Lib.hid hBj
                    clear hBj hRj hWj
                    go_wp2
                    go_roundw
                    case rel => exact ⟨k + 1, by omega, by go_num, rfl, HBj.out⟩
                    case measure => first | (simp [intOf]; done) | (simp [intOf]; omega)
              · obtain rfl : k = m := by omega
                rw [HNX.out]
                have hown := own_below HOWN.out hBx
                have hBw := HB.out.trans (hBx.mono hBs)
                have hBws := hBw.size
                have HBw := Lib.hid hBw
                clear hBx hBw
                generalize nx k (eN a) (eN b) l D v = u at *
                go_wp2_with (at_builtin; refine wpList_append_own _ rfl (.tmp 97) (.tmp 99) 47 rfl w2.heap.size 2 i0 (.int .i64 0) 1 8 Try.underlying47 hi hI0 hI1 hI2 rfl (by decide) _ _ _ rfl (hown.alloc _) ⟨wM.heap.size, 0, none⟩ 1 1 [.int .i64 (u : Int)] rfl rfl (cell_one_new _ _ _) (by intro u hu; simp at hu; subst hu; rfl) (by unfold maxLen; omega) (by omega) (by simp; omega) ?_; intro v1 w5 hown5 hgrow5 hnil5)
                go_roundw
                case rel => exact ⟨u, f, xs ++ [u], nx2, nx3, rfl, by omega, by rw [List.append_assoc]; exact HXS.out, by rw [List.length_append, ivs_snoc]; exact hown5, (HBw.out.alloc hBws _).grown hgrow5 (by simp; omega) (fun j hj => (hown.lt j hj).1)⟩
                case measure => simp [intOf, HDV.out]; omega
      · refine Calls.mono ?_ (fun e w' h => hno hd h)
        clear hno hyes
        obtain ⟨dt, hdt⟩ : ∃ x, D tg = x := ⟨_, rfl⟩
        have HDT := Lib.hid hdt
        rw [hdt] at hd hbt
        have hdn : dt < 0 := by omega
        clear hdt
        go_enter Try.func41, Try.ntmps41
        go_upto_region 3 with (first | (go_at_call 62; ((with_reducible refine (HF1.out _ hb0).mono ?_); rintro e wA ⟨⟨v, rfl, rfl⟩, hbA⟩; have hNA := hN.below hbA; have hBA := hb0.trans (hbA.mono (by omega)); have na0 := hNA.c0; have na1 := hNA.c1; have nal := hNA.lt)) | (go_at_call 62; ((with_reducible refine (HF2.out _ hBA).mono ?_); rintro e wB ⟨⟨v, rfl, rfl⟩, hbB⟩)))
        have hBB := hBA.trans (hbB.mono hBA.size)
        have hNB := hNA.below hbB
        clear na0 na1 nal
        have n0 := hNB.c0
        have n1 := hNB.c1
        have nl := hNB.lt
        go_upto_region 4 with (go_at_call 63; ((with_reducible refine (HL.out _ hBB).mono ?_); rintro e w2 ⟨q, cap, rfl, hq, hD, hb2⟩))
        have z0 := hD.cell ht
        rw [HDT.out] at z0
        have zl := hD.lt
        have HBF := Lib.hid (hBB.trans (hb2.mono hBB.size))
        clear hb2 hBB hNB n0 n1 nl hNA hN hBA hbA hbB hD hb0 hs0
        go_wp2
        go_ret3
        exact I3Res.nil HBF.out
end Go.Proofs.Ytpmeccjfjjklkaa
