/- Contracts of RoutesShared in both spellings. No condition. -/
import Derived.Test.YtpmeccjfjjklkaaSSi
namespace Go.Proofs.Ytpmeccjfjjklkaa
open Go.RowKit
set_option linter.unusedSimpArgs false
theorem info_i64S : (Try.prog.info? 47).map (fun i => (i.zero, i.size, i.bytes)) = some (some (.slice none 0 0), 1, 24) := by kernel_rfl
theorem own_ne {w : World} {L i q n c : Nat} {v : Value} {xs : List Value} {d : Nat → Int} (h : w.ownsRow L 47 1 v i xs) (hD : Dr w q n c d) : v.ownBlock ≠ some q := by
  rcases h.2 with ⟨rfl, -⟩ | ⟨g, cap, cur, rfl, h1, h2, -⟩
  · simp [Value.ownBlock]
  · intro e
    simp only [Value.ownBlock, Option.some.injEq] at e
    subst e
    obtain ⟨F, ⟨cs, h3, -⟩, -⟩ := hD
    rw [h2] at h3
    injection h3 with h3
    injection h3 with _ e
    exact absurd e (by decide)
/-- The rows that are made so far. -/
def RIn (w : World) (L n i : Nat) (v : Value) (D : Nat → Nat → Int) (q c : Nat → Nat) : Prop := w.ownsRow L 47 1 v i ((List.range i).map fun j => .slice (some ⟨q j, 0, none⟩) n (c j)) ∧ (∀ j, j < i → L ≤ q j ∧ Dr w (q j) n (c j) (D j)) ∧ ∀ i' j, i' < i → j < i → i' ≠ j → q i' ≠ q j
def updN (q : Nat → Nat) (i x : Nat) (j : Nat) : Nat := if j = i then x else q j
theorem updN_ne {q : Nat → Nat} {i x j : Nat} (h : j ≠ i) : updN q i x j = q j := if_neg h
theorem updN_eq {q : Nat → Nat} {i x : Nat} : updN q i x i = x := if_pos rfl
namespace RIn
variable {w w' : World} {L n i : Nat} {v : Value} {D : Nat → Nat → Int} {q c : Nat → Nat}
theorem start {w : World} {L n : Nat} {D : Nat → Nat → Int} {v : Value} (h : w.ownsRow L 47 1 v 0 []) : RIn w L n 0 v D (fun _ => 0) (fun _ => 0) := ⟨h, fun j hj => absurd hj (by omega), fun j _ hj => absurd hj (by omega)⟩
theorem below (h : RIn w L n i v D q c) (hb : Below w.heap.size w w') : RIn w' L n i v D q c := ⟨own_below h.1 hb, fun j hj => ⟨(h.2.1 j hj).1, (h.2.1 j hj).2.below hb⟩, h.2.2⟩
theorem push {w2 w5 : World} {v1 : Value} {q' c' : Nat} {B : Obj} (h : RIn w L n i v D q c) (hb : Below w.heap.size w w2) (hL : L ≤ w.heap.size) (hq : w.heap.size ≤ q') (hD : Dr w2 q' n c' (D i)) (hg : (w2.alloc B).grownBy w5 v.ownBlock)
    (ho : w5.ownsRow L 47 1 v1 (i + 1) (((List.range i).map fun j => .slice (some ⟨q j, 0, none⟩) n (c j)) ++ [.slice (some ⟨q', 0, none⟩) n c'])) : RIn w5 L n (i + 1) v1 D (updN q i q') (updN c i c') := by
  have hw2 := hb.size
  have old : ∀ x cc d, Dr w2 x n cc d → v.ownBlock ≠ some x → Dr w5 x n cc d := fun x cc d hx hne => by
    have h1 : Dr (w2.alloc B) x n cc d := hx.below ((Below.refl _ _).alloc (Nat.le_refl _) _)
    exact h1.blk (hg.block x h1.lt (fun e => hne (by first | exact e | exact e.symm)))
  refine ⟨?_, fun j hj => ?_, fun i' j hi hj hne => ?_⟩
  · have e : ((List.range (i + 1)).map fun j => (Value.slice (some ⟨updN q i q' j, 0, none⟩) n (updN c i c' j))) = ((List.range i).map fun j => .slice (some ⟨q j, 0, none⟩) n (c j)) ++ [.slice (some ⟨q', 0, none⟩) n c'] := by
      rw [List.range_succ, List.map_append]
      congr 1
      · refine List.map_congr_left fun j hj => ?_
        have : j ≠ i := by have := List.mem_range.1 hj; omega
        rw [updN_ne this, updN_ne this]
      · simp [updN_eq]
    rw [e]
    exact ho
  · by_cases e : j = i
    · subst e
      rw [updN_eq, updN_eq]
      exact ⟨Nat.le_trans hL hq, old _ _ _ hD (fun e => by
        rcases h.1.2 with ⟨rfl, -⟩ | ⟨g, cap, cur, rfl, h1, h2, -⟩
        · simp [Value.ownBlock] at e
        · simp only [Value.ownBlock, Option.some.injEq] at e
          have := (Array.getElem?_eq_some_iff.1 h2).1
          omega)⟩
    · rw [updN_ne e, updN_ne e]
      exact ⟨(h.2.1 j (by omega)).1, old _ _ _ ((h.2.1 j (by omega)).2.below hb) (own_ne h.1 (h.2.1 j (by omega)).2)⟩
  · by_cases e : i' = i
    · subst e
      rw [updN_eq, updN_ne (fun e => hne e.symm)]
      have := (h.2.1 j (by omega)).2.lt
      omega
    · by_cases e2 : j = i
      · subst e2
        rw [updN_eq, updN_ne e]
        have := (h.2.1 i' (by omega)).2.lt
        omega
      · rw [updN_ne e, updN_ne e2]
        exact h.2.2 i' j (by omega) (by omega) hne
theorem ssr (h : RIn w L n i v D q c) : SSR w L v i n D := ⟨q, c, TRow.own h.1 (fun j hj => by rw [List.getElem?_map, List.getElem?_range (by omega)]; rfl), h.2.1, h.2.2⟩
end RIn
theorem SSR.lo {w : World} {lo lo' k n : Nat} {v : Value} {D : Nat → Nat → Int} (h : SSR w lo v k n D) (hl : lo' ≤ lo) : SSR w lo' v k n D := by
  obtain ⟨q, c, h1, h2, h3⟩ := h
  exact ⟨q, c, h1.lo_le hl, fun j hj => ⟨Nat.le_trans hl (h2 j hj).1, (h2 j hj).2⟩, h3⟩
theorem SSR.nil {w : World} {lo n : Nat} {D : Nat → Nat → Int} : SSR w lo (.slice none 0 0) 0 n D := ⟨fun _ => 0, fun _ => 0, .inl ⟨rfl, rfl⟩, fun j hj => absurd hj (by omega), fun j _ hj => absurd hj (by omega)⟩
def rsOk (n m : Nat) (X Y : Nat → Nat) (a b l : Nat → Int) (k : Nat) (d : Nat → Int) (wk : Int) : Bool := (netOk n m X Y a b l && decide (k ≤ 8)) && ((decide (1 ≤ wk) && decide (wk ≤ 8)) && allB (fun j => rlOk n m X Y a b l (d j)) k)
/-- What both spellings return. -/
def SRes (K : Bool) (N n : Nat) (D : Nat → Nat → Int) (w : World) (e : Ending) (w' : World) : Prop := ∃ v, e = .returned (.tuple #[v, .bool K]) ∧ SSR w' w.heap.size v N n D ∧ Below w.heap.size w w'
def rsD (n m : Nat) (a b l : Nat → Int) (d : Nat → Int) (j : Nat) : Nat → Int := rt n m (eN a) (eN b) l (d j).toNat
def RSR (n m : Nat) (X Y : Nat → Nat) (a b l : Nat → Int) (k : Nat) (d : Nat → Int) (wk : Int) : World → Ending → World → Prop := SRes (rsOk n m X Y a b l k d wk) (if rsOk n m X Y a b l k d wk then k else 0) n (rsD n m a b l d)
set_option maxRecDepth 100000 in
set_option maxHeartbeats 4000000 in
theorem sRS_c (g h n m cg ch f k cf : Nat) (X Y : Nat → Nat) (a b l d : Nat → Int) (wk : Int) (w : World) (hg : g < w.heap.size) (hn : n ≤ 1048576) (hm : m ≤ 1048576) (hk : k ≤ 1048576) (hP : PlCells w g n X Y) (hR : RdBlk w h m a b l) (hD : Dr w f k cf d) :
    Calls Try.prog 34 #[.agg #[.slice (some ⟨g, 0, none⟩) n cg, .slice (some ⟨h, 0, none⟩) m ch], .slice (some ⟨f, 0, none⟩) k cf, .int .i64 wk] w (RSR n m X Y a b l k d wk w) := by
  have HF := Lib.hid (fun (w' : World) (hB : Below w.heap.size w w') c0 c1 => l07Net_c w.heap.size g h n m cg ch X Y a b l w' hn hm c0 c1 (hP.dn hg hB) (hR.below hB hR.lt))
  have hIn := l00In_c wk 1 8
  unfold RSR rsOk
  generalize hp : (decide (1 ≤ wk) && decide (wk ≤ 8)) = p at hIn
  have HI := Lib.hid hIn
  clear hIn hp
  have hfl := hD.lt
  cases hq : netOk n m X Y a b l
  · rw [hq] at HF
    clear hP hR hq hD
    go_enter Try.func34, Try.ntmps34
    go_wp2_with (first | (go_at_call 46; ((with_reducible refine (HF.out _ (by (with_reducible repeat (first | exact Below.refl _ _ | apply below_alloc | apply below_dN | apply below_d | refine below_setCell ?_ (by dsimp only; omega) | refine below_call (by assumption) ?_))) (by simp) (by simp)).mono ?_); rintro e w1 ⟨⟨v, rfl, rfl⟩, hb⟩); have hu2 : ∀ n : Nat, n < n + 1 + 1 := (fun n => by omega); have hu3 : ∀ n : Nat, n < n + 1 + 1 + 1 := (fun n => by omega); obtain ⟨hc, hfz⟩ := bcell hb; (try simp only [World.heap_drewN] at hc hfz); have hs_ := hb.size; (try simp at hs_); (try have hz0 : w.heap.size < w1.heap.size := (by omega)); (try have hz1 : w.heap.size + 1 < w1.heap.size := (by omega)); (try have hz2 : w.heap.size + 2 < w1.heap.size := (by omega)); (try have hz3 : w.heap.size + 3 < w1.heap.size := (by omega)); (try have hza : wa.heap.size < w1.heap.size := (by omega)); (try have hza1 : wa.heap.size + 1 < w1.heap.size := (by omega)); (try have hzb : wb.heap.size < w1.heap.size := (by omega)); (try have hzb1 : wb.heap.size + 1 < w1.heap.size := (by omega)); (try have hzc : wc.heap.size < w1.heap.size := (by omega)); (try have hzd : wd.heap.size < w1.heap.size := (by omega))))
    go_ret2
    exact ⟨_, rfl, SSR.nil, by (with_reducible repeat (first | exact Below.refl _ _ | apply below_alloc | apply below_dN | apply below_d | refine below_setCell ?_ (by dsimp only; omega) | refine below_call (by assumption) ?_))⟩
  · rw [hq] at HF
    by_cases hk8 : k ≤ 8
    · rw [decide_eq_true hk8]
      cases p
      · clear hP hR hD hq
        go_enter Try.func34, Try.ntmps34
        go_wp2_with (first | (go_at_call 46; ((with_reducible refine (HF.out _ (by (with_reducible repeat (first | exact Below.refl _ _ | apply below_alloc | apply below_dN | apply below_d | refine below_setCell ?_ (by dsimp only; omega) | refine below_call (by assumption) ?_))) (by simp) (by simp)).mono ?_); rintro e w1 ⟨⟨v, rfl, rfl⟩, hb⟩); have hu2 : ∀ n : Nat, n < n + 1 + 1 := (fun n => by omega); have hu3 : ∀ n : Nat, n < n + 1 + 1 + 1 := (fun n => by omega); obtain ⟨hc, hfz⟩ := bcell hb; (try simp only [World.heap_drewN] at hc hfz); have hs_ := hb.size; (try simp at hs_); (try have hz0 : w.heap.size < w1.heap.size := (by omega)); (try have hz1 : w.heap.size + 1 < w1.heap.size := (by omega)); (try have hz2 : w.heap.size + 2 < w1.heap.size := (by omega)); (try have hz3 : w.heap.size + 3 < w1.heap.size := (by omega)); (try have hza : wa.heap.size < w1.heap.size := (by omega)); (try have hza1 : wa.heap.size + 1 < w1.heap.size := (by omega)); (try have hzb : wb.heap.size < w1.heap.size := (by omega)); (try have hzb1 : wb.heap.size + 1 < w1.heap.size := (by omega)); (try have hzc : wc.heap.size < w1.heap.size := (by omega)); (try have hzd : wd.heap.size < w1.heap.size := (by omega))) | (go_at_call 65; ((with_reducible refine (HI.out _).mono ?_); rintro e w' ⟨rfl, rfl⟩)))
        go_ret2
        exact ⟨_, rfl, SSR.nil, by (with_reducible repeat (first | exact Below.refl _ _ | apply below_alloc | apply below_dN | apply below_d | refine below_setCell ?_ (by dsimp only; omega) | refine below_call (by assumption) ?_))⟩
      · have HL := Lib.hid (fun (x : Nat) (hx : x < n) (w' : World) (hB : Below w.heap.size w w') c0 c1 => l07Longs_c w.heap.size g h n m cg ch X Y a b l x w' hx hq c0 c1 (hR.below hB hR.lt))
        have HS := Lib.hid (fun (x : Int) (w' : World) (hB : Below w.heap.size w w') c0 c1 => l07From_c w.heap.size g h n m cg ch X Y a b l x w' hn hm c0 c1 (hP.dn hg hB) (hR.below hB hR.lt))
        have hfacts : ∀ x : Int, rlOk n m X Y a b l x = true → ∃ f : Nat, x = f ∧ f < n := fun x hx => (rlOk_facts hx).2
        have hrs : ∀ (x : Nat) (j : Nat), d j = x → rsD n m a b l d j = rt n m (eN a) (eN b) l x := fun x j e => by unfold rsD; rw [e, Int.toNat_natCast]
        rw [Bool.true_and, Bool.true_and, Bool.true_and]
        generalize rsD n m a b l d = D at hrs
        obtain ⟨P, hPe⟩ : ∃ P : Int → Bool, ∀ x, rlOk n m X Y a b l x = P x := ⟨_, fun _ => rfl⟩
        simp only [hPe] at HS hfacts ⊢
        obtain ⟨K, hK⟩ : ∃ K, allB (fun j => P (d j)) k = K := ⟨_, rfl⟩
        rw [hK]
        obtain ⟨N, hNn⟩ : ∃ N, (if K = true then k else 0) = N := ⟨_, rfl⟩
        rw [hNn]
        have HKK := Lib.hid hK
        have HNN := Lib.hid hNn
        clear hK hNn
        have HRS := Lib.hid hrs
        have HFA := Lib.hid hfacts
        obtain ⟨i0, hi, hI0, hI1, hI2⟩ := info_parts info_i64S
        have hb0 : Below w.heap.size w (w.alloc (.cells #[.slice (some ⟨g, 0, none⟩) n cg, .slice (some ⟨h, 0, none⟩) m ch] 31)) := by (with_reducible repeat (first | exact Below.refl _ _ | apply below_alloc | apply below_dN | apply below_d | refine below_setCell ?_ (by dsimp only; omega) | refine below_call (by assumption) ?_))
        have hs0 : (w.alloc (.cells #[.slice (some ⟨g, 0, none⟩) n cg, .slice (some ⟨h, 0, none⟩) m ch] 31)).heap.size = w.heap.size + 1 := by simp
        have hN := ntc.newAt (w := w) (p := w.heap.size) (u := .slice (some ⟨g, 0, none⟩) n cg) (v := .slice (some ⟨h, 0, none⟩) m ch) rfl
        have HD := Lib.hid hD
        clear hP hR hD hq hrs hfacts hPe
        go_enter Try.func34, Try.ntmps34
        go_upto_region 3 with (first | (go_at_call 46; ((with_reducible refine (HF.out _ hb0 hN.c0 hN.c1).mono ?_); rintro e wA ⟨⟨v, rfl, rfl⟩, hb⟩)) | (go_at_call 65; ((with_reducible refine (HI.out _).mono ?_); rintro e w' ⟨rfl, rfl⟩)))
        have hN1 := hN.below hb
        have hB1 := hb0.trans (hb.mono (by omega))
        have hs1 := hb.size
        have hs1' := hB1.size
        have HN1 := Lib.hid hN1
        have HB1 := Lib.hid hB1
        clear hN hN1 hb hB1 hb0
        go_wp2
        go_loopw [8, 25] (fun v kk wr => ∃ (i : Nat) (q c : Nat → Nat), i ≤ k ∧ kk = .int .i64 i ∧ RIn wr wA.heap.size n i v D q c ∧ (∀ j, j < i → P (d j) = true) ∧ Below wA.heap.size wA wr) (fun _ kk _ => k - (intOf kk).toNat)
        case atStart => exact ⟨0, fun _ => 0, fun _ => 0, by omega, rfl, RIn.start ⟨rfl, .inr ⟨wA.heap.size, 0, #[], rfl, by omega, heap_alloc_new _ _, Nat.le_refl _, by simp [maxLen], rfl, rfl⟩⟩, by omega, by (with_reducible repeat (first | exact Below.refl _ _ | apply below_alloc | apply below_dN | apply below_d | refine below_setCell ?_ (by dsimp only; omega) | refine below_call (by assumption) ?_))⟩
        case round =>
          obtain ⟨i, q, c, hik, rfl, hI, hall, hB⟩ := hrel
          have hBs := hB.size
          have HALL := Lib.hid hall
          clear hall
          by_cases hlt : i < k
          · have hBx := HB1.out.trans (hB.mono (by omega))
            have d0 := (HD.out.below hBx).cell hlt
            have dl := (HD.out.below hBx).lt
            have hNr := HN1.out.below hB
            have n0 := hNr.c0
            have n1 := hNr.c1
            have hnl := hNr.lt
            have HIN := Lib.hid hI
            have HB := Lib.hid hB
            have HBx := Lib.hid hBx
            have HSx := Lib.hid (HS.out (d i) wr hBx n0 n1)
            clear hI hB hBx
            cases hPi : P (d i)
            · rw [hPi] at HSx
              have HK := Lib.hid (allB_false (f := fun j => P (d j)) hlt hPi)
              clear hPi
              generalize d i = z at *
              go_wp2_with (first | (go_at_call 60; ((with_reducible refine (HSx.out).mono ?_); rintro e w1 ⟨⟨v, rfl, rfl⟩, hb⟩)))
              go_ret2
              obtain rfl : K = false := HKK.out.symm.trans HK.out
              obtain rfl : N = 0 := HNN.out.symm
              refine ⟨_, rfl, SSR.nil, ?_⟩
              have := HBx.out
              (with_reducible repeat (first | exact Below.refl _ _ | apply below_alloc | apply below_dN | apply below_d | refine below_setCell ?_ (by dsimp only; omega) | refine below_call (by assumption) ?_))
            · rw [hPi] at HSx
              obtain ⟨x, hx, hxn⟩ := HFA.out _ hPi
              have hDi := HRS.out x i hx
              rw [hx] at d0 HSx
              have HNEXT := Lib.hid (fun (j : Nat) (hj : j < i + 1) => show P (d j) = true from if e : j = i then by rw [e]; exact hPi else HALL.out j (by omega))
              clear hPi hx
              clear n0 n1 hnl
              go_upto_region 9 with (first | (go_at_call 60; ((with_reducible refine (HSx.out).mono ?_); rintro e wB ⟨⟨v, rfl, rfl⟩, hbB⟩)))
              have hNB := (HN1.out.below HB.out).below hbB
              have n0 := hNB.c0
              have n1 := hNB.c1
              have hBB := HBx.out.trans (hbB.mono HBx.out.size)
              have hsB := hbB.size
              have hsx := HBx.out.size
              have dl2 : f < wB.heap.size := by omega
              have d1 : wB.cell? ⟨f, i, none⟩ = some (.int .i64 (x : Int)) := by rw [hbB.cell (p := ⟨f, i, none⟩) dl]; exact d0
              have HINB := Lib.hid (HIN.out.below hbB)
              have HBB := Lib.hid (HB.out.trans (hbB.mono hBs))
              clear hbB hNB
              go_wp2_with (first | (go_at_call 61; ((with_reducible refine (HL.out x hxn _ hBB n0 n1).mono ?_); rintro e w2 ⟨q', c', rfl, hq', hD', hb2⟩; have hs2 := hb2.size; have hIb := HINB.out.below hb2; have hown := hIb.1)) | (at_builtin; refine wpList_append_own _ rfl (.tmp 34) (.tmp 40) 55 rfl wA.heap.size 47 i0 (.slice none 0 0) 1 24 Try.underlying55 hi hI0 hI1 hI2 rfl (by decide) _ _ _ rfl (hown.alloc _) ⟨w2.heap.size, 0, none⟩ 1 1 [.slice (some ⟨q', 0, none⟩) n c'] rfl rfl (cell_one_new _ _ _) (by intro u hu; simp at hu; subst hu; rfl) (by unfold maxLen; omega) (by omega) (by simp; omega) ?_; intro v1 w5 hown5 hgrow5 hnil5))
              go_roundw
              case rel => exact ⟨i + 1, _, _, by omega, by go_num, RIn.push HINB.out hb2 (by omega) hq' (by rw [hDi]; exact hD') hgrow5 hown5, HNEXT.out, ((HBB.out.trans (hb2.mono (by omega))).alloc (by omega) _).grown hgrow5 (by simp; omega) (fun j hj => (hown.lt j hj).1)⟩
              case measure => first | (simp [intOf]; done) | (simp [intOf]; omega)
          · obtain rfl : i = k := by omega
            have HT := Lib.hid (allB_true (f := fun j => P (d j)) HALL.out)
            have HIN := Lib.hid hI
            have HB := Lib.hid hB
            clear hI hB
            go_wp2
            go_ret2
            obtain rfl : K = true := HKK.out.symm.trans HT.out
            obtain rfl : N = i := HNN.out.symm
            refine ⟨_, rfl, HIN.out.ssr.lo (by omega), ?_⟩
            exact HB1.out.trans (HB.out.mono (by omega))
    · rw [decide_eq_false hk8]
      clear hP hR hD hq
      have hk8' : (8 : Int) < k := by omega
      go_enter Try.func34, Try.ntmps34
      go_wp2_with (first | (go_at_call 46; ((with_reducible refine (HF.out _ (by (with_reducible repeat (first | exact Below.refl _ _ | apply below_alloc | apply below_dN | apply below_d | refine below_setCell ?_ (by dsimp only; omega) | refine below_call (by assumption) ?_))) (by simp) (by simp)).mono ?_); rintro e w1 ⟨⟨v, rfl, rfl⟩, hb⟩); have hu2 : ∀ n : Nat, n < n + 1 + 1 := (fun n => by omega); have hu3 : ∀ n : Nat, n < n + 1 + 1 + 1 := (fun n => by omega); obtain ⟨hc, hfz⟩ := bcell hb; (try simp only [World.heap_drewN] at hc hfz); have hs_ := hb.size; (try simp at hs_); (try have hz0 : w.heap.size < w1.heap.size := (by omega)); (try have hz1 : w.heap.size + 1 < w1.heap.size := (by omega)); (try have hz2 : w.heap.size + 2 < w1.heap.size := (by omega)); (try have hz3 : w.heap.size + 3 < w1.heap.size := (by omega)); (try have hza : wa.heap.size < w1.heap.size := (by omega)); (try have hza1 : wa.heap.size + 1 < w1.heap.size := (by omega)); (try have hzb : wb.heap.size < w1.heap.size := (by omega)); (try have hzb1 : wb.heap.size + 1 < w1.heap.size := (by omega)); (try have hzc : wc.heap.size < w1.heap.size := (by omega)); (try have hzd : wd.heap.size < w1.heap.size := (by omega))))
      go_ret2
      exact ⟨_, rfl, SSR.nil, by (with_reducible repeat (first | exact Below.refl _ _ | apply below_alloc | apply below_dN | apply below_d | refine below_setCell ?_ (by dsimp only; omega) | refine below_call (by assumption) ?_))⟩
theorem rs_ask (g n cg h m ch : Nat) (X Y : Nat → Nat) (a b l : Nat → Int) (P : Int → Bool) (v : World) (p : Nat) (hg : g < v.heap.size) (hn : n ≤ 1048576) (hm : m ≤ 1048576) (hP : PlCells v g n X Y) (hR : RdBlk v h m a b l) (hPe : ∀ x, rlOk n m X Y a b l x = P x)
    (c0 : v.cell? ⟨p, 0, none⟩ = some (.slice (some ⟨g, 0, none⟩) n cg)) (c1 : v.cell? ⟨p, 1, none⟩ = some (.slice (some ⟨h, 0, none⟩) m ch)) : Ask v p P := by
  have hpl := block_lt_of_cell c0
  refine ⟨hpl, fun w' hb x => ?_⟩
  refine rs1_c p g n cg h m ch P x w' ((hb.cell (p := ⟨p, 0, none⟩) hpl).trans c0) ((hb.cell (p := ⟨p, 1, none⟩) hpl).trans c1) (fun w2 hb2 => ?_)
  have hb3 := hb.trans (hb2.mono hb.size)
  rw [← hPe]
  exact isStop_c g h n m cg ch X Y a b l x w2 (Nat.lt_of_lt_of_le hg hb3.size) hn hm (hP.dn hg hb3) (hR.below hb3 hR.lt)
set_option maxRecDepth 100000 in
set_option maxHeartbeats 4000000 in
theorem iRS_c (g h n m cg ch f k cf : Nat) (X Y : Nat → Nat) (a b l d : Nat → Int) (wk : Int) (w : World) (hg : g < w.heap.size) (hn : n ≤ 1048576) (hm : m ≤ 1048576) (hk : k ≤ 1048576) (hP : PlCells w g n X Y) (hR : RdBlk w h m a b l) (hD : Dr w f k cf d) :
    Calls Try.prog 36 #[.agg #[.slice (some ⟨g, 0, none⟩) n cg, .slice (some ⟨h, 0, none⟩) m ch], .slice (some ⟨f, 0, none⟩) k cf, .int .i64 wk] w (RSR n m X Y a b l k d wk w) := by
  have HF := Lib.hid (fun (w' : World) (hB : Below w.heap.size w w') => iValidNet_c g h n m cg ch X Y a b l w' (Nat.lt_of_lt_of_le hg hB.size) hn hm (hP.dn hg hB) (hR.below hB hR.lt))
  have hIn := isWorkers_c wk
  unfold RSR rsOk
  generalize hp : (decide (1 ≤ wk) && decide (wk ≤ 8)) = p at hIn
  have HI := Lib.hid hIn
  clear hIn hp
  have hfl := hD.lt
  cases hq : netOk n m X Y a b l
  · rw [hq] at HF
    clear hP hR hq hD
    go_enter Try.func36, Try.ntmps36
    go_wp2_with (first | (go_at_call 13; ((with_reducible refine (HF.out _ (by (with_reducible repeat (first | exact Below.refl _ _ | apply below_alloc | apply below_dN | apply below_d | refine below_setCell ?_ (by dsimp only; omega) | refine below_call (by assumption) ?_)))).mono ?_); rintro e w1 ⟨⟨v, rfl, rfl⟩, hb⟩); have hu2 : ∀ n : Nat, n < n + 1 + 1 := (fun n => by omega); have hu3 : ∀ n : Nat, n < n + 1 + 1 + 1 := (fun n => by omega); obtain ⟨hc, hfz⟩ := bcell hb; (try simp only [World.heap_drewN] at hc hfz); have hs_ := hb.size; (try simp at hs_); (try have hz0 : w.heap.size < w1.heap.size := (by omega)); (try have hz1 : w.heap.size + 1 < w1.heap.size := (by omega)); (try have hz2 : w.heap.size + 2 < w1.heap.size := (by omega)); (try have hz3 : w.heap.size + 3 < w1.heap.size := (by omega)); (try have hza : wa.heap.size < w1.heap.size := (by omega)); (try have hza1 : wa.heap.size + 1 < w1.heap.size := (by omega)); (try have hzb : wb.heap.size < w1.heap.size := (by omega)); (try have hzb1 : wb.heap.size + 1 < w1.heap.size := (by omega)); (try have hzc : wc.heap.size < w1.heap.size := (by omega)); (try have hzd : wd.heap.size < w1.heap.size := (by omega))))
    go_ret2
    exact ⟨_, rfl, SSR.nil, by (with_reducible repeat (first | exact Below.refl _ _ | apply below_alloc | apply below_dN | apply below_d | refine below_setCell ?_ (by dsimp only; omega) | refine below_call (by assumption) ?_))⟩
  · rw [hq] at HF
    by_cases hk8 : k ≤ 8
    · rw [decide_eq_true hk8]
      cases p
      · clear hP hR hD hq
        go_enter Try.func36, Try.ntmps36
        go_wp2_with (first | (go_at_call 13; ((with_reducible refine (HF.out _ (by (with_reducible repeat (first | exact Below.refl _ _ | apply below_alloc | apply below_dN | apply below_d | refine below_setCell ?_ (by dsimp only; omega) | refine below_call (by assumption) ?_)))).mono ?_); rintro e w1 ⟨⟨v, rfl, rfl⟩, hb⟩); have hu2 : ∀ n : Nat, n < n + 1 + 1 := (fun n => by omega); have hu3 : ∀ n : Nat, n < n + 1 + 1 + 1 := (fun n => by omega); obtain ⟨hc, hfz⟩ := bcell hb; (try simp only [World.heap_drewN] at hc hfz); have hs_ := hb.size; (try simp at hs_); (try have hz0 : w.heap.size < w1.heap.size := (by omega)); (try have hz1 : w.heap.size + 1 < w1.heap.size := (by omega)); (try have hz2 : w.heap.size + 2 < w1.heap.size := (by omega)); (try have hz3 : w.heap.size + 3 < w1.heap.size := (by omega)); (try have hza : wa.heap.size < w1.heap.size := (by omega)); (try have hza1 : wa.heap.size + 1 < w1.heap.size := (by omega)); (try have hzb : wb.heap.size < w1.heap.size := (by omega)); (try have hzb1 : wb.heap.size + 1 < w1.heap.size := (by omega)); (try have hzc : wc.heap.size < w1.heap.size := (by omega)); (try have hzd : wd.heap.size < w1.heap.size := (by omega))) | (go_at_call 66; ((with_reducible refine (HI.out _).mono ?_); rintro e w' ⟨rfl, rfl⟩)))
        go_ret2
        exact ⟨_, rfl, SSR.nil, by (with_reducible repeat (first | exact Below.refl _ _ | apply below_alloc | apply below_dN | apply below_d | refine below_setCell ?_ (by dsimp only; omega) | refine below_call (by assumption) ?_))⟩
      · have HL := Lib.hid (fun (x : Nat) (hx : x < n) (w' : World) (hB : Below w.heap.size w w') => routes_c g h n m cg ch X Y a b l x w' hx hq (hR.below hB hR.lt))
        have hfacts : ∀ x : Int, rlOk n m X Y a b l x = true → ∃ f : Nat, x = f ∧ f < n := fun x hx => (rlOk_facts hx).2
        have hrs : ∀ (x : Nat) (j : Nat), d j = x → rsD n m a b l d j = rt n m (eN a) (eN b) l x := fun x j e => by unfold rsD; rw [e, Int.toNat_natCast]
        rw [Bool.true_and, Bool.true_and, Bool.true_and]
        generalize rsD n m a b l d = D at hrs
        obtain ⟨P, hPe⟩ : ∃ P : Int → Bool, ∀ x, rlOk n m X Y a b l x = P x := ⟨_, fun _ => rfl⟩
        have HA := Lib.hid (fun (v : World) (hB : Below w.heap.size w v) c0 c1 => rs_ask g n cg h m ch X Y a b l P v w.heap.size (Nat.lt_of_lt_of_le hg hB.size) hn hm (hP.dn hg hB) (hR.below hB hR.lt) hPe c0 c1)
        simp only [hPe] at hfacts ⊢
        obtain ⟨K, hK⟩ : ∃ K, allB (fun j => P (d j)) k = K := ⟨_, rfl⟩
        rw [hK]
        obtain ⟨N, hNn⟩ : ∃ N, (if K = true then k else 0) = N := ⟨_, rfl⟩
        rw [hNn]
        have HC := Lib.hid (fun (v : World) (hB : Below w.heap.size w v) (hA : Ask v w.heap.size P) => (show Calls Try.prog 67 #[.slice (some ⟨f, 0, none⟩) k cf, .func (.func 68) #[] #[.pointer (some ⟨w.heap.size, 0, none⟩)]] v (Ret (RV (.bool K)) v) from hK ▸ areAllI_c f w.heap.size k cf d P v (by omega) (hD.below hB) hA))
        have HKK := Lib.hid hK
        have HNN := Lib.hid hNn
        clear hK hNn
        have HRS := Lib.hid hrs
        have HFA := Lib.hid hfacts
        obtain ⟨i0, hi, hI0, hI1, hI2⟩ := info_parts info_i64S
        have hb0 : Below w.heap.size w (w.alloc (.cells #[.slice (some ⟨g, 0, none⟩) n cg, .slice (some ⟨h, 0, none⟩) m ch] 31)) := by (with_reducible repeat (first | exact Below.refl _ _ | apply below_alloc | apply below_dN | apply below_d | refine below_setCell ?_ (by dsimp only; omega) | refine below_call (by assumption) ?_))
        have hs0 : (w.alloc (.cells #[.slice (some ⟨g, 0, none⟩) n cg, .slice (some ⟨h, 0, none⟩) m ch] 31)).heap.size = w.heap.size + 1 := by simp
        have hN := ntc.newAt (w := w) (p := w.heap.size) (u := .slice (some ⟨g, 0, none⟩) n cg) (v := .slice (some ⟨h, 0, none⟩) m ch) rfl
        have HD := Lib.hid hD
        clear hP hR hD hq hrs hfacts hPe
        cases K
        · obtain rfl : N = 0 := HNN.out.symm
          go_enter Try.func36, Try.ntmps36
          go_wp2_with (first | (go_at_call 13; ((with_reducible refine (HF.out _ hb0).mono ?_); rintro e wA ⟨⟨v, rfl, rfl⟩, hb⟩; have hBA := hb0.trans (hb.mono (by omega)); have hNA := hN.below hb; have hAA := HA.out _ hBA hNA.c0 hNA.c1)) | (go_at_call 66; ((with_reducible refine (HI.out _).mono ?_); rintro e w' ⟨rfl, rfl⟩)) | (go_at_call 67; ((with_reducible refine (HC.out _ hBA hAA).mono ?_); rintro e wB ⟨⟨v, rfl, rfl⟩, hbB⟩)))
          go_ret2
          exact ⟨_, rfl, SSR.nil, hBA.trans (hbB.mono hBA.size)⟩
        · obtain rfl : N = k := HNN.out.symm
          go_enter Try.func36, Try.ntmps36
          go_upto_region 3 with (first | (go_at_call 13; ((with_reducible refine (HF.out _ hb0).mono ?_); rintro e wA ⟨⟨v, rfl, rfl⟩, hb⟩; have hBA := hb0.trans (hb.mono (by omega)); have hNA := hN.below hb; have hAA := HA.out _ hBA hNA.c0 hNA.c1)) | (go_at_call 66; ((with_reducible refine (HI.out _).mono ?_); rintro e w' ⟨rfl, rfl⟩)) | (go_at_call 67; ((with_reducible refine (HC.out _ hBA hAA).mono ?_); rintro e wB ⟨⟨v, rfl, rfl⟩, hbB⟩)))
          have hN1 := hNA.below hbB
          have hB1 := hBA.trans (hbB.mono hBA.size)
          have hs1 := hb.size
          have hs1' := hB1.size
          have HN1 := Lib.hid hN1
          have HB1 := Lib.hid hB1
          clear hN hN1 hb hB1 hb0 hBA hNA hAA hbB
          go_wp2
          go_loopw [8, 32] (fun v kk wr => ∃ (i : Nat) (q c : Nat → Nat), i ≤ N ∧ kk = .int .i64 i ∧ RIn wr wB.heap.size n i v D q c ∧ Below wB.heap.size wB wr) (fun _ kk _ => N - (intOf kk).toNat)
          case atStart => exact ⟨0, fun _ => 0, fun _ => 0, by omega, rfl, RIn.start ⟨rfl, .inl ⟨rfl, rfl⟩⟩, by (with_reducible repeat (first | exact Below.refl _ _ | apply below_alloc | apply below_dN | apply below_d | refine below_setCell ?_ (by dsimp only; omega) | refine below_call (by assumption) ?_))⟩
          case round =>
            obtain ⟨i, q, c, hik, rfl, hI, hB⟩ := hrel
            have hBs := hB.size
            by_cases hlt : i < N
            · have hBx := HB1.out.trans (hB.mono (by omega))
              have d0 := (HD.out.below hBx).cell hlt
              have dl := (HD.out.below hBx).lt
              have hNr := HN1.out.below hB
              have n0 := hNr.c0
              have n1 := hNr.c1
              have hnl := hNr.lt
              have hPi : P (d i) = true := allB_of HKK.out i hlt
              obtain ⟨x, hx, hxn⟩ := HFA.out _ hPi
              have hDi := HRS.out x i hx
              rw [hx] at d0
              have HIN := Lib.hid hI
              have HB := Lib.hid hB
              clear hI hB hPi hx
              go_wp2_with (first | (go_at_call 63; ((with_reducible refine (HL.out x hxn _ hBx).mono ?_); rintro e w2 ⟨q', c', rfl, hq', hD', hb2⟩; have hs2 := hb2.size; have hIb := HIN.out.below hb2; have hown := hIb.1)) | (at_builtin; refine wpList_append_own _ rfl (.tmp 36) (.tmp 40) 55 rfl wB.heap.size 47 i0 (.slice none 0 0) 1 24 Try.underlying55 hi hI0 hI1 hI2 rfl (by decide) _ _ _ rfl (hown.alloc _) ⟨w2.heap.size, 0, none⟩ 1 1 [.slice (some ⟨q', 0, none⟩) n c'] rfl rfl (cell_one_new _ _ _) (by intro u hu; simp at hu; subst hu; rfl) (by unfold maxLen; omega) (by omega) (by simp; omega) ?_; intro v1 w5 hown5 hgrow5 hnil5))
              go_roundw
              case rel => exact ⟨i + 1, _, _, by omega, by go_num, RIn.push HIN.out hb2 (by omega) hq' (by rw [hDi]; exact hD') hgrow5 hown5, ((HB.out.trans (hb2.mono (by omega))).alloc (by omega) _).grown hgrow5 (by simp; omega) (fun j hj => (hown.lt j hj).1)⟩
              case measure => first | (simp [intOf]; done) | (simp [intOf]; omega)
            · obtain rfl : i = N := by omega
              have HIN := Lib.hid hI
              have HB := Lib.hid hB
              clear hI hB
              go_wp2
              go_ret2
              refine ⟨_, rfl, HIN.out.ssr.lo (by omega), ?_⟩
              exact HB1.out.trans (HB.out.mono (by omega))
    · rw [decide_eq_false hk8]
      clear hP hR hD hq
      have hk8' : (8 : Int) < k := by omega
      go_enter Try.func36, Try.ntmps36
      go_wp2_with (first | (go_at_call 13; ((with_reducible refine (HF.out _ (by (with_reducible repeat (first | exact Below.refl _ _ | apply below_alloc | apply below_dN | apply below_d | refine below_setCell ?_ (by dsimp only; omega) | refine below_call (by assumption) ?_)))).mono ?_); rintro e w1 ⟨⟨v, rfl, rfl⟩, hb⟩); have hu2 : ∀ n : Nat, n < n + 1 + 1 := (fun n => by omega); have hu3 : ∀ n : Nat, n < n + 1 + 1 + 1 := (fun n => by omega); obtain ⟨hc, hfz⟩ := bcell hb; (try simp only [World.heap_drewN] at hc hfz); have hs_ := hb.size; (try simp at hs_); (try have hz0 : w.heap.size < w1.heap.size := (by omega)); (try have hz1 : w.heap.size + 1 < w1.heap.size := (by omega)); (try have hz2 : w.heap.size + 2 < w1.heap.size := (by omega)); (try have hz3 : w.heap.size + 3 < w1.heap.size := (by omega)); (try have hza : wa.heap.size < w1.heap.size := (by omega)); (try have hza1 : wa.heap.size + 1 < w1.heap.size := (by omega)); (try have hzb : wb.heap.size < w1.heap.size := (by omega)); (try have hzb1 : wb.heap.size + 1 < w1.heap.size := (by omega)); (try have hzc : wc.heap.size < w1.heap.size := (by omega)); (try have hzd : wd.heap.size < w1.heap.size := (by omega))))
      go_ret2
      exact ⟨_, rfl, SSR.nil, by (with_reducible repeat (first | exact Below.refl _ _ | apply below_alloc | apply below_dN | apply below_d | refine below_setCell ?_ (by dsimp only; omega) | refine below_call (by assumption) ?_))⟩
end Go.Proofs.Ytpmeccjfjjklkaa
