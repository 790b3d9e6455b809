/- Contracts of SameTracks' other spelling, and its law. No condition. -/
import Derived.Test.YtnkimeeofmbhkaaTrw
namespace Go.Proofs.Ytnkimeeofmbhkaa
open Go.RowKit
set_option linter.unusedSimpArgs false
theorem iSamePlace_r (x y u v : Nat) (w : World)
    (hx : (Lit.float .f32 x).wf = true) (hy : (Lit.float .f32 y).wf = true) (hu : (Lit.float .f32 u).wf = true) (hv : (Lit.float .f32 v).wf = true) :
    Calls Try.prog 52 #[.agg #[.float .f32 x, .float .f32 y], .agg #[.float .f32 u, .float .f32 v]] w (Ret (RV (.bool (fsm x u && fsm y v))) w) :=
  (iSamePlace_any x y u v w hx hy hu hv).mono fun _ _ h => ⟨⟨_, h.1, rfl⟩, h.2⟩
set_option maxRecDepth 100000 in
set_option maxHeartbeats 2000000 in
theorem eqfP_c (q q' m m' : Nat) (x y x' y' : Nat → Nat) (w : World) (hm : m ≤ 1048576) (hP : PlBlk w q m x y) (hP' : PlBlk w q' m' x' y') (hw : WfP m x y) (hw' : WfP m' x' y') :
    Calls Try.prog 51 #[.slice (some ⟨q, 0, none⟩) m m, .slice (some ⟨q', 0, none⟩) m' m', .func (.func 52) #[] #[]] w (Ret (RV (.bool (plEq m m' x y x' y'))) w) := by
  by_cases em : m = m'
  · subst em
    have hT : plEq m m x y x' y' = allB (fun k => fsm (x k) (x' k) && fsm (y k) (y' k)) m := by unfold plEq; rw [decide_eq_true rfl]; rfl
    rw [hT]
    obtain ⟨K, hK⟩ : ∃ K, allB (fun k => fsm (x k) (x' k) && fsm (y k) (y' k)) m = K := ⟨_, rfl⟩
    rw [hK]
    have HK := Lib.hid hK
    clear hK hT
    go_enter Try.func51, Try.ntmps51
    go_wp2
    go_loopw [17] (fun kk wr => ∃ i : Nat, i ≤ m ∧ kk = .int .i64 i ∧ (∀ j, j < i → (fsm (x j) (x' j) && fsm (y j) (y' j)) = true) ∧ Below w.heap.size w wr) (fun kk _ => m - (intOf kk).toNat)
    case atStart => exact ⟨0, by omega, rfl, by omega, Below.refl _ _⟩
    case round =>
      obtain ⟨i, hi, rfl, hall, hB⟩ := hrel
      have HALL := Lib.hid hall
      clear hall
      by_cases hlt : i < m
      · have hP1 := hP.dn hB
        have hP1' := hP'.dn hB
        obtain ⟨c0, c1⟩ := hP1.at hlt
        obtain ⟨c0', c1'⟩ := hP1'.at hlt
        have ql := hP1.lt'
        have ql' := hP1'.lt'
        have HC := Lib.hid (fun (w' : World) => iSamePlace_r (x i) (y i) (x' i) (y' i) w' (hw i hlt).1 (hw i hlt).2 (hw' i hlt).1 (hw' i hlt).2)
        have HW := Lib.hid hw
        have HW' := Lib.hid hw'
        have HP := Lib.hid hP
        have HP' := Lib.hid hP'
        have HB := Lib.hid hB
        obtain ⟨B, hBv⟩ : ∃ B, (fsm (x i) (x' i) && fsm (y i) (y' i)) = B := ⟨_, rfl⟩
        rw [hBv] at HC
        have HBV := Lib.hid hBv
        clear hP1 hP1' hw hw' hP hP' hB hBv
        cases B
        · go_wp2_with (first | (go_at_call 52; ((with_reducible refine (HC.out _).mono ?_); rintro e w1 ⟨⟨v, rfl, rfl⟩, hb⟩)))
          go_ret
          refine ⟨⟨_, rfl, ?_⟩, by have := HB.out; (with_reducible repeat (first | exact Below.refl _ _ | apply below_alloc | apply below_dN | apply below_d | refine below_setCell ?_ (by dsimp only; omega) | refine below_call (by assumption) ?_))⟩
          show _ = _
          rw [← HK.out, allB_false hlt HBV.out]
          rfl
        · go_wp2_with (first | (go_at_call 52; ((with_reducible refine (HC.out _).mono ?_); rintro e w1 ⟨⟨v, rfl, rfl⟩, hb⟩)))
          go_roundw
          case rel => exact ⟨i + 1, by omega, by go_num, fun j hj => by
            by_cases ej : j = i
            · rw [ej]; exact HBV.out
            · exact HALL.out j (by omega), by have := HB.out; (with_reducible repeat (first | exact Below.refl _ _ | apply below_alloc | apply below_dN | apply below_d | refine below_setCell ?_ (by dsimp only; omega) | refine below_call (by assumption) ?_))⟩
          case measure => first | (simp [intOf]; done) | (simp [intOf]; omega)
      · obtain rfl : i = m := by omega
        have HB := Lib.hid hB
        clear hB
        go_wp2
        go_ret
        refine ⟨⟨_, rfl, ?_⟩, HB.out⟩
        show _ = _
        rw [← HK.out, allB_true HALL.out]
        rfl
  · have hT : plEq m m' x y x' y' = false := by unfold plEq; rw [decide_eq_false em]; rfl
    rw [hT]
    have em' : ¬ ((m : Int) = (m' : Int)) := by omega
    clear hT hP hP' hw hw'
    go_enter Try.func51, Try.ntmps51
    go_wp2
    go_ret
    exact ⟨⟨_, rfl, rfl⟩, Below.refl _ _⟩
set_option maxRecDepth 100000 in
set_option maxHeartbeats 2000000 in
theorem st1_c (s s' : ByteArray) (q q' m m' : Nat) (x y x' y' : Nat → Nat) (w : World) (hm : m ≤ 1048576) (hP : PlBlk w q m x y) (hP' : PlBlk w q' m' x' y') (hw : WfP m x y) (hw' : WfP m' x' y') :
    Calls Try.prog 50 #[.agg #[.string s, .slice (some ⟨q, 0, none⟩) m m], .agg #[.string s', .slice (some ⟨q', 0, none⟩) m' m']] w (Ret (RV (.bool (decide (s = s') && plEq m m' x y x' y'))) w) := by
  have HC := Lib.hid (fun (w' : World) (hB : Below w.heap.size w w') => eqfP_c q q' m m' x y x' y' w' hm (hP.dn hB) (hP'.dn hB) hw hw')
  clear hP hP' hw hw'
  generalize plEq m m' x y x' y' = B at HC
  by_cases es : s = s'
  · subst es
    rw [decide_eq_true rfl, Bool.true_and]
    go_enter Try.func50, Try.ntmps50
    go_wp2_with (first | (go_at_call 51; ((with_reducible refine (HC.out _ (by (with_reducible repeat (first | exact Below.refl _ _ | apply below_alloc | apply below_dN | apply below_d | refine below_setCell ?_ (by dsimp only; omega) | refine below_call (by assumption) ?_)))).mono ?_); rintro e w1 ⟨⟨v, rfl, rfl⟩, hb⟩)))
    go_ret
    exact ⟨⟨_, rfl, rfl⟩, by (with_reducible repeat (first | exact Below.refl _ _ | apply below_alloc | apply below_dN | apply below_d | refine below_setCell ?_ (by dsimp only; omega) | refine below_call (by assumption) ?_))⟩
  · rw [decide_eq_false es, Bool.false_and]
    have es2 := ba_ne es
    go_enter Try.func50, Try.ntmps50
    go_wp2
    go_ret
    exact ⟨⟨_, rfl, rfl⟩, by (with_reducible repeat (first | exact Below.refl _ _ | apply below_alloc | apply below_dN | apply below_d | refine below_setCell ?_ (by dsimp only; omega) | refine below_call (by assumption) ?_))⟩
set_option maxRecDepth 100000 in
set_option maxHeartbeats 2000000 in
theorem eqfT_c (lo lo' b b' n n' : Nat) (s s' : Nat → ByteArray) (m m' : Nat → Nat) (x y x' y' : Nat → Nat → Nat) (w : World) (hn : n ≤ 1048576) (hm : ∀ j, j < n → m j ≤ 1048576)
    (h : TrIn w lo b n s m x y) (h' : TrIn w lo' b' n' s' m' x' y') (hw : ∀ j, j < n → WfP (m j) (x j) (y j)) (hw' : ∀ j, j < n' → WfP (m' j) (x' j) (y' j)) :
    Calls Try.prog 49 #[.slice (some ⟨b, 0, none⟩) n n, .slice (some ⟨b', 0, none⟩) n' n', .func (.func 50) #[] #[]] w (Ret (RV (.bool (trsEq n n' s s' m m' x y x' y'))) w) := by
  by_cases em : n = n'
  · subst em
    have hT : trsEq n n s s' m m' x y x' y' = allB (trEq s s' m m' x y x' y') n := by unfold trsEq; rw [decide_eq_true rfl]; rfl
    rw [hT]
    obtain ⟨K, hK⟩ : ∃ K, allB (trEq s s' m m' x y x' y') n = K := ⟨_, rfl⟩
    rw [hK]
    have HK := Lib.hid hK
    clear hK hT
    go_enter Try.func49, Try.ntmps49
    go_wp2
    go_loopw [17] (fun kk wr => ∃ i : Nat, i ≤ n ∧ kk = .int .i64 i ∧ (∀ j, j < i → trEq s s' m m' x y x' y' j = true) ∧ Below w.heap.size w wr) (fun kk _ => n - (intOf kk).toNat)
    case atStart => exact ⟨0, by omega, rfl, by omega, Below.refl _ _⟩
    case round =>
      obtain ⟨i, hi, rfl, hall, hB⟩ := hrel
      have HALL := Lib.hid hall
      clear hall
      by_cases hlt : i < n
      · obtain ⟨q, c0, c1, hP⟩ := (h.below hB).at hlt
        obtain ⟨q', c0', c1', hP'⟩ := (h'.below hB).at hlt
        have hlb := (h.below hB).lt
        have hlb' := (h'.below hB).lt
        have HC := Lib.hid (fun (w' : World) (hb : Below wr.heap.size wr w') => st1_c (s i) (s' i) q q' (m i) (m' i) (x i) (y i) (x' i) (y' i) w' (hm i hlt) (hP.dn hb) (hP'.dn hb) (hw i hlt) (hw' i hlt))
        have hE : trEq s s' m m' x y x' y' i = (decide (s i = s' i) && plEq (m i) (m' i) (x i) (y i) (x' i) (y' i)) := rfl
        rw [← hE] at HC
        have HH := Lib.hid h
        have HH' := Lib.hid h'
        have HM := Lib.hid hm
        have HW := Lib.hid hw
        have HW' := Lib.hid hw'
        have HB := Lib.hid hB
        obtain ⟨B, hBv⟩ : ∃ B, trEq s s' m m' x y x' y' i = B := ⟨_, rfl⟩
        rw [hBv] at HC
        have HBV := Lib.hid hBv
        clear hP hP' hw hw' h h' hB hBv hE hm
        generalize s i = S at *
        generalize s' i = S' at *
        generalize m i = M at *
        generalize m' i = M' at *
        cases B
        · go_wp2_with (first | (go_at_call 50; ((with_reducible refine (HC.out _ (by (with_reducible repeat (first | exact Below.refl _ _ | apply below_alloc | apply below_dN | apply below_d | refine below_setCell ?_ (by dsimp only; omega) | refine below_call (by assumption) ?_)))).mono ?_); rintro e w1 ⟨⟨v, rfl, rfl⟩, hb⟩)))
          go_ret
          refine ⟨⟨_, rfl, ?_⟩, by have := HB.out; (with_reducible repeat (first | exact Below.refl _ _ | apply below_alloc | apply below_dN | apply below_d | refine below_setCell ?_ (by dsimp only; omega) | refine below_call (by assumption) ?_))⟩
          show _ = _
          rw [← HK.out, allB_false hlt HBV.out]
          rfl
        · go_wp2_with (first | (go_at_call 50; ((with_reducible refine (HC.out _ (by (with_reducible repeat (first | exact Below.refl _ _ | apply below_alloc | apply below_dN | apply below_d | refine below_setCell ?_ (by dsimp only; omega) | refine below_call (by assumption) ?_)))).mono ?_); rintro e w1 ⟨⟨v, rfl, rfl⟩, hb⟩)))
          go_roundw
          case rel => exact ⟨i + 1, by omega, by go_num, fun j hj => by
            by_cases ej : j = i
            · rw [ej]; exact HBV.out
            · exact HALL.out j (by omega), by have := HB.out; (with_reducible repeat (first | exact Below.refl _ _ | apply below_alloc | apply below_dN | apply below_d | refine below_setCell ?_ (by dsimp only; omega) | refine below_call (by assumption) ?_))⟩
          case measure => first | (simp [intOf]; done) | (simp [intOf]; omega)
      · obtain rfl : i = n := by omega
        have HB := Lib.hid hB
        clear hB
        go_wp2
        go_ret
        refine ⟨⟨_, rfl, ?_⟩, HB.out⟩
        show _ = _
        rw [← HK.out, allB_true HALL.out]
        rfl
  · have hT : trsEq n n' s s' m m' x y x' y' = false := by unfold trsEq; rw [decide_eq_false em]; rfl
    rw [hT]
    have em' : ¬ ((n : Int) = (n' : Int)) := by omega
    clear hT h h' hw hw'
    go_enter Try.func49, Try.ntmps49
    go_wp2
    go_ret
    exact ⟨⟨_, rfl, rfl⟩, Below.refl _ _⟩
theorem iSameTracks_c (lo lo' b b' n n' : Nat) (s s' : Nat → ByteArray) (m m' : Nat → Nat) (x y x' y' : Nat → Nat → Nat) (w : World) (hn : n ≤ 1048576) (hm : ∀ j, j < n → m j ≤ 1048576)
    (h : TrIn w lo b n s m x y) (h' : TrIn w lo' b' n' s' m' x' y') (hw : ∀ j, j < n → WfP (m j) (x j) (y j)) (hw' : ∀ j, j < n' → WfP (m' j) (x' j) (y' j)) :
    Calls Try.prog 24 #[.slice (some ⟨b, 0, none⟩) n n, .slice (some ⟨b', 0, none⟩) n' n'] w (Ret (RV (.bool (trsEq n n' s s' m m' x y x' y'))) w) := by
  have HC := Lib.hid (eqfT_c lo lo' b b' n n' s s' m m' x y x' y' w hn hm h h' hw hw')
  clear h h' hw hw'
  generalize trsEq n n' s s' m m' x y x' y' = B at HC
  go_enter Try.func24, Try.ntmps24
  go_wp2_with (first | (go_at_call 49; ((with_reducible refine (HC.out).mono ?_); rintro e w1 ⟨⟨v, rfl, rfl⟩, hb⟩)))
  go_ret
  exact ⟨⟨_, rfl, rfl⟩, hb⟩
set_option maxRecDepth 100000 in
set_option maxHeartbeats 4000000 in
theorem lawSameTracks (A A' : Option Addr) (n n' cap cap' : Nat) (s s' : Nat → ByteArray) (P P' : Nat → Option Addr) (m m' c c' : Nat → Nat) (x y x' y' : Nat → Nat → Nat) (w : World) (hn : n ≤ 9223372036854775807) (hn' : n' ≤ 9223372036854775807)
    (hs : ∀ j, j < n → (s j).size ≤ 9223372036854775807) (hm : ∀ j, j < n → m j ≤ 9223372036854775807) (hA : TrArg w A n s P m c x y) (hw : ∀ j, j < n → WfP (m j) (x j) (y j))
    (hs' : ∀ j, j < n' → (s' j).size ≤ 9223372036854775807) (hm' : ∀ j, j < n' → m' j ≤ 9223372036854775807) (hA' : TrArg w A' n' s' P' m' c' x' y') (hw' : ∀ j, j < n' → WfP (m' j) (x' j) (y' j)) :
    Calls Try.prog 5 #[.slice A n cap, .slice A' n' cap'] w fun e w' => e = .returned (.bool true) ∧ Below w.heap.size w w' := by
  have HZ := Lib.hid (szTrackS_c A n cap s P m c x y 1048576 (by omega) (by omega) w hn hs hm hA)
  have HZ' := Lib.hid (fun (L : Int) (h0 : 0 ≤ L) (h1 : L ≤ 1048576) (w' : World) (hB : Below w.heap.size w w') => szTrackS_c A' n' cap' s' P' m' c' x' y' L h0 h1 w' hn' hs' hm' (hA'.below hB))
  have HT := Lib.hid (fun (h1 : n ≤ 1048576) (h2 : ∀ j, j < n → m j ≤ 1048576) (w' : World) (hB : Below w.heap.size w w') => toTrackS_c A n cap s P m c x y w' h1 h2 (hA.below hB))
  have HT' := Lib.hid (fun (h1 : n' ≤ 1048576) (h2 : ∀ j, j < n' → m' j ≤ 1048576) (w' : World) (hB : Below w.heap.size w w') => toTrackS_c A' n' cap' s' P' m' c' x' y' w' h1 h2 (hA'.below hB))
  have HW := Lib.hid hw
  have HW' := Lib.hid hw'
  clear hs hm hA hs' hm' hA' hw hw'
  go_enter Try.func5, Try.ntmps5
  go_upto_region 3 with (go_at_call 21; ((with_reducible refine (HZ.out).mono ?_); rintro e w1 ⟨L, rfl, hb1, hL⟩))
  rcases hL with rfl | ⟨l0, l1, l2, l3⟩
  · go_wp2
    go_ret
    exact ⟨rfl, hb1⟩
  · have l0' : ¬ L < 0 := by omega
    have L3 := Lib.hid l3
    clear l3
    go_upto_region 6 with (go_at_call 21; ((with_reducible refine (HZ'.out L l0 l1 _ hb1).mono ?_); rintro e w2 ⟨M, rfl, hb2, hM⟩))
    have B2 := hb1.trans (hb2.mono hb1.size)
    rcases hM with rfl | ⟨m0, m1, m2, m3⟩
    · go_wp2
      go_ret
      exact ⟨rfl, B2⟩
    · have m0' : ¬ M < 0 := by omega
      have M3 := Lib.hid m3
      clear m3
      go_wp2_with fail
      (go_at_call 23; (with_reducible refine (HT.out l2 L3.out _ B2).mono ?_); rintro e w3 ⟨b3, rfl, hT3, hb3⟩)
      have B3 := B2.trans (hb3.mono B2.size)
      go_wp2_with fail
      (go_at_call 23; (with_reducible refine (HT'.out m2 M3.out _ B3).mono ?_); rintro e w4 ⟨b4, rfl, hT4, hb4⟩)
      have B4 := B3.trans (hb4.mono B3.size)
      have S := sSameTracks_c _ _ b3 b4 n n' s s' m m' x y x' y' w4 l2 L3.out (hT3.below hb4) hT4 HW.out HW'.out
      have I := Lib.hid (fun (lo lo' b b' : Nat) (w' : World) (h1 : TrIn w' lo b n s m x y) (h2 : TrIn w' lo' b' n' s' m' x' y') => iSameTracks_c lo lo' b b' n n' s s' m m' x y x' y' w' l2 L3.out h1 h2 HW.out HW'.out)
      generalize trsEq n n' s s' m m' x y x' y' = K at S I
      have S := Lib.hid S
      go_wp2_with fail
      (go_at_call 22; (with_reducible refine (S.out).mono ?_); rintro e w5 ⟨⟨v, rfl, rfl⟩, hb5⟩)
      have B5 := B4.trans (hb5.mono B4.size)
      go_wp2_with fail
      (go_at_call 23; (with_reducible refine (HT.out l2 L3.out _ B5).mono ?_); rintro e w6 ⟨b6, rfl, hT6, hb6⟩)
      have B6 := B5.trans (hb6.mono B5.size)
      go_wp2_with fail
      (go_at_call 23; (with_reducible refine (HT'.out m2 M3.out _ B6).mono ?_); rintro e w7 ⟨b7, rfl, hT7, hb7⟩)
      have B7 := B6.trans (hb7.mono B6.size)
      have T7 := hT6.below hb7
      go_wp2_with fail
      (go_at_call 24; (with_reducible refine (I.out _ _ b6 b7 _ T7 hT7).mono ?_); rintro e w8 ⟨⟨v, rfl, rfl⟩, hb8⟩)
      have B8 := B7.trans (hb8.mono B7.size)
      have T8 := T7.below hb8
      have U8 := hT7.below hb8
      go_wp2_with fail
      (go_at_call 23; (with_reducible refine (HT.out l2 L3.out _ B8).mono ?_); rintro e w9 ⟨b9, rfl, hT9, hb9⟩)
      have B9 := B8.trans (hb9.mono B8.size)
      have U9 := U8.below hb9
      go_wp2_with fail
      (go_at_call 25; (with_reducible refine (eqTrackS_c _ _ b6 b9 n s m x y _ l2 L3.out (T8.below hb9) hT9).mono ?_); rintro e w10 ⟨⟨v, rfl, rfl⟩, hb10⟩)
      have B10 := B9.trans (hb10.mono B9.size)
      have U10 := U9.below hb10
      go_wp2_with fail
      (go_at_call 23; (with_reducible refine (HT'.out m2 M3.out _ B10).mono ?_); rintro e w11 ⟨b11, rfl, hT11, hb11⟩)
      have B11 := B10.trans (hb11.mono B10.size)
      go_wp2_with fail
      (go_at_call 25; (with_reducible refine (eqTrackS_c _ _ b7 b11 n' s' m' x' y' _ m2 M3.out (U10.below hb11) hT11).mono ?_); rintro e w12 ⟨⟨v, rfl, rfl⟩, hb12⟩)
      have B12 := B11.trans (hb12.mono B11.size)
      go_wp2
      go_ret
      exact ⟨rfl, B12⟩
end Go.Proofs.Ytnkimeeofmbhkaa
