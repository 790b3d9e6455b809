/- Contracts of slices.Clone at places and at roads, and of PlainNet in both spellings. No condition. -/
import Derived.Test.YtpmeccjfjjklkaaPN
import Derived.Lib.SliceRun
namespace Go.Proofs.Ytpmeccjfjjklkaa
open Go.RowKit
set_option linter.unusedSimpArgs false
theorem info_pl : (Try.prog.info? 75).map (fun i => (i.zero, i.size, i.bytes)) = some (some (.agg #[.float .f32 0, .float .f32 0]), 2, 8) := by kernel_rfl
theorem info_rd : (Try.prog.info? 69).map (fun i => (i.zero, i.size, i.bytes)) = some (some (.agg #[.int .i64 0, .int .i64 0, .int .i64 0]), 3, 24) := by kernel_rfl
def fl' (f : Nat → Value) (N : Nat) : List Value := (List.range N).map f
theorem fl'_len (f : Nat → Value) (N : Nat) : (fl' f N).length = N := by simp [fl']
theorem fl'_at (f : Nat → Value) {N i : Nat} (h : i < N) : (fl' f N)[i]? = some (f i) := by simp [fl', h]
theorem fl'_get {f : Nat → Value} {N i : Nat} {u : Value} (h : (fl' f N)[i]? = some u) : i < N ∧ u = f i := by
  have hi : i < N := by
    rw [← fl'_len f N]
    exact (List.getElem?_eq_some_iff.1 h).1
  rw [fl'_at f hi] at h
  exact ⟨hi, (Option.some.inj h).symm⟩
theorem fl'_mem {f : Nat → Value} {N : Nat} (h : ∀ i, (f i).oneCell' = true) : ∀ u ∈ fl' f N, u.oneCell' = true := fun u hu => by
  simp only [fl', List.mem_map] at hu
  obtain ⟨i, -, rfl⟩ := hu
  exact h i
theorem add0 (b j : Nat) : (⟨b, 0, none⟩ : Addr).add j = ⟨b, j, none⟩ := by
  by_cases h : j = 0
  · subst h; simp [Addr.add]
  · simp [Addr.add, h]
/-- What a row that is held reads as. -/
def ARow (w : World) (b n : Nat) (f : Nat → Value) : Prop := b < w.heap.size ∧ ∀ i, i < n → w.cell? ⟨b, i, none⟩ = some (f i)
theorem ARow.below {w w' : World} {b n : Nat} {f : Nat → Value} (h : ARow w b n f) (hb : Below w.heap.size w w') : ARow w' b n f := ⟨Nat.lt_of_lt_of_le h.1 hb.size, fun i hi => (hb.cell (p := ⟨b, i, none⟩) h.1).trans (h.2 i hi)⟩
theorem PlBlk.arow {w : World} {b n : Nat} {x y : Nat → Nat} (h : PlBlk w b n x y) : ARow w b (n * 2) (pc x y) := ⟨World.rowIs.lt h, fun i hi => World.rowIs.cell h hi⟩
theorem RdBlk.arow {w : World} {b n : Nat} {a b' l : Nat → Int} (h : RdBlk w b n a b' l) : ARow w b (n * 3) (rc a b' l) := ⟨h.lt, fun i hi => h.at hi⟩
theorem TRow.slice {t : TypeId} {s : Nat} {w : World} {lo : Nat} {v : Value} {n : Nat} {f : Nat → Value} (h : TRow t s w lo v n f) (hv : v ≠ .slice none 0 0) : ∃ g cap N F, v = .slice (some ⟨g, 0, none⟩) n cap ∧ lo ≤ g ∧ n * s ≤ N ∧ w.rowIs g t N F ∧ ∀ i, i < n * s → F i = f i := by
  rcases h with ⟨rfl, -⟩ | ⟨g, cap, N, e, h1, h2, F, h3, h4⟩
  · exact absurd rfl hv
  · exact ⟨g, cap, N, F, e, h1, h2, h3, h4⟩
theorem own0 (w : World) (t : TypeId) (s : Nat) : (w.alloc (.cells #[] t)).ownsRow w.heap.size t s (.slice (some ⟨w.heap.size, 0, none⟩) 0 0) 0 [] :=
  ⟨by simp, .inr ⟨w.heap.size, 0, #[], rfl, Nat.le_refl _, heap_alloc_new _ _, Nat.le_refl _, by simp [maxLen], by simp, by simp⟩⟩
set_option maxRecDepth 100000 in
set_option maxHeartbeats 1000000 in
theorem clonePl_c (b n cap : Nat) (x y : Nat → Nat) (w : World) (hn : n ≤ 1048576) (hP : ARow w b (n * 2) (pc x y)) :
    Calls Try.prog 54 #[.slice (some ⟨b, 0, none⟩) n cap] w fun e w' => ∃ v, e = .returned v ∧ v ≠ .slice none 0 0 ∧ TRow 75 2 w' w.heap.size v n (pc x y) ∧ Below w.heap.size w w' := by
  obtain ⟨i0, hi, hI0, hI1, hI2⟩ := info_parts info_pl
  have hP1 := hP.below (Below.alloc (Below.refl w.heap.size w) (Nat.le_refl _) (.cells #[] 75))
  have HP1 := Lib.hid hP1
  have hO := own0 w 75 2
  have qT : ∀ (w : World) (a : Option Addr) (n c n' c' : Nat), (binOp .eql 28 (.slice a n c) (.slice none n' c')).run Try.prog w = .ok (.bool a.isNone) w := fun w a n c n' c' => Lib.run_eql_slice_nil w _ _ a n c n' c' Try.underlying28
  clear hP1
  go_enter Try.func54, Try.ntmps54
  go_wp2_with (at_builtin; refine wpList_append_own _ rfl (.tmp 5) (.tmp 6) 28 rfl w.heap.size 75 i0 (.agg #[.float .f32 0, .float .f32 0]) 2 8 Try.underlying28 hi hI0 hI1 hI2 rfl (by decide) _ _ _ rfl hO ⟨b, 0, none⟩ n cap (fl' (pc x y) (n * 2)) rfl (fl'_len _ _) (fun j u hu => by obtain ⟨h1, rfl⟩ := fl'_get hu; rw [add0]; exact HP1.out.2 j h1) (fl'_mem (fun i => rfl)) (by unfold maxLen; omega) (by omega) (by simp) ?_; intro v1 w5 hown5 hgrow5 hnil5)
  go_ret
  refine ⟨v1, rfl, fun e => (nomatch (hnil5.1 e).1), ?_, (Below.alloc (Below.refl w.heap.size w) (Nat.le_refl _) _).grown hgrow5 (by simp) (fun j hj => (hO.lt j hj).1)⟩
  have hh := TRow.own (f := pc x y) (n := n) (by rw [Nat.zero_add] at hown5; exact hown5) (fun i hi => by rw [List.nil_append]; exact fl'_at _ hi)
  exact hh
set_option maxRecDepth 100000 in
set_option maxHeartbeats 1000000 in
theorem cloneRd_c (b n cap : Nat) (x y z : Nat → Int) (w : World) (hn : n ≤ 1048576) (hP : ARow w b (n * 3) (rc x y z)) :
    Calls Try.prog 55 #[.slice (some ⟨b, 0, none⟩) n cap] w fun e w' => ∃ v, e = .returned v ∧ v ≠ .slice none 0 0 ∧ TRow 69 3 w' w.heap.size v n (rc x y z) ∧ Below w.heap.size w w' := by
  obtain ⟨i0, hi, hI0, hI1, hI2⟩ := info_parts info_rd
  have hP1 := hP.below (Below.alloc (Below.refl w.heap.size w) (Nat.le_refl _) (.cells #[] 69))
  have HP1 := Lib.hid hP1
  have hO := own0 w 69 3
  have qT : ∀ (w : World) (a : Option Addr) (n c n' c' : Nat), (binOp .eql 29 (.slice a n c) (.slice none n' c')).run Try.prog w = .ok (.bool a.isNone) w := fun w a n c n' c' => Lib.run_eql_slice_nil w _ _ a n c n' c' Try.underlying29
  clear hP1
  go_enter Try.func55, Try.ntmps55
  go_wp2_with (at_builtin; refine wpList_append_own _ rfl (.tmp 5) (.tmp 6) 29 rfl w.heap.size 69 i0 (.agg #[.int .i64 0, .int .i64 0, .int .i64 0]) 3 24 Try.underlying29 hi hI0 hI1 hI2 rfl (by decide) _ _ _ rfl hO ⟨b, 0, none⟩ n cap (fl' (rc x y z) (n * 3)) rfl (fl'_len _ _) (fun j u hu => by obtain ⟨h1, rfl⟩ := fl'_get hu; rw [add0]; exact HP1.out.2 j h1) (fl'_mem (fun i => rfl)) (by unfold maxLen; omega) (by omega) (by simp) ?_; intro v1 w5 hown5 hgrow5 hnil5)
  go_ret
  refine ⟨v1, rfl, fun e => (nomatch (hnil5.1 e).1), ?_, (Below.alloc (Below.refl w.heap.size w) (Nat.le_refl _) _).grown hgrow5 (by simp) (fun j hj => (hO.lt j hj).1)⟩
  have hh := TRow.own (f := rc x y z) (n := n) (by rw [Nat.zero_add] at hown5; exact hown5) (fun i hi => by rw [List.nil_append]; exact fl'_at _ hi)
  exact hh
/-- What PlainNet returns. -/
def PNR (K : Bool) (n m : Nat) (x y : Nat → Nat) (a b l : Nat → Int) (w : World) (e : Ending) (w' : World) : Prop := ∃ vP vR, e = .returned (.tuple #[.agg #[vP, vR], .bool K]) ∧ TRow 75 2 w' w.heap.size vP (if K then n else 0) (pc x y) ∧ TRow 69 3 w' w.heap.size vR (if K then m else 0) (rc a b l) ∧ Below w.heap.size w w'
theorem plc_of {w : World} {g n N : Nat} {F : Nat → Value} {x y : Nat → Nat} (h : w.rowIs g 75 N F) (hN : n * 2 ≤ N) (hF : ∀ i, i < n * 2 → F i = pc x y i) : PlCells w g n (canon x) (canon y) := fun j hj => by
  have h0 := h.cell (i := j * 2) (by omega)
  have h1 := h.cell (i := j * 2 + 1) (by omega)
  rw [hF _ (by omega)] at h0 h1
  refine ⟨x j, y j, by rw [h0]; unfold pc; rw [if_pos (by omega), show j * 2 / 2 = j by omega], by rw [h1]; unfold pc; rw [if_neg (by omega), show (j * 2 + 1) / 2 = j by omega], rfl, rfl⟩
theorem TRow.set {t : TypeId} {s : Nat} {w : World} {lo q i : Nat} {v : Value} {n : Nat} {f : Nat → Value} (h : TRow t s w lo v n f) (hq : q < lo) (z : Value) : TRow t s (w.setCell ⟨q, i, none⟩ z) lo v n f := h.keep (fun b _ hb _ => Below.heap_setCell _ _ _ _ (by show b ≠ q; omega))
set_option maxRecDepth 100000 in
set_option maxHeartbeats 2000000 in
theorem iPN_c (g h n m cg ch : Nat) (x y : Nat → Nat) (a b l : Nat → Int) (w : World) (hn : n ≤ 1048576) (hm : m ≤ 1048576) (hP : ARow w g (n * 2) (pc x y)) (hR : ARow w h (m * 3) (rc a b l)) :
    Calls Try.prog 20 #[.slice (some ⟨g, 0, none⟩) n cg, .slice (some ⟨h, 0, none⟩) m ch] w (PNR (netOk n m (canon x) (canon y) a b l) n m x y a b l w) := by
  have HCP := Lib.hid (fun (w' : World) (hB : Below w.heap.size w w') => clonePl_c g n cg x y w' hn (hP.below hB))
  have HCR := Lib.hid (fun (w' : World) (hB : Below w.heap.size w w') => cloneRd_c h m ch a b l w' hm (hR.below hB))
  have HN := Lib.hid (fun (g' h' cg' ch' : Nat) (w' : World) h1 h2 h3 => iValidNet_c g' h' n m cg' ch' (canon x) (canon y) a b l w' h1 hn hm h2 h3)
  generalize netOk n m (canon x) (canon y) a b l = K at HN
  obtain ⟨V, hV⟩ : ∃ V, w.alloc (.cells #[.slice none 0 0, .slice none 0 0] 31) = V := ⟨_, rfl⟩
  have hVs : V.heap.size = w.heap.size + 1 := by rw [← hV]; simp
  have hBV : Below w.heap.size w V := by rw [← hV]; (with_reducible repeat (first | exact Below.refl _ _ | apply below_alloc | apply below_dN | apply below_d | refine below_setCell ?_ (by dsimp only; omega) | refine below_call (by assumption) ?_))
  have tV : ntc V w.heap.size (.slice none 0 0) (.slice none 0 0) := by rw [← hV]; exact ntc.newAt rfl
  clear hP hR
  go_enter Try.func20, Try.ntmps20
  go_upto_region 2 with (first | (go_at_call 54; ((with_reducible refine (HCP.out _ hBV).mono ?_); rintro e w1 ⟨vP, rfl, hvP, hTP, hb1⟩); obtain ⟨g1, cg1, N1, F1, rfl, hg1, hN1, hr1, hF1⟩ := hTP.slice hvP; have HTP := Lib.hid hTP; clear hTP hvP) | (go_at_call 55; ((with_reducible refine (HCR.out _ (hBV.trans (hb1.mono (by omega)))).mono ?_); rintro e w2 ⟨vR, rfl, hvR, hTR, hb2⟩); obtain ⟨g2, cg2, N2, F2, rfl, hg2, hN2, hr2, hF2⟩ := hTR.slice hvR; have HTR := Lib.hid hTR; clear hTR hvR))
  have hs1 := hb1.size
  have hs2 := hb2.size
  have tV2 : ntc w2 w.heap.size (.slice none 0 0) (.slice none 0 0) := (tV.below hb1).below hb2
  obtain ⟨U, hU⟩ : ∃ U, w2.alloc (.cells #[.slice (some ⟨g1, 0, none⟩) n cg1, .slice (some ⟨g2, 0, none⟩) m cg2] 31) = U := ⟨_, rfl⟩
  have tZ2 : ntc U w2.heap.size (.slice (some ⟨g1, 0, none⟩) n cg1) (.slice (some ⟨g2, 0, none⟩) m cg2) := by rw [← hU]; exact ntc.newAt rfl
  have hB2U : Below w2.heap.size w2 U := by rw [← hU]; (with_reducible repeat (first | exact Below.refl _ _ | apply below_alloc | apply below_dN | apply below_d | refine below_setCell ?_ (by dsimp only; omega) | refine below_call (by assumption) ?_))
  have hTP1 : TRow 75 2 U V.heap.size (.slice (some ⟨g1, 0, none⟩) n cg1) n (pc x y) := (HTP.out.below hb2).below hB2U
  have hTR1 : TRow 69 3 U w1.heap.size (.slice (some ⟨g2, 0, none⟩) m cg2) m (rc a b l) := HTR.out.below hB2U
  have hrP := (hr1.of_block (hb2.block _ hr1.lt))
  have hrP2 := hrP.of_block (hB2U.block _ hrP.lt)
  have hrR2 := hr2.of_block (hB2U.block _ hr2.lt)
  have hPU := plc_of hrP2 hN1 hF1
  have hRU : RdBlk U g2 m a b l := ⟨N2, F2, hN2, hF2, hrR2⟩
  have hHN := HN.out g1 g2 cg1 cg2 U hrP2.lt hPU hRU
  have HHN := Lib.hid hHN
  have z0 := tZ2.c0
  have z1 := tZ2.c1
  have z2 := tZ2.lt
  have hUs := hB2U.size
  have tVU := tV2.below hB2U
  have hBU : Below w.heap.size w U := ((hBV.trans (hb1.mono (by omega))).trans (hb2.mono (by omega))).trans (hB2U.mono (by omega))
  clear hHN hPU hRU hrP hrP2 hrR2 hF1 hF2 hr1 hr2 HTP HTR HCP HCR HN
  cases K
  · go_wp2_with (go_at_call 13; (with_reducible refine (HHN.out).mono ?_); rintro e w3 ⟨⟨_, rfl, rfl⟩, hb3⟩; have tV3 := tVU.below hb3; have y2 := tV3.fr 0; have y3 := tV3.fr 1; have y4 := tV3.lt; have y0 := tV3.c0; have y1 := tV3.c1; have tV4 := (tV3.setA (.slice none 0 0)).setB (.slice none 0 0); have p0 := tV4.c0; have p1 := tV4.c1)
    refine bodyPost_ret (v := .tuple #[.agg #[.slice none 0 0, .slice none 0 0], .bool false]) (by simp [results, Try.results20, go_sem, *] <;> (first | rfl | exact ⟨rfl, rfl⟩ | exact ⟨rfl, rfl, rfl⟩ | exact ⟨rfl, rfl, rfl, rfl⟩)) rfl ?_
    exact ⟨_, _, rfl, .inl ⟨rfl, rfl⟩, .inl ⟨rfl, rfl⟩, ((hBU.trans (hb3.mono (by omega))).setCell (p := ⟨w.heap.size, 0, none⟩) (Nat.le_refl _) _).setCell (p := ⟨w.heap.size, 1, none⟩) (Nat.le_refl _) _⟩
  · go_wp2_with (go_at_call 13; (with_reducible refine (HHN.out).mono ?_); rintro e w3 ⟨⟨_, rfl, rfl⟩, hb3⟩; have tV3 := tVU.below hb3; have tZ3 := tZ2.below hb3; have x0 := tZ3.c0; have x1 := tZ3.c1; have x2 := tZ3.lt; have y2 := tV3.fr 0; have y3 := tV3.fr 1; have y4 := tV3.lt; have y0 := tV3.c0; have y1 := tV3.c1; have tV4 := (tV3.setA (.slice (some ⟨g1, 0, none⟩) n cg1)).setB (.slice (some ⟨g2, 0, none⟩) m cg2); have p0 := tV4.c0; have p1 := tV4.c1)
    refine bodyPost_ret (v := .tuple #[.agg #[.slice (some ⟨g1, 0, none⟩) n cg1, .slice (some ⟨g2, 0, none⟩) m cg2], .bool true]) (by simp [results, Try.results20, go_sem, *] <;> (first | rfl | exact ⟨rfl, rfl⟩ | exact ⟨rfl, rfl, rfl⟩ | exact ⟨rfl, rfl, rfl, rfl⟩)) rfl ?_
    exact ⟨_, _, rfl, (((hTP1.below hb3).set (by omega) _).set (by omega) _).lo_le (by omega), (((hTR1.below hb3).set (by omega) _).set (by omega) _).lo_le (by omega), ((hBU.trans (hb3.mono (by omega))).setCell (p := ⟨w.heap.size, 0, none⟩) (Nat.le_refl _) _).setCell (p := ⟨w.heap.size, 1, none⟩) (Nat.le_refl _) _⟩
set_option maxRecDepth 100000 in
set_option maxHeartbeats 2000000 in
theorem sPN_c (g h n m cg ch : Nat) (x y : Nat → Nat) (a b l : Nat → Int) (w : World) (hn : n ≤ 1048576) (hm : m ≤ 1048576) (hP : ARow w g (n * 2) (pc x y)) (hR : ARow w h (m * 3) (rc a b l)) :
    Calls Try.prog 17 #[.slice (some ⟨g, 0, none⟩) n cg, .slice (some ⟨h, 0, none⟩) m ch] w (PNR (netOk n m (canon x) (canon y) a b l) n m x y a b l w) := by
  obtain ⟨i0, hi, hI0, hI1, hI2⟩ := info_parts info_pl
  obtain ⟨r0, hr, hR0, hR1, hR2⟩ := info_parts info_rd
  have HN := Lib.hid (fun (p g' h' cg' ch' : Nat) (w' : World) h1 h2 h3 h4 => l07Net_c p g' h' n m cg' ch' (canon x) (canon y) a b l w' hn hm h1 h2 h3 h4)
  generalize netOk n m (canon x) (canon y) a b l = K at HN
  obtain ⟨V0, hV0⟩ : ∃ V, w.alloc (.cells #[.slice none 0 0, .slice none 0 0] 31) = V := ⟨_, rfl⟩
  have hV0s : V0.heap.size = w.heap.size + 1 := by rw [← hV0]; simp
  have hBV0 : Below w.heap.size w V0 := by rw [← hV0]; (with_reducible repeat (first | exact Below.refl _ _ | apply below_alloc | apply below_dN | apply below_d | refine below_setCell ?_ (by dsimp only; omega) | refine below_call (by assumption) ?_))
  have tV0 : ntc V0 w.heap.size (.slice none 0 0) (.slice none 0 0) := by rw [← hV0]; exact ntc.newAt rfl
  have hO0 := own0 V0 75 2
  obtain ⟨V, hV⟩ : ∃ V, V0.alloc (.cells #[] 75) = V := ⟨_, rfl⟩
  have hVs : V.heap.size = w.heap.size + 2 := by rw [← hV]; simp; omega
  have hB0V : Below V0.heap.size V0 V := by rw [← hV]; (with_reducible repeat (first | exact Below.refl _ _ | apply below_alloc | apply below_dN | apply below_d | refine below_setCell ?_ (by dsimp only; omega) | refine below_call (by assumption) ?_))
  have hBV : Below w.heap.size w V := hBV0.trans (hB0V.mono (by omega))
  have tV := tV0.below hB0V
  rw [hV, hV0s] at hO0
  have hP1 := (hP.below hBV)
  have HP1 := Lib.hid hP1
  have HR0 := Lib.hid hR
  have HO0 := Lib.hid hO0
  clear hP hR hP1 hO0
  go_enter Try.func17, Try.ntmps17
  go_upto_region 2 with (first | (at_builtin; refine wpList_append_own _ rfl (.tmp 7) (.tmp 8) 28 rfl (w.heap.size + 1) 75 i0 (.agg #[.float .f32 0, .float .f32 0]) 2 8 Try.underlying28 hi hI0 hI1 hI2 rfl (by decide) _ _ _ rfl HO0.out ⟨g, 0, none⟩ n cg (fl' (pc x y) (n * 2)) rfl (fl'_len _ _) (fun j u hu => by obtain ⟨h1, rfl⟩ := fl'_get hu; rw [add0]; exact HP1.out.2 j h1) (fl'_mem (fun i => rfl)) (by unfold maxLen; omega) (by omega) (by omega) ?_; intro v1 w1 hown1 hgrow1 hnil1; have hb1 : Below V0.heap.size V0 w1 := hB0V.grown hgrow1 (by omega) (fun j hj => by have := (HO0.out.lt j hj).1; omega); obtain ⟨g1, cg1, N1, F1, rfl, hg1, hN1, hr1, hF1⟩ := (TRow.own (f := pc x y) (n := n) (by rw [Nat.zero_add] at hown1; exact hown1) (fun i hi => by rw [List.nil_append]; exact fl'_at _ hi)).slice (fun e => nomatch (hnil1.1 e).1); clear hown1 hnil1) | (at_builtin; refine wpList_append_own _ rfl (.tmp 10) (.tmp 11) 29 rfl w1.heap.size 69 r0 (.agg #[.int .i64 0, .int .i64 0, .int .i64 0]) 3 24 Try.underlying29 hr hR0 hR1 hR2 rfl (by decide) _ _ _ rfl (own0 w1 69 3) ⟨h, 0, none⟩ m ch (fl' (rc a b l) (m * 3)) rfl (fl'_len _ _) (fun j u hu => by obtain ⟨h1, rfl⟩ := fl'_get hu; rw [add0]; exact (HR0.out.below ((hBV0.trans (hb1.mono (by omega))).alloc (Nat.le_trans (Nat.le_of_lt (by omega)) hb1.size) _)).2 j h1) (fl'_mem (fun i => rfl)) (by unfold maxLen; omega) (by omega) (by simp) ?_; intro v2 w2 hown2 hgrow2 hnil2; have hb2 : Below w1.heap.size w1 w2 := (Below.alloc (Below.refl w1.heap.size w1) (Nat.le_refl _) _).grown hgrow2 (by simp) (fun j hj => ((own0 w1 69 3).lt j hj).1); obtain ⟨g2, cg2, N2, F2, rfl, hg2, hN2, hr2, hF2⟩ := (TRow.own (f := rc a b l) (n := m) (by rw [Nat.zero_add] at hown2; exact hown2) (fun i hi => by rw [List.nil_append]; exact fl'_at _ hi)).slice (fun e => nomatch (hnil2.1 e).1); clear hown2 hnil2))
  have hs1 := hb1.size
  have hs2 := hb2.size
  have tV2 : ntc w2 w.heap.size (.slice none 0 0) (.slice none 0 0) := (tV0.below hb1).below hb2
  obtain ⟨U, hU⟩ : ∃ U, w2.alloc (.cells #[.slice (some ⟨g1, 0, none⟩) n cg1, .slice (some ⟨g2, 0, none⟩) m cg2] 31) = U := ⟨_, rfl⟩
  have tZ2 : ntc U w2.heap.size (.slice (some ⟨g1, 0, none⟩) n cg1) (.slice (some ⟨g2, 0, none⟩) m cg2) := by rw [← hU]; exact ntc.newAt rfl
  have hB2U : Below w2.heap.size w2 U := by rw [← hU]; (with_reducible repeat (first | exact Below.refl _ _ | apply below_alloc | apply below_dN | apply below_d | refine below_setCell ?_ (by dsimp only; omega) | refine below_call (by assumption) ?_))
  have hTP1 : TRow 75 2 U (w.heap.size + 1) (.slice (some ⟨g1, 0, none⟩) n cg1) n (pc x y) := (TRow.below (show TRow 75 2 w1 (w.heap.size + 1) (.slice (some ⟨g1, 0, none⟩) n cg1) n (pc x y) from .inr ⟨g1, cg1, N1, rfl, hg1, hN1, F1, hr1, hF1⟩) hb2).below hB2U
  have hTR1 : TRow 69 3 U w1.heap.size (.slice (some ⟨g2, 0, none⟩) m cg2) m (rc a b l) := TRow.below (show TRow 69 3 w2 w1.heap.size (.slice (some ⟨g2, 0, none⟩) m cg2) m (rc a b l) from .inr ⟨g2, cg2, N2, rfl, hg2, hN2, F2, hr2, hF2⟩) hB2U
  have hrP := (hr1.of_block (hb2.block _ hr1.lt))
  have hrP2 := hrP.of_block (hB2U.block _ hrP.lt)
  have hrR2 := hr2.of_block (hB2U.block _ hr2.lt)
  have hPU := plc_of hrP2 hN1 hF1
  have hRU : RdBlk U g2 m a b l := ⟨N2, F2, hN2, hF2, hrR2⟩
  have hHN := HN.out w2.heap.size g1 g2 cg1 cg2 U tZ2.c0 tZ2.c1 hPU hRU
  have HHN := Lib.hid hHN
  have z0 := tZ2.c0
  have z1 := tZ2.c1
  have z2 := tZ2.lt
  have hUs := hB2U.size
  have tVU := tV2.below hB2U
  have hBU : Below w.heap.size w U := ((hBV0.trans (hb1.mono (by omega))).trans (hb2.mono (by omega))).trans (hB2U.mono (by omega))
  clear hHN hPU hRU hrP hrP2 hrR2 hF1 hF2 hr1 hr2 HN HP1 HR0 HO0 hgrow1 hgrow2
  cases K
  · go_wp2_with (go_at_call 46; (with_reducible refine (HHN.out).mono ?_); rintro e w3 ⟨⟨_, rfl, rfl⟩, hb3⟩; have tV3 := tVU.below hb3; have y2 := tV3.fr 0; have y3 := tV3.fr 1; have y4 := tV3.lt; have y0 := tV3.c0; have y1 := tV3.c1; have tV4 := (tV3.setA (.slice none 0 0)).setB (.slice none 0 0); have p0 := tV4.c0; have p1 := tV4.c1)
    refine bodyPost_ret (v := .tuple #[.agg #[.slice none 0 0, .slice none 0 0], .bool false]) (by simp [results, Try.results17, go_sem, *] <;> (first | rfl | exact ⟨rfl, rfl⟩ | exact ⟨rfl, rfl, rfl⟩ | exact ⟨rfl, rfl, rfl, rfl⟩)) rfl ?_
    exact ⟨_, _, rfl, .inl ⟨rfl, rfl⟩, .inl ⟨rfl, rfl⟩, ((hBU.trans (hb3.mono (by omega))).setCell (p := ⟨w.heap.size, 0, none⟩) (Nat.le_refl _) _).setCell (p := ⟨w.heap.size, 1, none⟩) (Nat.le_refl _) _⟩
  · go_wp2_with (go_at_call 46; (with_reducible refine (HHN.out).mono ?_); rintro e w3 ⟨⟨_, rfl, rfl⟩, hb3⟩; have tV3 := tVU.below hb3; have tZ3 := tZ2.below hb3; have x0 := tZ3.c0; have x1 := tZ3.c1; have x2 := tZ3.lt; have y2 := tV3.fr 0; have y3 := tV3.fr 1; have y4 := tV3.lt; have y0 := tV3.c0; have y1 := tV3.c1; have tV4 := (tV3.setA (.slice (some ⟨g1, 0, none⟩) n cg1)).setB (.slice (some ⟨g2, 0, none⟩) m cg2); have p0 := tV4.c0; have p1 := tV4.c1)
    refine bodyPost_ret (v := .tuple #[.agg #[.slice (some ⟨g1, 0, none⟩) n cg1, .slice (some ⟨g2, 0, none⟩) m cg2], .bool true]) (by simp [results, Try.results17, go_sem, *] <;> (first | rfl | exact ⟨rfl, rfl⟩ | exact ⟨rfl, rfl, rfl⟩ | exact ⟨rfl, rfl, rfl, rfl⟩)) rfl ?_
    exact ⟨_, _, rfl, (((hTP1.below hb3).set (by omega) _).set (by omega) _).lo_le (by omega), (((hTR1.below hb3).set (by omega) _).set (by omega) _).lo_le (by omega), ((hBU.trans (hb3.mono (by omega))).setCell (p := ⟨w.heap.size, 0, none⟩) (Nat.le_refl _) _).setCell (p := ⟨w.heap.size, 1, none⟩) (Nat.le_refl _) _⟩
end Go.Proofs.Ytpmeccjfjjklkaa
