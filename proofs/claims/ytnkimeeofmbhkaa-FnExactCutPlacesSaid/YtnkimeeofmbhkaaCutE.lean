/- Slices of slices of places: held against each other, marked, held. No condition. -/
import Derived.Test.YtnkimeeofmbhkaaCutW
namespace Go.Proofs.Ytnkimeeofmbhkaa
open Go.RowKit
set_option linter.unusedSimpArgs false
/-- A slice of K slices of places, cell by cell. -/
def SSP (w : World) (lo : Nat) (v : Value) (K : Nat) (L : Nat → Nat) (f : Nat → Nat → Value) : Prop := ∃ (q c : Nat → Nat), TRow 25 1 w lo v K (fun j => .slice (some ⟨q j, 0, none⟩) (L j) (c j)) ∧ (∀ j, j < K → TRow 24 2 w lo (.slice (some ⟨q j, 0, none⟩) (L j) (c j)) (L j) (f j)) ∧ ∀ i j, i < K → j < K → i ≠ j → q i ≠ q j
/-- .. which are those of a list. -/
def PF (K : Nat) (X Y : Nat → Nat) (S L : Nat → Nat) (f : Nat → Nat → Value) : Prop := ∀ j, j < K → ∀ k, k < L j → ∃ a b, f j (k * 2) = .float .f32 a ∧ f j (k * 2 + 1) = .float .f32 b ∧ cn .f32 a = X (S j + k) ∧ cn .f32 b = Y (S j + k)
theorem SSP.below {w w' : World} {lo K : Nat} {v : Value} {L : Nat → Nat} {f : Nat → Nat → Value} (h : SSP w lo v K L f) (hb : Below w.heap.size w w') : SSP w' lo v K L f := by
  obtain ⟨q, c, h1, h2, h3⟩ := h
  exact ⟨q, c, h1.below hb, fun j hj => (h2 j hj).below hb, h3⟩
theorem SSP.keep {w w' : World} {lo K : Nat} {v : Value} {L : Nat → Nat} {f : Nat → Nat → Value} (h : SSP w lo v K L f) (hk : ∀ b, b < w.heap.size → lo ≤ b → w'.heap[b]? = w.heap[b]?) : SSP w' lo v K L f := by
  obtain ⟨q, c, h1, h2, h3⟩ := h
  exact ⟨q, c, h1.keep (fun b hb hl _ => hk b hb hl), fun j hj => (h2 j hj).keep (fun b hb hl _ => hk b hb hl), h3⟩
theorem SSP.lo {w : World} {lo lo' K : Nat} {v : Value} {L : Nat → Nat} {f : Nat → Nat → Value} (h : SSP w lo v K L f) (hl : lo' ≤ lo) : SSP w lo' v K L f := by
  obtain ⟨q, c, h1, h2, h3⟩ := h
  exact ⟨q, c, h1.lo_le hl, fun j hj => (h2 j hj).lo_le hl, h3⟩
theorem SSP.nil {w : World} {lo : Nat} {L : Nat → Nat} {f : Nat → Nat → Value} : SSP w lo (.slice none 0 0) 0 L f := ⟨fun _ => 0, fun _ => 0, .inl ⟨rfl, rfl⟩, fun j hj => absurd hj (by omega), fun j _ hj => absurd hj (by omega)⟩
theorem CutSt.ssp {w : World} {lo : Nat} {v : Value} {ct : Nat → Bool} {X Y : Nat → Nat} {i : Nat} (h : CutSt w lo v ct X Y i) : ∃ f, SSP w lo v (pK ct i) (pL ct i) f ∧ PF (pK ct i) X Y (pS ct i) (pL ct i) f := by
  obtain ⟨vals, xs, hC, hx⟩ := h
  have hv : ∀ j : Nat, ∃ g c : Nat, j < pK ct i → vals j = .slice (some ⟨g, 0, none⟩) (pL ct i j) c := fun j => by
    by_cases hj : j < pK ct i
    · obtain ⟨g, c, e, -⟩ := (hC.inn j hj).form (pL_pos i j hj)
      exact ⟨g, c, fun _ => e⟩
    · exact ⟨0, 0, fun h => absurd h hj⟩
  have hg : ∃ g c : Nat → Nat, ∀ j, j < pK ct i → vals j = .slice (some ⟨g j, 0, none⟩) (pL ct i j) (c j) := ⟨fun j => (hv j).choose, fun j => (hv j).choose_spec.choose, fun j hj => (hv j).choose_spec.choose_spec hj⟩
  obtain ⟨g, c, hgc⟩ := hg
  refine ⟨fun j k => ((xs j)[k]?).getD undef, ⟨g, c, TRow.own hC.out (fun j hj => ?_), fun j hj => ?_, fun a b ha hb hne e => ?_⟩, fun j hj k hk => ?_⟩
  · rw [List.getElem?_map, List.getElem?_range (by omega)]
    show some (vals j) = _
    rw [hgc j (by omega)]
  · rw [← hgc j hj]
    exact TRow.own (hC.inn j hj) (fun k hk => by
      have := (hC.inn j hj).1
      show (xs j)[k]? = some (((xs j)[k]?).getD undef)
      rw [List.getElem?_eq_getElem (by omega)]
      rfl)
  · have h1 := hC.apart a b ha hb hne (g a) (by rw [hgc a ha]; rfl)
    rw [hgc b hb] at h1
    exact h1 (by rw [e]; rfl)
  · obtain ⟨a, b, h1, h2, h3, h4⟩ := hx j hj k hk
    exact ⟨a, b, by simp only [h1, Option.getD_some], by simp only [h2, Option.getD_some], h3, h4⟩
theorem TRow.pl {w : World} {lo q c l : Nat} {f : Nat → Value} {X Y : Nat → Nat} {s : Nat} (h : TRow 24 2 w lo (.slice (some ⟨q, 0, none⟩) l c) l f) (hf : ∀ k, k < l → ∃ a b, f (k * 2) = .float .f32 a ∧ f (k * 2 + 1) = .float .f32 b ∧ cn .f32 a = X (s + k) ∧ cn .f32 b = Y (s + k)) : q < w.heap.size ∧ PlCells w q l (fun k => X (s + k)) (fun k => Y (s + k)) := by
  rcases h with ⟨e, -⟩ | ⟨g, cap, N, e, h1, h2, F, h3, h4⟩
  · exact nomatch e
  · injection e with e1 e2 e3
    injection e1 with e1
    injection e1 with e1
    subst e1
    refine ⟨h3.lt, fun k hk => ?_⟩
    obtain ⟨a, b, e1, e2, e3, e4⟩ := hf k hk
    exact ⟨a, b, by rw [h3.cell (i := k * 2) (by omega), h4 _ (by omega), e1], by rw [h3.cell (i := k * 2 + 1) (by omega), h4 _ (by omega), e2], e3, e4⟩
theorem TRow.atc {t : TypeId} {w : World} {lo k j : Nat} {v : Value} {f : Nat → Value} (h : TRow t 1 w lo v k f) (hj : j < k) : ∃ g cap, v = .slice (some ⟨g, 0, none⟩) k cap ∧ g < w.heap.size ∧ lo ≤ g ∧ w.cell? ⟨g, j, none⟩ = some (f j) := by
  rcases h with ⟨-, rfl⟩ | ⟨g, cap, N, rfl, h1, h2, F, h3, h4⟩
  · omega
  · exact ⟨g, cap, rfl, h3.lt, h1, by rw [← h4 j (by omega)]; exact h3.cell (by omega)⟩
theorem TRow.shp {t : TypeId} {s : Nat} {w : World} {lo : Nat} {v : Value} {n : Nat} {f : Nat → Value} (h : TRow t s w lo v n f) : ∃ A c, v = .slice A n c := by
  rcases h with ⟨rfl, rfl⟩ | ⟨g, cap, N, rfl, -⟩
  · exact ⟨_, _, rfl⟩
  · exact ⟨_, _, rfl⟩
set_option maxRecDepth 100000 in
set_option maxHeartbeats 1000000 in
theorem eqSSP_c (lo lo' : Nat) (v v' : Value) (K : Nat) (S L : Nat → Nat) (X Y : Nat → Nat) (f f' : Nat → Nat → Value) (w : World) (hk : K ≤ 64) (hL : ∀ j, j < K → L j ≤ 64) (h : SSP w lo v K L f) (h' : SSP w lo' v' K L f') (hf : PF K X Y S L f) (hf' : PF K X Y S L f') :
    Calls Try.prog 16 #[v, v'] w (Ret (RV (.bool true)) w) := by
  obtain ⟨q, c, h1, h2, -⟩ := h
  obtain ⟨q', c', h1', h2', -⟩ := h'
  obtain ⟨A, ca, rfl⟩ := h1.shp
  obtain ⟨A', ca', rfl⟩ := h1'.shp
  have H1 := Lib.hid h1
  have H1' := Lib.hid h1'
  have H2 := Lib.hid h2
  have H2' := Lib.hid h2'
  have HF := Lib.hid hf
  have HF' := Lib.hid hf'
  have HLL := Lib.hid hL
  clear h1 h1' h2 h2' hf hf' hL
  go_enter Try.func16, Try.ntmps16
  go_wp2
  go_loopw [5] (fun kk wr => ∃ m : Nat, m ≤ K ∧ kk = .int .i64 m ∧ Below w.heap.size w wr) (fun kk _ => K - (intOf kk).toNat)
  case atStart => exact ⟨0, by omega, rfl, by (with_reducible repeat (first | exact Below.refl _ _ | apply below_alloc | apply below_dN | apply below_d | refine below_setCell ?_ (by dsimp only; omega) | refine below_call (by assumption) ?_))⟩
  case round =>
    obtain ⟨m, hm, rfl, hB⟩ := hrel
    by_cases hlt : m < K
    · obtain ⟨g, cap, e, hg, -, c0⟩ := (H1.out.below hB).atc hlt
      obtain ⟨g', cap', e', hg', -, c0'⟩ := (H1'.out.below hB).atc hlt
      injection e with e1 _ e2
      injection e' with e1' _ e2'
      subst e1 e2 e1' e2'
      have HD := Lib.hid (fun w' (hb : Below wr.heap.size wr w') => by
        have p1 := (((H2.out m hlt).below hB).below hb).pl (HF.out m hlt)
        have p2 := (((H2'.out m hlt).below hB).below hb).pl (HF'.out m hlt)
        exact eqPlaceS_c (q m) (q' m) (L m) (c m) (c' m) _ _ w' (by have := HLL.out m hlt; omega) p1.1 p2.1 p1.2 p2.2)
      have HB := Lib.hid hB
      clear hB
      go_wp2
      (apply region_looseK (k := 10); (kernel_rfl); (kernel_rfl); intro opsL KL hopsL hKL; (dsimp only [List.take]))
      iterate 8 (apply rel_val; (rfl); (intro wq hbq; have hcq := (bcell hbq).1; (go_simp; first | done | rfl | exact ⟨rfl, rfl⟩)); (try go_simp))
      (apply rel_call (RV (.bool true)); (rfl); (intro wq hbq; (go_simp; first | done | rfl | exact ⟨rfl, rfl⟩)); (intro wq hbq; exact HD.out _ (by assumption)); (try go_simp))
      rintro v rfl
      (apply rel_val; (rfl); (intro wq hbq; have hcq := (bcell hbq).1; (go_simp; first | done | rfl | exact ⟨rfl, rfl⟩)); (try go_simp))
      (refine wpRel_nil ?_; refine hKL _ _ ?_; clear hKL hopsL opsL KL; intro w1 hb hnews; obtain ⟨hc, hfz⟩ := bcell hb; (try simp only [World.heap_drewN] at hc hfz); have hz := hb.size; (dsimp only [List.drop]))
      go_wp2
      go_roundw
      case rel => exact ⟨m + 1, by omega, by go_num, by have := HB.out; (with_reducible repeat (first | exact Below.refl _ _ | apply below_alloc | apply below_dN | apply below_d | refine below_setCell ?_ (by dsimp only; omega) | refine below_call (by assumption) ?_))⟩
      case measure => first | (simp [intOf]; done) | (simp [intOf]; omega)
    · obtain rfl : m = K := by omega
      have HB := Lib.hid hB
      clear hB
      go_wp2
      go_ret
      exact ⟨⟨_, rfl, rfl⟩, HB.out⟩
/-- The number ahead of a piece's first mark. -/
def kkp (L : Nat → Nat) (m : Nat) : Nat := 1 + 2 * sumP L m
theorem kkp_succ {L : Nat → Nat} {m : Nat} : kkp L (m + 1) = kkp L m + 2 * L m := by
  unfold kkp
  show 1 + 2 * (sumP L m + L m) = _
  omega
theorem sumP_le {L : Nat → Nat} : ∀ {m K : Nat}, m ≤ K → sumP L m ≤ sumP L K
  | m, 0, h => by obtain rfl : m = 0 := by omega
                  exact Nat.le_refl _
  | m, K + 1, h => by
    by_cases e : m = K + 1
    · subst e; exact Nat.le_refl _
    · have := sumP_le (L := L) (m := m) (K := K) (by omega)
      show sumP L m ≤ sumP L K + L K
      omega
/-- The first m pieces marked. -/
def mksp (L : Nat → Nat) (m : Nat) (f : Nat → Nat → Value) (j : Nat) : Nat → Value := if j < m then mkp (kkp L j) (L j) (f j) else f j
set_option maxRecDepth 100000 in
set_option maxHeartbeats 1000000 in
theorem markSSP_c (lo : Nat) (v : Value) (K : Nat) (L : Nat → Nat) (f : Nat → Nat → Value) (w : World) (hlo : lo ≤ w.heap.size) (hk : K ≤ 64) (hS : sumP L K ≤ 64) (h : SSP w lo v K L f) :
    Calls Try.prog 19 #[v, .int .i64 1] w fun e w' => e = .returned (.int .i64 (kkp L K)) ∧ SSP w' lo v K L (mksp L K f) ∧ Below lo w w' := by
  obtain ⟨q, c, h1, h2, h3⟩ := h
  obtain ⟨A, ca, rfl⟩ := h1.shp
  have H1 := Lib.hid h1
  have H2 := Lib.hid h2
  have H3 := Lib.hid h3
  clear h1 h2 h3
  go_enter Try.func19, Try.ntmps19
  go_wp2
  go_loopw [1, 5] (fun kv kk' wr => ∃ m : Nat, m ≤ K ∧ kv = .int .i64 (kkp L m) ∧ kk' = .int .i64 m ∧ TRow 25 1 wr lo (.slice A K ca) K (fun j => .slice (some ⟨q j, 0, none⟩) (L j) (c j)) ∧ (∀ j, j < K → TRow 24 2 wr lo (.slice (some ⟨q j, 0, none⟩) (L j) (c j)) (L j) (mksp L m f j)) ∧ Below lo w wr) (fun _ kk' _ => K - (intOf kk').toNat)
  case atStart => exact ⟨0, by omega, rfl, rfl, H1.out, fun j hj => by have := H2.out j hj; unfold mksp; rw [if_neg (by omega)]; exact this, Below.refl _ _⟩
  case round =>
    obtain ⟨m, hm, rfl, rfl, hT, hD, hB⟩ := hrel
    by_cases hlt : m < K
    · obtain ⟨g, cap, e, hg, -, c0⟩ := hT.atc hlt
      injection e with e1 _ e2
      subst e1 e2
      have hkl : kkp L (m + 1) ≤ 129 := by
        have := sumP_le (L := L) (show m + 1 ≤ K by omega)
        unfold kkp; omega
      rw [kkp_succ] at hkl
      have HM := Lib.hid (markPlV_c lo (.slice (some ⟨q m, 0, none⟩) (L m) (c m)) (L m) (kkp L m) _ wr (by have := hB.size; omega) (by omega) (by omega) (hD m hlt))
      have HT := Lib.hid hT
      have HD := Lib.hid hD
      have HB := Lib.hid hB
      clear hT hD hB
      go_wp2_with (go_at_call 18; (with_reducible refine (HM.out).mono ?_); rintro e w1 ⟨rfl, hD1, hK1, hb1⟩; have HD1 := Lib.hid hD1; have HK1 := Lib.hid hK1; clear hD1 hK1)
      go_roundw
      case rel =>
        refine ⟨m + 1, by omega, by rw [kkp_succ]; go_num, by go_num, HT.out.keep (fun b hb hl hv => HK1.out b hb (fun e => (HT.out.ne (HD.out m hlt) (by decide) b hv) e)), fun j hj => ?_, HB.out.trans hb1⟩
        by_cases ej : j = m
        · subst ej
          have := HD1.out
          unfold mksp at this ⊢
          rw [if_neg (by omega)] at this
          rw [if_pos (by omega)]
          exact this
        · have h := (HD.out j hj).keep (fun b hb hl hv => HK1.out b hb (fun e => by
            simp only [Value.ownBlock, Option.some.injEq] at hv e
            exact H3.out j m hj hlt ej (hv.trans e.symm)))
          unfold mksp at h ⊢
          by_cases e2 : j < m
          · rw [if_pos e2] at h; rw [if_pos (by omega)]; exact h
          · rw [if_neg e2] at h; rw [if_neg (by omega)]; exact h
      case measure => first | (simp [intOf]; done) | (simp [intOf]; omega)
    · obtain rfl : m = K := by omega
      have HT := Lib.hid hT
      have HD := Lib.hid hD
      have HB := Lib.hid hB
      clear hT hD hB
      go_wp2
      go_ret
      exact ⟨rfl, ⟨q, c, HT.out, HD.out, H3.out⟩, HB.out⟩
set_option maxRecDepth 100000 in
set_option maxHeartbeats 1000000 in
theorem heldSSP_c (lo : Nat) (v : Value) (K : Nat) (L : Nat → Nat) (f : Nat → Nat → Value) (w : World) (hk : K ≤ 64) (hS : sumP L K ≤ 64) (h : SSP w lo v K L (mksp L K f)) :
    Calls Try.prog 20 #[v, .int .i64 1] w (Ret (RV (.int .i64 (kkp L K))) w) := by
  obtain ⟨q, c, h1, h2, h3⟩ := h
  obtain ⟨A, ca, rfl⟩ := h1.shp
  have H1 := Lib.hid h1
  have H2 := Lib.hid h2
  clear h1 h2 h3
  go_enter Try.func20, Try.ntmps20
  go_wp2
  go_loopw [1, 5] (fun kv kk' wr => ∃ m : Nat, m ≤ K ∧ kv = .int .i64 (kkp L m) ∧ kk' = .int .i64 m ∧ Below w.heap.size w wr) (fun _ kk' _ => K - (intOf kk').toNat)
  case atStart => exact ⟨0, by omega, rfl, rfl, Below.refl _ _⟩
  case round =>
    obtain ⟨m, hm, rfl, rfl, hB⟩ := hrel
    by_cases hlt : m < K
    · obtain ⟨g, cap, e, hg, -, c0⟩ := (H1.out.below hB).atc hlt
      injection e with e1 _ e2
      subst e1 e2
      have hkl : kkp L (m + 1) ≤ 129 := by
        have := sumP_le (L := L) (show m + 1 ≤ K by omega)
        unfold kkp; omega
      rw [kkp_succ] at hkl
      have hD := (H2.out m hlt).below hB
      unfold mksp at hD
      rw [if_pos hlt] at hD
      have HM := Lib.hid (heldPlV_c lo (.slice (some ⟨q m, 0, none⟩) (L m) (c m)) (L m) (kkp L m) (f m) wr (by omega) (by omega) hD)
      have hq0 : ¬ ((kkp L m : Int) + 2 * (L m : Int) < 0) := by omega
      have HB := Lib.hid hB
      clear hB hD
      go_wp2_with (go_at_call 35; (with_reducible refine (HM.out).mono ?_); rintro e w1 ⟨⟨_, rfl, rfl⟩, hb1⟩)
      go_roundw
      case rel => exact ⟨m + 1, by omega, by rw [kkp_succ]; go_num, by go_num, HB.out.trans (hb1.mono HB.out.size)⟩
      case measure => first | (simp [intOf]; done) | (simp [intOf]; omega)
    · obtain rfl : m = K := by omega
      have HB := Lib.hid hB
      clear hB
      go_wp2
      go_ret
      exact ⟨⟨_, rfl, rfl⟩, HB.out⟩
end Go.Proofs.Ytnkimeeofmbhkaa
