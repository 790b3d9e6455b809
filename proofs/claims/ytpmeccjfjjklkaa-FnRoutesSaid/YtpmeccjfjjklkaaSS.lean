/- Slices of slices of whole numbers: held against each other, marked, held; slices of whole numbers as arguments. No condition. -/
import Derived.Test.YtpmeccjfjjklkaaPN
import Derived.Test.YtpmeccjfjjklkaaRO
namespace Go.Proofs.Ytpmeccjfjjklkaa
open Go.RowKit
set_option linter.unusedSimpArgs false
/-- What an argument reads as. -/
def IntArg (w : World) (A : Option Addr) (n : Nat) (d : Nat → Int) : Prop := ∀ j, j < n → ∃ ad, A = some ad ∧ ad.block < w.heap.size ∧ w.cell? (ad.add j) = some (.int .i64 (d j))
theorem IntArg.below {w w' : World} {A : Option Addr} {n : Nat} {d : Nat → Int} (h : IntArg w A n d) (hb : Below w.heap.size w w') : IntArg w' A n d := fun j hj => by
  obtain ⟨ad, e, h0, h1⟩ := h j hj
  exact ⟨ad, e, Nat.lt_of_lt_of_le h0 hb.size, by rw [hb.cell (p := ad.add j) (by rw [block_add]; exact h0)]; exact h1⟩
theorem made1w (w : World) (n : Nat) (z : Value) (t : TypeId) : (w.alloc (.cells (madeCells #[z] n) t)).rowIs w.heap.size t n (fun _ => z) :=
  ⟨_, heap_alloc_new _ _, size_madeCells _ _, fun i hi => by
    simp only [madeCells, Array.getElem?_map, Array.getElem?_range, hi, if_true, Option.map_some]
    simp [Nat.mod_one]⟩
set_option maxRecDepth 100000 in
set_option maxHeartbeats 1000000 in
theorem toI64S_c (A : Option Addr) (n cap : Nat) (d : Nat → Int) (w : World) (hn : n ≤ 1048576) (hA : IntArg w A n d) :
    Calls Try.prog 35 #[.slice A n cap] w fun e w' => ∃ g, e = .returned (.slice (some ⟨g, 0, none⟩) n n) ∧ w.heap.size ≤ g ∧ Dr w' g n n d ∧ Below w.heap.size w w' := by
  have hmk := make_rows (P := Try.prog) 47 2 (.int .i64 0) 1 8 (by kernel_rfl) (by kernel_rfl) n (by omega) (by omega)
  have hcz : (Value.int .i64 0).cells = #[.int .i64 0] := rfl
  rw [hcz, Nat.mul_one] at hmk
  clear hcz
  go_enter Try.func35, Try.ntmps35
  go_wp2
  go_loopw [4] (fun k wr => ∃ m : Nat, m ≤ n ∧ k = .int .i64 m ∧ wr.rowIs w.heap.size 2 n (fun i => if i < m then .int .i64 (d i) else .int .i64 0) ∧ Below w.heap.size w wr) (fun k _ => n - (intOf k).toNat)
  case atStart => exact ⟨0, by omega, rfl, (made1w w n _ _).congr (fun i _ => by simp), by (with_reducible repeat (first | exact Below.refl _ _ | apply below_alloc | apply below_dN | apply below_d | refine below_setCell ?_ (by dsimp only; omega) | refine below_call (by assumption) ?_))⟩
  case round =>
    obtain ⟨m, hm, rfl, hrow, hB⟩ := hrel
    clear hmk
    by_cases hlt : m < n
    · obtain ⟨ad, rfl, ha, h0⟩ := hA m hlt
      have g0 : wr.cell? (ad.add m) = some (.int .i64 (d m)) := by rw [hB.cell (p := ad.add m) (by rw [block_add]; exact ha)]; exact h0
      have HA := Lib.hid hA
      clear hA h0
      have c0 := hrow.cell (i := m) hlt
      have f0 := hrow.frozen m
      have hl := hrow.lt
      have HR := Lib.hid hrow
      have HB := Lib.hid hB
      clear hrow hB
      go_wp2
      go_roundw
      case rel => exact ⟨m + 1, by omega, by go_num, (HR.out.set m _).congr (fun i _ => by
        by_cases e : i = m
        · subst e; rw [if_pos rfl, if_pos (by omega)]
        · rw [if_neg e]
          by_cases e2 : i < m
          · rw [if_pos e2, if_pos (by omega)]
          · rw [if_neg e2, if_neg (by omega)]), HB.out.setCell (p := ⟨w.heap.size, m, none⟩) (Nat.le_refl _) _⟩
      case measure => first | (simp [intOf]; done) | (simp [intOf]; omega)
    · obtain rfl : m = n := by omega
      have HR := Lib.hid hrow
      have HB := Lib.hid hB
      clear hrow hB
      go_wp2
      go_ret
      exact ⟨w.heap.size, rfl, Nat.le_refl _, ⟨_, HR.out, Nat.le_refl _, fun j hj => if_pos hj⟩, HB.out⟩
theorem Keep1.blk {g b : Nat} {w w' : World} (h : Keep1 g w w') (hb : b < w.heap.size) (hne : b ≠ g) : w'.heap[b]? = w.heap[b]? := h b hb hne
set_option maxRecDepth 100000 in
set_option maxHeartbeats 1000000 in
theorem markDr_c (lo g n cap k : Nat) (d : Nat → Int) (w : World) (hg : lo ≤ g) (hn : n ≤ 1048576) (hk : k ≤ 8388608) (hrow : Dr w g n cap d) :
    Calls Try.prog 30 #[.slice (some ⟨g, 0, none⟩) n cap, .int .i64 k] w fun e w' => e = .returned (.int .i64 ((k : Int) + (n : Int))) ∧ Dr w' g n cap (mki k n d) ∧ Keep1 g w w' ∧ Below lo w w' := by
  go_enter Try.func30, Try.ntmps30
  go_wp2
  go_loopw [1, 5] (fun kk i wr => ∃ m : Nat, m ≤ n ∧ kk = .int .i64 ((k : Int) + (m : Int)) ∧ i = .int .i64 m ∧ Dr wr g n cap (mki k m d) ∧ Keep1 g w wr ∧ Below lo w wr) (fun _ i _ => n - (intOf i).toNat)
  case atStart => exact ⟨0, by omega, by simp, rfl, hrow.congr (fun i _ => by simp [mki]), Keep1.refl _ _, Below.refl _ _⟩
  case round =>
    obtain ⟨m, hm, rfl, rfl, hr, hK, hB⟩ := hrel
    by_cases hlt : m < n
    · have c0 := hr.cell hlt
      have f0 := hr.fr m
      have hl := hr.lt
      have HR := Lib.hid hr
      have HB := Lib.hid hB
      have HK := Lib.hid hK
      clear hr hB hK
      go_wp2
      go_roundw
      case rel => exact ⟨m + 1, by omega, by go_num, by go_num, (HR.out.set m _).congr (fun i hi => by
        unfold mki
        by_cases e : i = m
        · subst e; rw [if_pos rfl, if_pos (by omega)]
        · rw [if_neg e]
          by_cases e2 : i < m
          · rw [if_pos e2, if_pos (by omega)]
          · rw [if_neg e2, if_neg (by omega)]), HK.out.set _, HB.out.setCell (p := ⟨g, m, none⟩) hg _⟩
      case measure => first | (simp [intOf]; done) | (simp [intOf]; omega)
    · obtain rfl : m = n := by omega
      have HR := Lib.hid hr
      have HB := Lib.hid hB
      have HK := Lib.hid hK
      clear hr hB hK
      go_wp2
      go_ret
      exact ⟨rfl, HR.out, HK.out, HB.out⟩
/-- A slice of k rows of n whole numbers each. -/
def SSR (w : World) (lo : Nat) (v : Value) (k n : Nat) (D : Nat → Nat → Int) : Prop := ∃ (q c : Nat → Nat), TRow 47 1 w lo v k (fun j => .slice (some ⟨q j, 0, none⟩) n (c j)) ∧ (∀ j, j < k → lo ≤ q j ∧ Dr w (q j) n (c j) (D j)) ∧ ∀ i j, i < k → j < k → i ≠ j → q i ≠ q j
theorem SSR.below {w w' : World} {lo k n : Nat} {v : Value} {D : Nat → Nat → Int} (h : SSR w lo v k n D) (hb : Below w.heap.size w w') : SSR w' lo v k n D := by
  obtain ⟨q, c, h1, h2, h3⟩ := h
  exact ⟨q, c, h1.below hb, fun j hj => ⟨(h2 j hj).1, (h2 j hj).2.below hb⟩, h3⟩
theorem Dr.blk {w w' : World} {g n cap : Nat} {d : Nat → Int} (h : Dr w g n cap d) (hb : w'.heap[g]? = w.heap[g]?) : Dr w' g n cap d := by
  obtain ⟨F, h1, h2, h3⟩ := h
  exact ⟨F, World.rowIs.of_block h1 hb, h2, h3⟩
theorem SSR.keep {w w' : World} {lo k n : Nat} {v : Value} {D : Nat → Nat → Int} (h : SSR w lo v k n D) (hk : ∀ b, b < w.heap.size → lo ≤ b → w'.heap[b]? = w.heap[b]?) : SSR w' lo v k n D := by
  obtain ⟨q, c, h1, h2, h3⟩ := h
  exact ⟨q, c, h1.keep (fun b hb hl _ => hk b hb hl), fun j hj => ⟨(h2 j hj).1, (h2 j hj).2.blk (hk _ (h2 j hj).2.lt (h2 j hj).1)⟩, h3⟩
/-- A row's cell. -/
theorem TRow.at1 {t : TypeId} {w : World} {lo k j : Nat} {v : Value} {f : Nat → Value} (h : TRow t 1 w lo v k f) (hj : j < k) : ∃ g cap, v = .slice (some ⟨g, 0, none⟩) k cap ∧ g < w.heap.size ∧ lo ≤ g ∧ w.cell? ⟨g, j, none⟩ = some (f j) := by
  rcases h with ⟨-, rfl⟩ | ⟨g, cap, N, rfl, h1, h2, F, h3, h4⟩
  · omega
  · exact ⟨g, cap, rfl, h3.lt, h1, by rw [← h4 j (by omega)]; exact h3.cell (by omega)⟩
theorem TRow.shape {t : TypeId} {s : Nat} {w : World} {lo : Nat} {v : Value} {n : Nat} {f : Nat → Value} (h : TRow t s w lo v n f) : ∃ A c, v = .slice A n c := by
  rcases h with ⟨rfl, rfl⟩ | ⟨g, cap, N, rfl, -⟩
  · exact ⟨_, _, rfl⟩
  · exact ⟨_, _, rfl⟩
theorem Dr.iarg {w : World} {g n cap : Nat} {d : Nat → Int} (h : Dr w g n cap d) : IArg w (some ⟨g, 0, none⟩) n d := fun j hj => ⟨g, rfl, h.lt, h.cell hj⟩
set_option maxRecDepth 100000 in
set_option maxHeartbeats 1000000 in
theorem eqSS_c (lo lo' : Nat) (v v' : Value) (k n : Nat) (D : Nat → Nat → Int) (w : World) (hk : k ≤ 8) (hn : n ≤ 1048576) (h : SSR w lo v k n D) (h' : SSR w lo' v' k n D) :
    Calls Try.prog 37 #[v, v'] w (Ret (RV (.bool true)) w) := by
  obtain ⟨q, c, h1, h2, -⟩ := h
  obtain ⟨q', c', h1', h2', -⟩ := h'
  obtain ⟨A, ca, rfl⟩ := h1.shape
  obtain ⟨A', ca', rfl⟩ := h1'.shape
  have H1 := Lib.hid h1
  have H1' := Lib.hid h1'
  have H2 := Lib.hid h2
  have H2' := Lib.hid h2'
  clear h1 h1' h2 h2'
  go_enter Try.func37, Try.ntmps37
  go_wp2
  go_loopw [5] (fun kk wr => ∃ m : Nat, m ≤ k ∧ kk = .int .i64 m ∧ Below w.heap.size w wr) (fun kk _ => k - (intOf kk).toNat)
  case atStart => exact ⟨0, by omega, rfl, by (with_reducible repeat (first | exact Below.refl _ _ | apply below_alloc | apply below_dN | apply below_d | refine below_setCell ?_ (by dsimp only; omega) | refine below_call (by assumption) ?_))⟩
  case round =>
    obtain ⟨m, hm, rfl, hB⟩ := hrel
    by_cases hlt : m < k
    · obtain ⟨g, cap, e, hg, -, c0⟩ := (H1.out.below hB).at1 hlt
      obtain ⟨g', cap', e', hg', -, c0'⟩ := (H1'.out.below hB).at1 hlt
      injection e with e1 _ e2
      injection e' with e1' _ e2'
      subst e1 e2 e1' e2'
      have HD := Lib.hid (fun w' (hb : Below wr.heap.size wr w') => eqI64_c _ _ n (c m) (c' m) (D m) w' hn (((H2.out m hlt).2.below hB).below hb).iarg (((H2'.out m hlt).2.below hB).below hb).iarg)
      have HB := Lib.hid hB
      clear hB
      go_wp2
      (apply region_looseK (k := 10); (kernel_rfl); (kernel_rfl); intro opsL KL hopsL hKL; (dsimp only [List.take]))
      iterate 8 (apply rel_val; (rfl); (intro wq hbq; have hcq := (bcell hbq).1; (go_simp; first | done | rfl | exact ⟨rfl, rfl⟩)); (try go_simp))
      (apply rel_call (RV (.bool true)); (rfl); (intro wq hbq; (go_simp; first | done | rfl | exact ⟨rfl, rfl⟩)); (intro wq hbq; exact HD.out _ (by assumption)); (try go_simp))
      rintro v rfl
      (apply rel_val; (rfl); (intro wq hbq; have hcq := (bcell hbq).1; (go_simp; first | done | rfl | exact ⟨rfl, rfl⟩)); (try go_simp))
      (refine wpRel_nil ?_; refine hKL _ _ ?_; clear hKL hopsL opsL KL; intro w1 hb hnews; obtain ⟨hc, hfz⟩ := bcell hb; (try simp only [World.heap_drewN] at hc hfz); have hz := hb.size; (dsimp only [List.drop]))
      go_wp2
      go_roundw
      case rel => exact ⟨m + 1, by omega, by go_num, by have := HB.out; (with_reducible repeat (first | exact Below.refl _ _ | apply below_alloc | apply below_dN | apply below_d | refine below_setCell ?_ (by dsimp only; omega) | refine below_call (by assumption) ?_))⟩
      case measure => first | (simp [intOf]; done) | (simp [intOf]; omega)
    · obtain rfl : m = k := by omega
      have HB := Lib.hid hB
      clear hB
      go_wp2
      go_ret
      exact ⟨⟨_, rfl, rfl⟩, HB.out⟩
/-- The number ahead of a row's first mark. -/
def kk (n : Nat) : Nat → Nat
  | 0 => 1
  | m + 1 => kk n m + n
theorem kk_le {n : Nat} (hn : n ≤ 64) : ∀ m, kk n m ≤ 1 + 64 * m
  | 0 => Nat.le_refl _
  | m + 1 => by
    have := kk_le hn m
    show kk n m + n ≤ _
    omega
/-- The first m rows marked. -/
def mks (n m : Nat) (D : Nat → Nat → Int) (j : Nat) : Nat → Int := if j < m then mki (kk n j) n (D j) else D j
set_option maxRecDepth 100000 in
set_option maxHeartbeats 1000000 in
theorem markSS_c (lo : Nat) (v : Value) (k n : Nat) (D : Nat → Nat → Int) (w : World) (hk : k ≤ 8) (hn : n ≤ 64) (h : SSR w lo v k n D) :
    Calls Try.prog 38 #[v, .int .i64 1] w fun e w' => e = .returned (.int .i64 (kk n k)) ∧ SSR w' lo v k n (mks n k D) ∧ Below lo w w' := by
  obtain ⟨q, c, h1, h2, h3⟩ := h
  obtain ⟨A, ca, rfl⟩ := h1.shape
  have H1 := Lib.hid h1
  have H2 := Lib.hid h2
  have H3 := Lib.hid h3
  clear h1 h2 h3
  go_enter Try.func38, Try.ntmps38
  go_wp2
  go_loopw [1, 5] (fun kv kk' wr => ∃ m : Nat, m ≤ k ∧ kv = .int .i64 (kk n m) ∧ kk' = .int .i64 m ∧ TRow 47 1 wr lo (.slice A k ca) k (fun j => .slice (some ⟨q j, 0, none⟩) n (c j)) ∧ (∀ j, j < k → Dr wr (q j) n (c j) (mks n m D j)) ∧ Below lo w wr) (fun _ kk' _ => k - (intOf kk').toNat)
  case atStart => exact ⟨0, by omega, rfl, rfl, H1.out, fun j hj => (H2.out j hj).2.congr (fun i _ => by simp [mks]), Below.refl _ _⟩
  case round =>
    obtain ⟨m, hm, rfl, rfl, hT, hD, hB⟩ := hrel
    by_cases hlt : m < k
    · obtain ⟨g, cap, e, hg, -, c0⟩ := hT.at1 hlt
      injection e with e1 _ e2
      subst e1 e2
      have hkl := kk_le hn m
      have HM := Lib.hid (markDr_c lo (q m) n (c m) (kk n m) _ wr (H2.out m hlt).1 (by omega) (by omega) (hD m hlt))
      have hdl := (hD m hlt).lt
      have HT := Lib.hid hT
      have HD := Lib.hid hD
      have HB := Lib.hid hB
      clear hT hD hB
      go_wp2_with (go_at_call 30; (with_reducible refine (HM.out).mono ?_); rintro e w1 ⟨rfl, hD1, hK1, hb1⟩; have HD1 := Lib.hid hD1; have HK1 := Lib.hid hK1; clear hD1 hK1)
      go_roundw
      case rel =>
        refine ⟨m + 1, by omega, by show _ = Value.int .i64 ((kk n m + n : Nat) : Int); go_num, by go_num, HT.out.keep (fun b hb hl hv => HK1.out b hb ?_), fun j hj => ?_, HB.out.trans hb1⟩
        · rintro rfl
          obtain ⟨g', cap', N, e, -, -, F, ⟨cs, hc, -⟩, -⟩ := (HT.out.resolve_left (by rintro ⟨e, -⟩; exact nomatch e))
          obtain ⟨F2, ⟨cs2, hc2, -⟩, -⟩ := HD.out m hlt
          have : g' = q m := by injection e with e1; injection e1 with e1; injection e1 with e1; simp [Value.ownBlock] at hv; omega
          subst this
          rw [hc] at hc2
          injection hc2 with hc2
          injection hc2 with _ et
          exact absurd et (by decide)
        · by_cases ej : j = m
          · subst ej
            exact HD1.out.congr (fun i hi => by
              show (if i < n then (((kk n j : Nat) : Int) + (i : Int)) else mks n j D j i) = (if j < j + 1 then mki (kk n j) n (D j) else D j) i
              rw [if_pos hi, if_pos (Nat.lt_succ_self j)]
              exact (if_pos hi).symm)
          · have := (HD.out j hj).blk (HK1.out (q j) (HD.out j hj).lt (H3.out j m hj hlt ej))
            exact this.congr (fun i hi => by
              unfold mks
              by_cases e2 : j < m
              · rw [if_pos e2, if_pos (by omega)]
              · rw [if_neg e2, if_neg (by omega)])
      case measure => first | (simp [intOf]; done) | (simp [intOf]; omega)
    · obtain rfl : m = k := by omega
      have HT := Lib.hid hT
      have HD := Lib.hid hD
      have HB := Lib.hid hB
      clear hT hD hB
      go_wp2
      go_ret
      exact ⟨rfl, ⟨q, c, HT.out, fun j hj => ⟨(H2.out j hj).1, HD.out j hj⟩, H3.out⟩, HB.out⟩
set_option maxRecDepth 100000 in
set_option maxHeartbeats 1000000 in
theorem heldSS_c (lo : Nat) (v : Value) (k n : Nat) (D : Nat → Nat → Int) (w : World) (hk : k ≤ 8) (hn : n ≤ 64) (h : SSR w lo v k n (mks n k D)) :
    Calls Try.prog 39 #[v, .int .i64 1] w (Ret (RV (.int .i64 (kk n k))) w) := by
  obtain ⟨q, c, h1, h2, h3⟩ := h
  obtain ⟨A, ca, rfl⟩ := h1.shape
  have H1 := Lib.hid h1
  have H2 := Lib.hid h2
  clear h1 h2 h3
  go_enter Try.func39, Try.ntmps39
  go_wp2
  go_loopw [1, 5] (fun kv kk' wr => ∃ m : Nat, m ≤ k ∧ kv = .int .i64 (kk n m) ∧ kk' = .int .i64 m ∧ Below w.heap.size w wr) (fun _ kk' _ => k - (intOf kk').toNat)
  case atStart => exact ⟨0, by omega, rfl, rfl, Below.refl _ _⟩
  case round =>
    obtain ⟨m, hm, rfl, rfl, hB⟩ := hrel
    by_cases hlt : m < k
    · obtain ⟨g, cap, e, hg, -, c0⟩ := (H1.out.below hB).at1 hlt
      injection e with e1 _ e2
      subst e1 e2
      have hkl := kk_le hn m
      have hD := ((H2.out m hlt).2.below hB).congr (d' := mki (kk n m) n (D m)) (fun i _ => by unfold mks; rw [if_pos hlt])
      have HM := Lib.hid (heldI64_c lo (.slice (some ⟨q m, 0, none⟩) n (c m)) n (kk n m) (D m) wr (by omega) (by omega) (.inr ⟨q m, c m, rfl, (H2.out m hlt).1, hD⟩))
      have hdl := hD.lt
      have hq0 : ¬ ((kk n m : Int) + (n : Int) < 0) := by omega
      have HB := Lib.hid hB
      clear hB hD
      go_wp2_with (go_at_call 31; (with_reducible refine (HM.out).mono ?_); rintro e w1 ⟨⟨_, rfl, rfl⟩, hb1⟩)
      go_roundw
      case rel => exact ⟨m + 1, by omega, by show _ = Value.int .i64 ((kk n m + n : Nat) : Int); go_num, by go_num, HB.out.trans (hb1.mono HB.out.size)⟩
      case measure => first | (simp [intOf]; done) | (simp [intOf]; omega)
    · obtain rfl : m = k := by omega
      have HB := Lib.hid hB
      clear hB
      go_wp2
      go_ret
      exact ⟨⟨_, rfl, rfl⟩, HB.out⟩
end Go.Proofs.Ytpmeccjfjjklkaa
