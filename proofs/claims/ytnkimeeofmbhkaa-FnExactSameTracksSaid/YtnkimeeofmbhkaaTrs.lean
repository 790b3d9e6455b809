/- Contracts of slices of tracks: made, counted, held against each other. No condition. -/
import Derived.Test.YtnkimeeofmbhkaaTrk
namespace Go.Proofs.Ytnkimeeofmbhkaa
open Go.RowKit
set_option linter.unusedSimpArgs false
theorem PlCells.dn {w w' : World} {g n : Nat} {X Y : Nat → Nat} (h : PlCells w g n X Y) (hg : g < w.heap.size) (hB : Below w.heap.size w w') : PlCells w' g n X Y := fun j hj => by
  obtain ⟨r, s, h1, h2, h3⟩ := h j hj
  exact ⟨r, s, (hB.cell (p := ⟨_, j * 2, none⟩) hg).trans h1, (hB.cell (p := ⟨_, j * 2 + 1, none⟩) hg).trans h2, h3⟩
def TrArg (w : World) (A : Option Addr) (n : Nat) (s : Nat → ByteArray) (P : Nat → Option Addr) (m c : Nat → Nat) (x y : Nat → Nat → Nat) : Prop := ∀ j, j < n → ∃ a, A = some a ∧ a.block < w.heap.size ∧ w.cell? (a.add (j * 2)) = some (.string (s j)) ∧ w.cell? (a.add (j * 2 + 1)) = some (.slice (P j) (m j) (c j)) ∧ PlArg w (P j) (m j) (x j) (y j)
theorem TrArg.below {w w' : World} {A : Option Addr} {n : Nat} {s : Nat → ByteArray} {P : Nat → Option Addr} {m c : Nat → Nat} {x y : Nat → Nat → Nat} (h : TrArg w A n s P m c x y) (hb : Below w.heap.size w w') : TrArg w' A n s P m c x y := fun j hj => by
  obtain ⟨a, e, h0, h1, h2, h3⟩ := h j hj
  exact ⟨a, e, Nat.lt_of_lt_of_le h0 hb.size, (hb.cell (p := a.add (j * 2)) (by rw [block_add]; exact h0)).trans h1, (hb.cell (p := a.add (j * 2 + 1)) (by rw [block_add]; exact h0)).trans h2, h3.below hb⟩
/-- A row that is made up to i. -/
def tc (s : Nat → ByteArray) (q m : Nat → Nat) (i k : Nat) : Value := if k < i * 2 then (if k % 2 = 0 then .string (s (k / 2)) else .slice (some ⟨q (k / 2), 0, none⟩) (m (k / 2)) (m (k / 2))) else (if k % 2 = 0 then .string { data := #[] } else .slice none 0 0)
theorem tc_even {s : Nat → ByteArray} {q m : Nat → Nat} {i j : Nat} (h : j < i) : tc s q m i (j * 2) = .string (s j) := by
  unfold tc
  rw [if_pos (by omega), if_pos (by omega), show j * 2 / 2 = j by omega]
theorem tc_odd {s : Nat → ByteArray} {q m : Nat → Nat} {i j : Nat} (h : j < i) : tc s q m i (j * 2 + 1) = .slice (some ⟨q j, 0, none⟩) (m j) (m j) := by
  unfold tc
  rw [if_pos (by omega), if_neg (by omega), show (j * 2 + 1) / 2 = j by omega]
def upd (q : Nat → Nat) (i z : Nat) (j : Nat) : Nat := if j = i then z else q j
theorem tc_step {s : Nat → ByteArray} {q m : Nat → Nat} {i z k : Nat} : tc s (upd q i z) m (i + 1) k = if k = i * 2 + 1 then .slice (some ⟨z, 0, none⟩) (m i) (m i) else if k = i * 2 then .string (s i) else tc s q m i k := by
  by_cases e1 : k = i * 2 + 1
  · rw [if_pos e1, e1, tc_odd (by omega)]
    unfold upd
    rw [if_pos rfl]
  · rw [if_neg e1]
    by_cases e2 : k = i * 2
    · rw [if_pos e2, e2, tc_even (by omega)]
    · rw [if_neg e2]
      unfold tc
      by_cases e3 : k < i * 2
      · rw [if_pos e3, if_pos (by omega)]
        by_cases e4 : k % 2 = 0
        · rw [if_pos e4, if_pos e4]
        · rw [if_neg e4, if_neg e4]
          unfold upd
          rw [if_neg (by omega)]
      · rw [if_neg e3, if_neg (by omega)]
theorem made2t (w : World) (n : Nat) (u v : Value) (t : TypeId) : (w.alloc (.cells (madeCells #[u, v] (n * 2)) t)).rowIs w.heap.size t (n * 2) (fun k => if k % 2 = 0 then u else v) :=
  ⟨_, heap_alloc_new _ _, size_madeCells _ _, fun i hi => by
    simp only [madeCells, Array.getElem?_map, Array.getElem?_range, hi, if_true, Option.map_some]
    congr 1
    have : i % 2 = 0 ∨ i % 2 = 1 := by omega
    rcases this with e | e <;> simp [e]⟩
/-- A row of tracks. -/
def TrIn (w : World) (lo b n : Nat) (s : Nat → ByteArray) (m : Nat → Nat) (x y : Nat → Nat → Nat) : Prop := ∃ q, w.rowIs b 74 (n * 2) (tc s q m n) ∧ lo ≤ b ∧ ∀ j, j < n → lo ≤ q j ∧ PlBlk w (q j) (m j) (x j) (y j)
theorem TrIn.below {w w' : World} {lo b n : Nat} {s : Nat → ByteArray} {m : Nat → Nat} {x y : Nat → Nat → Nat} (h : TrIn w lo b n s m x y) (hb : Below w.heap.size w w') : TrIn w' lo b n s m x y := by
  obtain ⟨q, h1, h2, h3⟩ := h
  exact ⟨q, h1.of_block (hb.block b h1.lt), h2, fun j hj => ⟨(h3 j hj).1, (h3 j hj).2.dn hb⟩⟩
theorem TrIn.lt {w : World} {lo b n : Nat} {s : Nat → ByteArray} {m : Nat → Nat} {x y : Nat → Nat → Nat} (h : TrIn w lo b n s m x y) : b < w.heap.size := by
  obtain ⟨q, h1, -⟩ := h
  exact h1.lt
theorem TrIn.at {w : World} {lo b n j : Nat} {s : Nat → ByteArray} {m : Nat → Nat} {x y : Nat → Nat → Nat} (h : TrIn w lo b n s m x y) (hj : j < n) : ∃ q, w.cell? ⟨b, j * 2, none⟩ = some (.string (s j)) ∧ w.cell? ⟨b, j * 2 + 1, none⟩ = some (.slice (some ⟨q, 0, none⟩) (m j) (m j)) ∧ PlBlk w q (m j) (x j) (y j) := by
  obtain ⟨q, h1, h2, h3⟩ := h
  have c0 := h1.cell (i := j * 2) (by omega)
  have c1 := h1.cell (i := j * 2 + 1) (by omega)
  rw [tc_even hj] at c0
  rw [tc_odd hj] at c1
  exact ⟨q j, c0, c1, (h3 j hj).2⟩
set_option maxRecDepth 100000 in
set_option maxHeartbeats 1000000 in
theorem toTrackS_c (A : Option Addr) (n cap : Nat) (s : Nat → ByteArray) (P : Nat → Option Addr) (m c : Nat → Nat) (x y : Nat → Nat → Nat) (w : World) (hn : n ≤ 1048576) (hm : ∀ j, j < n → m j ≤ 1048576) (hA : TrArg w A n s P m c x y) :
    Calls Try.prog 23 #[.slice A n cap] w fun e w' => ∃ b, e = .returned (.slice (some ⟨b, 0, none⟩) n n) ∧ TrIn w' w.heap.size b n s m x y ∧ Below w.heap.size w w' := by
  have hmk := make_rows (P := Try.prog) 50 74 (.agg #[.string { data := #[] }, .slice none 0 0]) 2 40 (by kernel_rfl) (by kernel_rfl) n (by omega) (by omega)
  have hcz : (Value.agg #[.string { data := #[] }, .slice none 0 0]).cells = #[.string { data := #[] }, .slice none 0 0] := rfl
  rw [hcz] at hmk
  clear hcz
  go_enter Try.func23, Try.ntmps23
  go_wp2
  go_loopw [4] (fun k wr => ∃ (i : Nat) (q : Nat → Nat), i ≤ n ∧ k = .int .i64 i ∧ wr.rowIs w.heap.size 74 (n * 2) (tc s q m i) ∧ (∀ j, j < i → w.heap.size < q j ∧ PlBlk wr (q j) (m j) (x j) (y j)) ∧ Below w.heap.size w wr) (fun k _ => n - (intOf k).toNat)
  case atStart => exact ⟨0, fun _ => 0, by omega, rfl, (made2t w n _ _ _).congr (fun i _ => by simp [tc]), by omega, by (with_reducible repeat (first | exact Below.refl _ _ | apply below_alloc | apply below_dN | apply below_d | refine below_setCell ?_ (by dsimp only; omega) | refine below_call (by assumption) ?_))⟩
  case round =>
    obtain ⟨i, q, hi, rfl, hrow, hq, hB⟩ := hrel
    clear hmk
    by_cases hlt : i < n
    · obtain ⟨a, rfl, ha, h0, h1, h2⟩ := hA i hlt
      have g0 : wr.cell? (a.add (i * 2)) = some (.string (s i)) := by rw [hB.cell (p := a.add (i * 2)) (by rw [block_add]; exact ha)]; exact h0
      have g1 : wr.cell? ⟨(a.add (i * 2)).block, (a.add (i * 2)).off + 1, none⟩ = some (.slice (P i) (m i) (c i)) := by
        rw [add_one_eq, hB.cell (p := a.add (i * 2 + 1)) (by rw [block_add]; exact ha)]; exact h1
      have HT := Lib.hid (toTrack_c (s i) (P i) (m i) (c i) (x i) (y i) wr (hm i hlt) (h2.below hB))
      have HA := Lib.hid hA
      clear hA h0 h1 h2
      have hl := hrow.lt
      have HR := Lib.hid hrow
      have HQ := Lib.hid hq
      have HB := Lib.hid hB
      clear hrow hq hB
      generalize hsi : s i = S at *
      generalize hmi : m i = M at *
      generalize hPi : P i = PP at *
      generalize hci : c i = C at *
      go_wp2_with (go_at_call 48; ((with_reducible refine (HT.out).mono ?_); rintro e w1 ⟨z, rfl, hz, hPz, hb⟩); have hs1 := hb.size; have hr1 := HR.out.of_block (hb.block _ hl); have c0 := hr1.cell (i := i * 2) (by omega); have c1 := hr1.cell (i := i * 2 + 1) (by omega); have f0 := hr1.frozen (i * 2); have f1 := hr1.frozen (i * 2 + 1); have hl1 := hr1.lt; have HR1 := Lib.hid hr1; clear hr1)
      go_roundw
      case rel =>
        refine ⟨i + 1, upd q i z, by omega, by go_num, ((HR1.out.set (i * 2) _).set (i * 2 + 1) _).congr (fun k _ => by rw [tc_step, hsi, hmi]), fun j hj => ?_, ((HB.out.trans (hb.mono HB.out.size)).setCell (p := ⟨w.heap.size, i * 2, none⟩) (Nat.le_refl _) _).setCell (p := ⟨w.heap.size, i * 2 + 1, none⟩) (Nat.le_refl _) _⟩
        by_cases ej : j = i
        · subst ej
          unfold upd
          rw [if_pos rfl, hmi]
          exact ⟨by omega, (hPz.other (by omega) _).other (by omega) _⟩
        · unfold upd
          rw [if_neg ej]
          have := HQ.out j (by omega)
          exact ⟨this.1, ((this.2.dn hb).other (by omega) _).other (by omega) _⟩
      case measure => first | (simp [intOf]; done) | (simp [intOf]; omega)
    · obtain rfl : i = n := by omega
      have HR := Lib.hid hrow
      have HQ := Lib.hid hq
      have HB := Lib.hid hB
      clear hrow hq hB
      go_wp2
      go_ret
      exact ⟨w.heap.size, rfl, ⟨q, HR.out, Nat.le_refl _, fun j hj => ⟨by have := (HQ.out j hj).1; omega, (HQ.out j hj).2⟩⟩, HB.out⟩
set_option maxRecDepth 100000 in
set_option maxHeartbeats 1000000 in
theorem szTrackS_c (A : Option Addr) (n cap : Nat) (s : Nat → ByteArray) (P : Nat → Option Addr) (m c : Nat → Nat) (x y : Nat → Nat → Nat) (left : Int) (hl : 0 ≤ left) (hl2 : left ≤ 1048576) (w : World) (hn : n ≤ 9223372036854775807) (hs : ∀ j, j < n → (s j).size ≤ 9223372036854775807) (hm : ∀ j, j < n → m j ≤ 9223372036854775807) (hA : TrArg w A n s P m c x y) :
    Calls Try.prog 21 #[.slice A n cap, .int .i64 left] w fun e w' => ∃ L : Int, e = .returned (.int .i64 L) ∧ Below w.heap.size w w' ∧ (L = -1 ∨ (0 ≤ L ∧ L ≤ left ∧ n ≤ 1048576 ∧ ∀ j, j < n → m j ≤ 1048576)) := by
  by_cases h1 : left - (n : Int) < 0
  · have h2 : -9223372036854775808 ≤ left - (n : Int) := by omega
    go_enter Try.func21, Try.ntmps21
    go_wp2
    go_ret
    exact ⟨_, rfl, by (with_reducible repeat (first | exact Below.refl _ _ | apply below_alloc | apply below_dN | apply below_d | refine below_setCell ?_ (by dsimp only; omega) | refine below_call (by assumption) ?_)), .inl rfl⟩
  · have hnn : n ≤ 1048576 := by omega
    go_enter Try.func21, Try.ntmps21
    go_wp2
    go_loopw [1, 5] (fun lv k wr => ∃ (i : Nat) (L : Int), i ≤ n ∧ k = .int .i64 i ∧ lv = .int .i64 L ∧ 0 ≤ L ∧ L ≤ left ∧ (∀ j, j < i → m j ≤ 1048576) ∧ Below w.heap.size w wr) (fun _ k _ => n - (intOf k).toNat)
    case atStart => exact ⟨0, left - (n : Int), by omega, rfl, rfl, by omega, by omega, by omega, Below.refl _ _⟩
    case round =>
      obtain ⟨i, L, hi, rfl, rfl, hL0, hL1, hall, hB⟩ := hrel
      have HALL := Lib.hid hall
      clear hall
      by_cases hlt : i < n
      · obtain ⟨a, rfl, ha, h0, h1, h2⟩ := hA i hlt
        have g0 : wr.cell? (a.add (i * 2)) = some (.string (s i)) := by rw [hB.cell (p := a.add (i * 2)) (by rw [block_add]; exact ha)]; exact h0
        have g1 : wr.cell? ⟨(a.add (i * 2)).block, (a.add (i * 2)).off + 1, none⟩ = some (.slice (P i) (m i) (c i)) := by
          rw [add_one_eq, hB.cell (p := a.add (i * 2 + 1)) (by rw [block_add]; exact ha)]; exact h1
        have HT := Lib.hid (szTrack_c (s i) (P i) (m i) (c i) L hL0 (by omega) (hs i hlt) (hm i hlt) wr)
        have HA := Lib.hid hA
        have HM := Lib.hid hm
        have HS := Lib.hid hs
        have HB := Lib.hid hB
        clear hA h0 h1 h2 hB hm hs
        generalize hsi : s i = S at *
        generalize hmi : m i = M at *
        generalize hPi : P i = PP at *
        generalize hci : c i = C at *
        go_upto_region 8 with (go_at_call 46; ((with_reducible refine (HT.out).mono ?_); rintro e w1 ⟨L', rfl, hb, hL'⟩))
        rcases hL' with rfl | ⟨e0, e1, e2⟩
        · go_wp2
          go_ret
          exact ⟨_, rfl, HB.out.trans (hb.mono HB.out.size), .inl rfl⟩
        · have e0' : ¬ L' < 0 := by omega
          go_wp2
          go_roundw
          case rel => exact ⟨i + 1, L', by omega, by go_num, rfl, e0, by omega, fun j hj => by
            by_cases ej : j = i
            · rw [ej, hmi]; exact e2
            · exact HALL.out j (by omega), HB.out.trans (hb.mono HB.out.size)⟩
          case measure => first | (simp [intOf]; done) | (simp [intOf]; omega)
      · obtain rfl : i = n := by omega
        have HB := Lib.hid hB
        clear hB hA
        go_wp2
        go_ret
        exact ⟨_, rfl, HB.out, .inr ⟨hL0, hL1, hnn, HALL.out⟩⟩
set_option maxRecDepth 100000 in
set_option maxHeartbeats 1000000 in
theorem eqTrack_c (s : ByteArray) (q q' m : Nat) (X Y : Nat → Nat) (w : World) (hm : m ≤ 1048576) (hq : q < w.heap.size) (hq' : q' < w.heap.size) (h : PlCells w q m X Y) (h' : PlCells w q' m X Y) :
    Calls Try.prog 53 #[.agg #[.string s, .slice (some ⟨q, 0, none⟩) m m], .agg #[.string s, .slice (some ⟨q', 0, none⟩) m m]] w (Ret (RV (.bool true)) w) := by
  have HE := Lib.hid (fun (w' : World) (hB : Below w.heap.size w w') => eqPlaceS_c q q' m m m X Y w' hm (Nat.lt_of_lt_of_le hq hB.size) (Nat.lt_of_lt_of_le hq' hB.size) (h.dn hq hB) (h'.dn hq' hB))
  clear h h'
  go_enter Try.func53, Try.ntmps53
  go_wp2_with (go_at_call 17; ((with_reducible refine (HE.out _ (by (with_reducible repeat (first | exact Below.refl _ _ | apply below_alloc | apply below_dN | apply below_d | refine below_setCell ?_ (by dsimp only; omega) | refine below_call (by assumption) ?_)))).mono ?_); rintro e w1 ⟨⟨v, rfl, rfl⟩, hb⟩); have hu2 : ∀ n : Nat, n < n + 1 + 1 := (fun n => by omega); have hu3 : ∀ n : Nat, n < n + 1 + 1 + 1 := (fun n => by omega); obtain ⟨hc, hfz⟩ := bcell hb; (try simp only [World.heap_drewN] at hc hfz); have hs_ := hb.size; (try simp at hs_); (try have hz0 : w.heap.size < w1.heap.size := (by omega)); (try have hz1 : w.heap.size + 1 < w1.heap.size := (by omega)); (try have hz2 : w.heap.size + 2 < w1.heap.size := (by omega)); (try have hz3 : w.heap.size + 3 < w1.heap.size := (by omega)); (try have hza : wa.heap.size < w1.heap.size := (by omega)); (try have hza1 : wa.heap.size + 1 < w1.heap.size := (by omega)); (try have hzb : wb.heap.size < w1.heap.size := (by omega)); (try have hzb1 : wb.heap.size + 1 < w1.heap.size := (by omega)); (try have hzc : wc.heap.size < w1.heap.size := (by omega)); (try have hzd : wd.heap.size < w1.heap.size := (by omega)))
  go_ret
  exact ⟨⟨_, rfl, rfl⟩, by (with_reducible repeat (first | exact Below.refl _ _ | apply below_alloc | apply below_dN | apply below_d | refine below_setCell ?_ (by dsimp only; omega) | refine below_call (by assumption) ?_))⟩
set_option maxRecDepth 100000 in
set_option maxHeartbeats 1000000 in
theorem eqTrackS_c (lo lo' b b' n : Nat) (s : Nat → ByteArray) (m : Nat → Nat) (x y : Nat → Nat → Nat) (w : World) (hn : n ≤ 1048576) (hm : ∀ j, j < n → m j ≤ 1048576) (h : TrIn w lo b n s m x y) (h' : TrIn w lo' b' n s m x y) :
    Calls Try.prog 25 #[.slice (some ⟨b, 0, none⟩) n n, .slice (some ⟨b', 0, none⟩) n n] w (Ret (RV (.bool true)) w) := by
  go_enter Try.func25, Try.ntmps25
  go_wp2
  go_loopw [5] (fun k wr => ∃ i : Nat, i ≤ n ∧ k = .int .i64 i ∧ Below w.heap.size w wr) (fun k _ => n - (intOf k).toNat)
  case atStart => exact ⟨0, by omega, rfl, Below.refl _ _⟩
  case round =>
    obtain ⟨i, hi, rfl, hB⟩ := hrel
    by_cases hlt : i < n
    · obtain ⟨q, c0, c1, hP⟩ := (h.below hB).at hlt
      obtain ⟨q', c0', c1', hP'⟩ := (h'.below hB).at hlt
      have hlb := (h.below hB).lt
      have hlb' := (h'.below hB).lt
      have HE := Lib.hid (fun (w' : World) (hb : Below wr.heap.size wr w') => eqTrack_c (s i) q q' (m i) (canon (x i)) (canon (y i)) w' (hm i hlt) (hP.dn hb).lt' (hP'.dn hb).lt' (hP.dn hb).canon (hP'.dn hb).canon)
      have HB := Lib.hid hB
      have HH := Lib.hid h
      have HH' := Lib.hid h'
      have HM := Lib.hid hm
      clear hB h h' hm hP hP'
      generalize s i = S at *
      generalize m i = M at *
      go_wp2
      (apply region_looseK (k := 10); (kernel_rfl); (kernel_rfl); intro opsL KL hopsL hKL; (dsimp only [List.take]))
      iterate 8 (apply rel_val; (rfl); (intro wq hbq; have hcq := (bcell hbq).1; (go_simp; first | done | rfl | exact ⟨rfl, rfl⟩)); (try go_simp))
      (apply rel_call (RV (.bool true)); (rfl); (intro wq hbq; (go_simp; first | done | rfl | exact ⟨rfl, rfl⟩)); (intro wq hbq; exact HE.out _ (by assumption)); (try go_simp))
      rintro v rfl
      (apply rel_val; (rfl); (intro wq hbq; have hcq := (bcell hbq).1; (go_simp; first | done | rfl | exact ⟨rfl, rfl⟩)); (try go_simp))
      (refine wpRel_nil ?_; refine hKL _ _ ?_; clear hKL hopsL opsL KL; intro w1 hb hnews; obtain ⟨hc, hfz⟩ := bcell hb; (try simp only [World.heap_drewN] at hc hfz); have hz := hb.size; (dsimp only [List.drop]))
      go_wp2
      go_roundw
      case rel => exact ⟨i + 1, by omega, by go_num, HB.out.trans (hb.mono HB.out.size)⟩
      case measure => first | (simp [intOf]; done) | (simp [intOf]; omega)
    · obtain rfl : i = n := by omega
      have HB := Lib.hid hB
      clear hB
      go_wp2
      go_ret
      exact ⟨⟨_, rfl, rfl⟩, HB.out⟩
end Go.Proofs.Ytnkimeeofmbhkaa
