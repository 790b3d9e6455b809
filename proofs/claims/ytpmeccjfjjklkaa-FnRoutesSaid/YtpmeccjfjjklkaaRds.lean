/- Contracts of slices of roads: made out of an argument, held against each other. No condition. -/
import Derived.Test.YtpmeccjfjjklkaaGPl
namespace Go.Proofs.Ytpmeccjfjjklkaa
open Go.RowKit
set_option linter.unusedSimpArgs false

/-- The cells of a list of roads. -/
def rc (a b l : Nat → Int) (i : Nat) : Value := .int .i64 (if i % 3 = 0 then a (i / 3) else if i % 3 = 1 then b (i / 3) else l (i / 3))
def rcs (a b l : Nat → Int) (k i : Nat) : Value := if i < k * 3 then rc a b l i else .int .i64 0
theorem rc0 (a b l : Nat → Int) (k : Nat) : rc a b l (k * 3) = .int .i64 (a k) := by unfold rc; rw [if_pos (by omega), show k * 3 / 3 = k by omega]
theorem rc1 (a b l : Nat → Int) (k : Nat) : rc a b l (k * 3 + 1) = .int .i64 (b k) := by unfold rc; rw [if_neg (by omega), if_pos (by omega), show (k * 3 + 1) / 3 = k by omega]
theorem rc2 (a b l : Nat → Int) (k : Nat) : rc a b l (k * 3 + 2) = .int .i64 (l k) := by unfold rc; rw [if_neg (by omega), if_neg (by omega), show (k * 3 + 2) / 3 = k by omega]
theorem rcs_step {a b l : Nat → Int} {k i : Nat} : rcs a b l (k + 1) i = if i = k * 3 + 2 then .int .i64 (l k) else if i = k * 3 + 1 then .int .i64 (b k) else if i = k * 3 then .int .i64 (a k) else rcs a b l k i := by
  by_cases h2 : i = k * 3 + 2
  · subst h2; rw [if_pos rfl, ← rc2 a b l k]; unfold rcs; rw [if_pos (by omega)]
  · by_cases h1 : i = k * 3 + 1
    · subst h1; rw [if_neg h2, if_pos rfl, ← rc1 a b l k]; unfold rcs; rw [if_pos (by omega)]
    · by_cases h0 : i = k * 3
      · subst h0; rw [if_neg h2, if_neg h1, if_pos rfl, ← rc0 a b l k]; unfold rcs; rw [if_pos (by omega)]
      · rw [if_neg h2, if_neg h1, if_neg h0]
        unfold rcs
        by_cases h : i < k * 3
        · rw [if_pos (by omega), if_pos h]
        · rw [if_neg (by omega), if_neg h]
/-- A block that is a list of roads. -/
def RdBlk (w : World) (g n : Nat) (a b l : Nat → Int) : Prop := ∃ (N : Nat) (F : Nat → Value), n * 3 ≤ N ∧ (∀ i, i < n * 3 → F i = rc a b l i) ∧ w.rowIs g 69 N F
theorem RdBlk.of {w : World} {g n : Nat} {a b l : Nat → Int} (h : w.rowIs g 69 (n * 3) (rc a b l)) : RdBlk w g n a b l := ⟨_, _, Nat.le_refl _, fun _ _ => rfl, h⟩
theorem RdBlk.at {w : World} {g n : Nat} {a b l : Nat → Int} (h : RdBlk w g n a b l) {i : Nat} (hi : i < n * 3) : w.cell? ⟨g, i, none⟩ = some (rc a b l i) := by
  obtain ⟨N, F, h1, h2, h3⟩ := h
  rw [← h2 i hi]
  exact h3.cell (by omega)
theorem RdBlk.c0 {w : World} {g n : Nat} {a b l : Nat → Int} (h : RdBlk w g n a b l) {j : Nat} (hj : j < n) : w.cell? ⟨g, j * 3, none⟩ = some (.int .i64 (a j)) := by rw [← rc0 a b l j]; exact h.at (by omega)
theorem RdBlk.c1 {w : World} {g n : Nat} {a b l : Nat → Int} (h : RdBlk w g n a b l) {j : Nat} (hj : j < n) : w.cell? ⟨g, j * 3 + 1, none⟩ = some (.int .i64 (b j)) := by rw [← rc1 a b l j]; exact h.at (by omega)
theorem RdBlk.c2 {w : World} {g n : Nat} {a b l : Nat → Int} (h : RdBlk w g n a b l) {j : Nat} (hj : j < n) : w.cell? ⟨g, j * 3 + 2, none⟩ = some (.int .i64 (l j)) := by rw [← rc2 a b l j]; exact h.at (by omega)
theorem RdBlk.lt {w : World} {g n : Nat} {a b l : Nat → Int} (h : RdBlk w g n a b l) : g < w.heap.size := by
  obtain ⟨N, F, h1, h2, h3⟩ := h
  exact h3.lt
theorem RdBlk.blk {w w' : World} {g n : Nat} {a b l : Nat → Int} (h : RdBlk w g n a b l) (hb : w'.heap[g]? = w.heap[g]?) : RdBlk w' g n a b l := by
  obtain ⟨N, F, h1, h2, h3⟩ := h
  exact ⟨N, F, h1, h2, h3.of_block hb⟩
theorem RdBlk.below {w w' : World} {B g n : Nat} {a b l : Nat → Int} (h : RdBlk w g n a b l) (hb : Below B w w') (hlt : g < B) : RdBlk w' g n a b l := h.blk (hb.block g hlt)
theorem RdBlk.al {w : World} {g n : Nat} {a b l : Nat → Int} (h : RdBlk w g n a b l) (o : Obj) : RdBlk (w.alloc o) g n a b l := by
  obtain ⟨N, F, h1, h2, h3⟩ := h
  exact ⟨N, F, h1, h2, h3.alloc o⟩
theorem RdBlk.other {w : World} {g n : Nat} {a b l : Nat → Int} (h : RdBlk w g n a b l) {c i : Nat} (hne : g ≠ c) (z : Value) : RdBlk (w.setCell ⟨c, i, none⟩ z) g n a b l := by
  obtain ⟨N, F, h1, h2, h3⟩ := h
  exact ⟨N, F, h1, h2, h3.setOther (a := ⟨c, i, none⟩) hne z⟩
theorem made3 (w : World) (n : Nat) (z : Value) (t : TypeId) : (w.alloc (.cells (madeCells #[z, z, z] (n * 3)) t)).rowIs w.heap.size t (n * 3) (fun _ => z) :=
  ⟨_, heap_alloc_new _ _, size_madeCells _ _, fun i hi => by
    simp only [madeCells, Array.getElem?_map, Array.getElem?_range, hi, if_true, Option.map_some]
    have hm : i % 3 = 0 ∨ i % 3 = 1 ∨ i % 3 = 2 := by omega
    rcases hm with h | h | h <;> simp [h]⟩
theorem add_n (a : Addr) (n k : Nat) : (⟨(a.add n).block, (a.add n).off + k, none⟩ : Addr) = a.add (n + k) ∨ k = 0 := by
  by_cases h : k = 0
  · exact .inr h
  · left
    rw [← Go.Deep.add_add]
    unfold Addr.add
    split <;> simp_all
/-- What an argument reads as. -/
def RdArg (w : World) (A : Option Addr) (n : Nat) (a b l : Nat → Int) : Prop := ∀ j, j < n → ∃ ad, A = some ad ∧ ad.block < w.heap.size ∧ w.cell? (ad.add (j * 3)) = some (.int .i64 (a j)) ∧ w.cell? (ad.add (j * 3 + 1)) = some (.int .i64 (b j)) ∧ w.cell? (ad.add (j * 3 + 2)) = some (.int .i64 (l j))
theorem RdArg.below {w w' : World} {A : Option Addr} {n : Nat} {a b l : Nat → Int} (h : RdArg w A n a b l) (hb : Below w.heap.size w w') : RdArg w' A n a b l := fun j hj => by
  obtain ⟨ad, e, h0, h1, h2, h3⟩ := h j hj
  exact ⟨ad, e, Nat.lt_of_lt_of_le h0 hb.size, by rw [hb.cell (p := ad.add (j * 3)) (by rw [block_add]; exact h0)]; exact h1, by rw [hb.cell (p := ad.add (j * 3 + 1)) (by rw [block_add]; exact h0)]; exact h2, by rw [hb.cell (p := ad.add (j * 3 + 2)) (by rw [block_add]; exact h0)]; exact h3⟩
set_option maxHeartbeats 400000 in
theorem toRoad_c (a b l : Int) (w : World) : Calls Try.prog 53 #[.agg #[.int .i64 a, .int .i64 b, .int .i64 l]] w fun e w' => e = .returned (.agg #[.int .i64 a, .int .i64 b, .int .i64 l]) ∧ Below w.heap.size w w' := by
  go_enter Try.func53, Try.ntmps53
  go_wp2
  refine bodyPost_ret (v := .agg #[.int .i64 a, .int .i64 b, .int .i64 l]) (by simp [results, Try.results53, go_sem, *] <;> (first | rfl | exact ⟨rfl, rfl⟩ | exact ⟨rfl, rfl, rfl⟩ | exact ⟨rfl, rfl, rfl, rfl⟩)) rfl ?_
  exact ⟨rfl, by (with_reducible repeat (first | exact Below.refl _ _ | apply below_alloc | apply below_dN | apply below_d | refine below_setCell ?_ (by dsimp only; omega) | refine below_call (by assumption) ?_))⟩
set_option maxHeartbeats 1000000 in
theorem toRoadS_c (A : Option Addr) (n cap : Nat) (a b l : Nat → Int) (w : World) (hn : n ≤ 1048576) (hA : RdArg w A n a b l) :
    Calls Try.prog 19 #[.slice A n cap] w fun e w' => ∃ g, e = .returned (.slice (some ⟨g, 0, none⟩) n n) ∧ w.heap.size ≤ g ∧ RdBlk w' g n a b l ∧ Below w.heap.size w w' := by
  have hmk := make_rows (P := Try.prog) 29 69 (.agg #[.int .i64 0, .int .i64 0, .int .i64 0]) 3 24 (by kernel_rfl) (by kernel_rfl) n (by omega) (by omega)
  have hcz : (Value.agg #[.int .i64 0, .int .i64 0, .int .i64 0]).cells = #[.int .i64 0, .int .i64 0, .int .i64 0] := rfl
  rw [hcz] at hmk
  clear hcz
  go_enter Try.func19, Try.ntmps19
  go_wp2
  go_loopw [4] (fun k wr => ∃ m : Nat, m ≤ n ∧ k = .int .i64 m ∧ wr.rowIs w.heap.size 69 (n * 3) (rcs a b l m) ∧ Below w.heap.size w wr) (fun k _ => n - (intOf k).toNat)
  case atStart => exact ⟨0, by omega, rfl, (made3 w n _ _).congr (fun i _ => by simp [rcs]), by (with_reducible repeat (first | exact Below.refl _ _ | apply below_alloc | apply below_dN | apply below_d | refine below_setCell ?_ (by dsimp only; omega) | refine below_call (by assumption) ?_))⟩
  case round =>
    obtain ⟨m, hm, rfl, hrow, hB⟩ := hrel
    clear hmk
    by_cases hlt : m < n
    · obtain ⟨ad, rfl, ha, h0, h1, h2⟩ := hA m hlt
      have g0 : wr.cell? (ad.add (m * 3)) = some (.int .i64 (a m)) := by rw [hB.cell (p := ad.add (m * 3)) (by rw [block_add]; exact ha)]; exact h0
      have g1 : wr.cell? ⟨(ad.add (m * 3)).block, (ad.add (m * 3)).off + 1, none⟩ = some (.int .i64 (b m)) := by
        rw [(add_n ad (m * 3) 1).resolve_right (by decide), hB.cell (p := ad.add (m * 3 + 1)) (by rw [block_add]; exact ha)]; exact h1
      have g2 : wr.cell? ⟨(ad.add (m * 3)).block, (ad.add (m * 3)).off + 2, none⟩ = some (.int .i64 (l m)) := by
        rw [(add_n ad (m * 3) 2).resolve_right (by decide), hB.cell (p := ad.add (m * 3 + 2)) (by rw [block_add]; exact ha)]; exact h2
      have HA := Lib.hid hA
      clear hA h0 h1 h2
      have c0 := hrow.cell (i := m * 3) (by omega)
      have c1 := hrow.cell (i := m * 3 + 1) (by omega)
      have c2 := hrow.cell (i := m * 3 + 2) (by omega)
      have f0 := hrow.frozen (m * 3)
      have f1 := hrow.frozen (m * 3 + 1)
      have f2 := hrow.frozen (m * 3 + 2)
      have hl := hrow.lt
      go_wp2_with (go_at_call 53; ((with_reducible refine (toRoad_c _ _ _ _).mono ?_); rintro e w1 ⟨rfl, hb⟩); obtain ⟨hc, hfz⟩ := bcell hb)
      go_roundw
      case rel => exact ⟨m + 1, by omega, by go_num, ((((rowIs_below hrow hb hl).set (m * 3) _).set (m * 3 + 1) _).set (m * 3 + 2) _).congr (fun i _ => by rw [rcs_step]), by (with_reducible repeat (first | exact Below.refl _ _ | apply below_alloc | apply below_dN | apply below_d | refine below_setCell ?_ (by dsimp only; omega) | refine below_call (by assumption) ?_))⟩
      case measure => first | (simp [intOf]; done) | (simp [intOf]; omega)
    · obtain rfl : m = n := by omega
      go_wp2
      go_ret
      exact ⟨w.heap.size, rfl, Nat.le_refl _, RdBlk.of (hrow.congr (fun i hi => by unfold rcs; rw [if_pos hi])), by (with_reducible repeat (first | exact Below.refl _ _ | apply below_alloc | apply below_dN | apply below_d | refine below_setCell ?_ (by dsimp only; omega) | refine below_call (by assumption) ?_))⟩

set_option maxHeartbeats 400000 in
theorem szRoadS_c (A : Option Addr) (n cap : Nat) (left : Int) (hl : 0 ≤ left) (hl2 : left ≤ 1048576) (hn : n ≤ 9223372036854775807) (w : World) :
    Calls Try.prog 16 #[.slice A n cap, .int .i64 left] w fun e w' => e = .returned (.int .i64 (if left < n then -1 else left - n)) ∧ w = w' := by
  by_cases h : left < n
  · rw [if_pos h]
    have h1 : left - (n : Int) < 0 := by omega
    have h2 : -9223372036854775808 ≤ left - (n : Int) := by omega
    go_enter Try.func16, Try.ntmps16
    go_wp2
    go_ret
    exact ⟨rfl, rfl⟩
  · rw [if_neg h]
    have h1 : ¬ left - (n : Int) < 0 := by omega
    have h2 : 0 ≤ left - (n : Int) := by omega
    go_enter Try.func16, Try.ntmps16
    go_wp2
    go_ret
    exact ⟨rfl, rfl⟩
set_option maxHeartbeats 400000 in
theorem eqRoad_c (a b l : Int) (w : World) : Calls Try.prog 57 #[.agg #[.int .i64 a, .int .i64 b, .int .i64 l], .agg #[.int .i64 a, .int .i64 b, .int .i64 l]] w (Ret (RV (.bool true)) w) := by
  go_enter Try.func57, Try.ntmps57
  go_wp2
  go_ret
  exact ⟨⟨_, rfl, rfl⟩, by (with_reducible repeat (first | exact Below.refl _ _ | apply below_alloc | apply below_dN | apply below_d | refine below_setCell ?_ (by dsimp only; omega) | refine below_call (by assumption) ?_))⟩
set_option maxHeartbeats 1000000 in
theorem eqRoadS_c (g g' n cap cap' : Nat) (a b l : Nat → Int) (w : World) (hn : n ≤ 1048576) (h : RdBlk w g n a b l) (h' : RdBlk w g' n a b l) :
    Calls Try.prog 22 #[.slice (some ⟨g, 0, none⟩) n cap, .slice (some ⟨g', 0, none⟩) n cap'] w (Ret (RV (.bool true)) w) := by
  go_enter Try.func22, Try.ntmps22
  go_wp2
  go_loopw [5] (fun k wr => ∃ m : Nat, m ≤ n ∧ k = .int .i64 m ∧ Below w.heap.size w wr) (fun k _ => n - (intOf k).toNat)
  case atStart => exact ⟨0, by omega, rfl, by (with_reducible repeat (first | exact Below.refl _ _ | apply below_alloc | apply below_dN | apply below_d | refine below_setCell ?_ (by dsimp only; omega) | refine below_call (by assumption) ?_))⟩
  case round =>
    obtain ⟨m, hm, rfl, hB⟩ := hrel
    by_cases hlt : m < n
    · have k := h.below hB h.lt
      have k' := h'.below hB h'.lt
      have h0 := k.c0 hlt
      have h1 := k.c1 hlt
      have h2 := k.c2 hlt
      have h0' := k'.c0 hlt
      have h1' := k'.c1 hlt
      have h2' := k'.c2 hlt
      have hbw := k.lt
      have hbw' := k'.lt
      have HH := Lib.hid h
      have HH' := Lib.hid h'
      have HB := Lib.hid hB
      clear h h' k k' hB
      go_wp2
      (apply region_looseK (k := 10); (kernel_rfl); (kernel_rfl); intro opsL KL hopsL hKL; (dsimp only [List.take]))
      iterate 8 (apply rel_val; (rfl); (intro wq hbq; have hcq := (bcell hbq).1; (go_simp; first | done | rfl | exact ⟨rfl, rfl⟩)); (try go_simp))
      (apply rel_call (RV (.bool true)); (rfl); (intro wq hbq; (go_simp; first | done | rfl | exact ⟨rfl, rfl⟩)); (intro wq hbq; exact eqRoad_c _ _ _ _); (try go_simp))
      rintro v rfl
      (apply rel_val; (rfl); (intro wq hbq; have hcq := (bcell hbq).1; (go_simp; first | done | rfl | exact ⟨rfl, rfl⟩)); (try go_simp))
      (refine wpRel_nil ?_; refine hKL _ _ ?_; clear hKL hopsL opsL KL; intro w1 hb hnews; obtain ⟨hc, hfz⟩ := bcell hb; (try simp only [World.heap_drewN] at hc hfz); have hz := hb.size; (dsimp only [List.drop]))
      go_wp2
      go_roundw
      case rel => exact ⟨m + 1, by omega, by go_num, by have := HB.out; (with_reducible repeat (first | exact Below.refl _ _ | apply below_alloc | apply below_dN | apply below_d | refine below_setCell ?_ (by dsimp only; omega) | refine below_call (by assumption) ?_))⟩
      case measure => first | (simp [intOf]; done) | (simp [intOf]; omega)
    · obtain rfl : m = n := by omega
      go_wp2
      go_ret
      exact ⟨⟨_, rfl, rfl⟩, by (with_reducible repeat (first | exact Below.refl _ _ | apply below_alloc | apply below_dN | apply below_d | refine below_setCell ?_ (by dsimp only; omega) | refine below_call (by assumption) ?_))⟩
end Go.Proofs.Ytpmeccjfjjklkaa
