/- Contracts of slices of places: made out of an argument, held against each other, asked whether they are places. No condition. -/
import Derived.Test.YtnkimeeofmbhkaaAre
import Derived.Deep.OwnRows
import Derived.Deep.SlicePairs
import Derived.Laws.Rows
import Derived.Test.YtnkimeeofmbhkaaBas2
namespace Go.Proofs.Ytnkimeeofmbhkaa
open Go.RowKit
set_option linter.unusedSimpArgs false

theorem make_rows {P : Program} (t e : TypeId) (z : Value) (s bytes : Nat) (ht : P.underlying t = some (.slice e)) (hinfo : (P.info? e).map (fun i => (i.zero, i.size, i.bytes)) = some (some z, s, bytes))
    (n : Nat) (hb : bytes * n ≤ 281474976710656) (hn : n ≤ 9223372036854775807) (w : World) :
    (Instr.makeSlice t (.int .i64 (n : Int)) (.int .i64 (n : Int))).run P w = .ok (.slice (some ⟨w.heap.size, 0, none⟩) n n) (w.alloc (.cells (madeCells z.cells (n * s)) e)) := by
  obtain ⟨i, hi, hzz⟩ := Option.map_eq_some_iff.1 hinfo
  simp only [Prod.mk.injEq] at hzz
  obtain ⟨hz, hs, hby⟩ := hzz
  have hb' : (i.bytes : Int) * (n : Int) ≤ 281474976710656 := by
    rw [hby, ← Int.natCast_mul]; omega
  have hr := run_make (P := P) w t e i z ht hi hz .i64 .i64 n n (by omega) (Int.le_refl _) hb' (by omega)
  simpa only [Int.toNat_natCast, hs] using hr

/-- The cells of a list of places. -/
def pc (x y : Nat → Nat) (i : Nat) : Value := .float .f32 (if i % 2 = 0 then x (i / 2) else y (i / 2))
/-- Of a list of places those of k. -/
def pcs (x y : Nat → Nat) (k i : Nat) : Value := if i < k * 2 then pc x y i else .float .f32 0
/-- A block that is a list of places. -/
def PlBlk (w : World) (b n : Nat) (x y : Nat → Nat) : Prop := w.rowIs b 24 (n * 2) (pc x y)
theorem PlBlk.cells {w : World} {b n : Nat} {x y X Y : Nat → Nat} (h : PlBlk w b n x y) (hx : ∀ j, j < n → cn .f32 (x j) = X j) (hy : ∀ j, j < n → cn .f32 (y j) = Y j) : PlCells w b n X Y := fun j hj => by
  have h0 := h.cell (i := j * 2) (by omega)
  have h1 := h.cell (i := j * 2 + 1) (by omega)
  refine ⟨x j, y j, ?_, ?_, hx j hj, hy j hj⟩
  · rw [h0]; simp [pc]
  · rw [h1]; unfold pc; rw [if_neg (by omega), show (j * 2 + 1) / 2 = j by omega]
theorem rowIs_below {w w' : World} {B b : Nat} {t : TypeId} {n : Nat} {f : Nat → Value} (h : w.rowIs b t n f) (hb : Below B w w') (hlt : b < B) : w'.rowIs b t n f := h.of_block (hb.block b hlt)
theorem made2 (w : World) (n : Nat) (z : Value) (t : TypeId) : (w.alloc (.cells (madeCells #[z, z] (n * 2)) t)).rowIs w.heap.size t (n * 2) (fun _ => z) :=
  ⟨_, heap_alloc_new _ _, size_madeCells _ _, fun i hi => by
    have hm : i % 2 < 2 := Nat.mod_lt _ (by decide)
    simp only [madeCells, Array.getElem?_map, Array.getElem?_range, hi, if_true, Option.map_some]
    rcases Nat.mod_two_eq_zero_or_one i with h | h <;> simp [h]⟩
theorem pcs_step {x y : Nat → Nat} {k i : Nat} : pcs x y (k + 1) i = if i = k * 2 + 1 then .float .f32 (y k) else if i = k * 2 then .float .f32 (x k) else pcs x y k i := by
  unfold pcs pc
  by_cases h1 : i = k * 2 + 1
  · subst h1
    rw [if_pos (by omega), if_pos rfl, if_neg (by omega), show (k * 2 + 1) / 2 = k by omega]
  · by_cases h0 : i = k * 2
    · subst h0
      rw [if_pos (by omega), if_neg h1, if_pos rfl, if_pos (by omega), show k * 2 / 2 = k by omega]
    · rw [if_neg h1, if_neg h0]
      by_cases h : i < k * 2
      · rw [if_pos (by omega), if_pos h]
      · rw [if_neg (by omega), if_neg h]

theorem block_add (a : Addr) (n : Nat) : (a.add n).block = a.block := by unfold Addr.add; split <;> rfl
theorem add_one_eq (a : Addr) (n : Nat) : (⟨(a.add n).block, (a.add n).off + 1, none⟩ : Addr) = a.add (n + 1) := by
  rw [← Go.Deep.add_add]
  rfl
/-- What an argument reads as. -/
def PlArg (w : World) (A : Option Addr) (n : Nat) (x y : Nat → Nat) : Prop := ∀ j, j < n → ∃ a, A = some a ∧ a.block < w.heap.size ∧ w.cell? (a.add (j * 2)) = some (.float .f32 (x j)) ∧ w.cell? (a.add (j * 2 + 1)) = some (.float .f32 (y j))

set_option maxHeartbeats 1000000 in
theorem toPlaceS_c (A : Option Addr) (n cap : Nat) (x y : Nat → Nat) (w : World) (hn : n ≤ 1048576) (hA : PlArg w A n x y) :
    Calls Try.prog 14 #[.slice A n cap] w fun e w' => ∃ b, e = .returned (.slice (some ⟨b, 0, none⟩) n n) ∧ w.heap.size ≤ b ∧ PlBlk w' b n x y ∧ Below w.heap.size w w' := by
  have hmk := make_rows (P := Try.prog) 25 24 (.agg #[.float .f32 0, .float .f32 0]) 2 8 (by kernel_rfl) (by kernel_rfl) n (by omega) (by omega)
  have hcz : (Value.agg #[.float .f32 0, .float .f32 0]).cells = #[.float .f32 0, .float .f32 0] := rfl
  rw [hcz] at hmk
  clear hcz
  go_enter Try.func14, Try.ntmps14
  go_wp2
  go_loopw [4] (fun k wr => ∃ m : Nat, m ≤ n ∧ k = .int .i64 m ∧ wr.rowIs w.heap.size 24 (n * 2) (pcs x y m) ∧ Below w.heap.size w wr) (fun k _ => n - (intOf k).toNat)
  case atStart => exact ⟨0, by omega, rfl, (made2 w n _ _).congr (fun i _ => by simp [pcs]), by (with_reducible repeat (first | exact Below.refl _ _ | apply below_alloc | apply below_dN | apply below_d | refine below_setCell ?_ (by dsimp only; omega) | refine below_call (by assumption) ?_))⟩
  case round =>
    obtain ⟨m, hm, rfl, hrow, hB⟩ := hrel
    clear hmk
    by_cases hlt : m < n
    · obtain ⟨a, rfl, ha, h0, h1⟩ := hA m hlt
      have g0 : wr.cell? (a.add (m * 2)) = some (.float .f32 (x m)) := by rw [hB.cell (p := a.add (m * 2)) (by rw [block_add]; exact ha)]; exact h0
      have g1 : wr.cell? ⟨(a.add (m * 2)).block, (a.add (m * 2)).off + 1, none⟩ = some (.float .f32 (y m)) := by
        rw [add_one_eq, hB.cell (p := a.add (m * 2 + 1)) (by rw [block_add]; exact ha)]; exact h1
      have HA := Lib.hid hA
      clear hA h0 h1
      have c0 := hrow.cell (i := m * 2) (by omega)
      have c1 := hrow.cell (i := m * 2 + 1) (by omega)
      have f0 := hrow.frozen (m * 2)
      have f1 := hrow.frozen (m * 2 + 1)
      have hl := hrow.lt
      go_wp2_with (go_at_call 41; ((with_reducible refine (toPlace_any _ _ _).mono ?_); rintro e w1 ⟨rfl, hb⟩); obtain ⟨hc, hfz⟩ := bcell hb)
      go_roundw
      case rel => exact ⟨m + 1, by omega, by go_num, (((rowIs_below hrow hb hl).set (m * 2) _).set (m * 2 + 1) _).congr (fun i _ => by rw [pcs_step]), by (with_reducible repeat (first | exact Below.refl _ _ | apply below_alloc | apply below_dN | apply below_d | refine below_setCell ?_ (by dsimp only; omega) | refine below_call (by assumption) ?_))⟩
      case measure => first | (simp [intOf]; done) | (simp [intOf]; omega)
    · obtain rfl : m = n := by omega
      go_wp2
      go_ret
      exact ⟨w.heap.size, rfl, Nat.le_refl _, hrow.congr (fun i hi => by unfold pcs; rw [if_pos hi]), by (with_reducible repeat (first | exact Below.refl _ _ | apply below_alloc | apply below_dN | apply below_d | refine below_setCell ?_ (by dsimp only; omega) | refine below_call (by assumption) ?_))⟩

set_option maxHeartbeats 400000 in
theorem szPlaceS_c (A : Option Addr) (n cap : Nat) (left : Int) (hl : 0 ≤ left) (hl2 : left ≤ 1048576) (hn : n ≤ 9223372036854775807) (w : World) :
    Calls Try.prog 12 #[.slice A n cap, .int .i64 left] w fun e w' => e = .returned (.int .i64 (if left < n then -1 else left - n)) ∧ w = w' := by
  by_cases h : left < n
  · rw [if_pos h]
    have h1 : left - (n : Int) < 0 := by omega
    have h2 : -9223372036854775808 ≤ left - (n : Int) := by omega
    go_enter Try.func12, Try.ntmps12
    go_wp2
    go_ret
    exact ⟨rfl, rfl⟩
  · rw [if_neg h]
    have h1 : ¬ left - (n : Int) < 0 := by omega
    have h2 : 0 ≤ left - (n : Int) := by omega
    go_enter Try.func12, Try.ntmps12
    go_wp2
    go_ret
    exact ⟨rfl, rfl⟩

set_option maxHeartbeats 1000000 in
theorem eqPlaceS_c (b b' n cap cap' : Nat) (X Y : Nat → Nat) (w : World) (hn : n ≤ 1048576) (hb : b < w.heap.size) (hb' : b' < w.heap.size) (h : PlCells w b n X Y) (h' : PlCells w b' n X Y) :
    Calls Try.prog 17 #[.slice (some ⟨b, 0, none⟩) n cap, .slice (some ⟨b', 0, none⟩) n cap'] w (Ret (RV (.bool true)) w) := by
  go_enter Try.func17, Try.ntmps17
  go_wp2
  go_loopw [5] (fun k wr => ∃ m : Nat, m ≤ n ∧ k = .int .i64 m ∧ Below w.heap.size w wr) (fun k _ => n - (intOf k).toNat)
  case atStart => exact ⟨0, by omega, rfl, by (with_reducible repeat (first | exact Below.refl _ _ | apply below_alloc | apply below_dN | apply below_d | refine below_setCell ?_ (by dsimp only; omega) | refine below_call (by assumption) ?_))⟩
  case round =>
    obtain ⟨m, hm, rfl, hB⟩ := hrel
    by_cases hlt : m < n
    · obtain ⟨r, s, h0, h1, h2, h3⟩ := h m hlt
      obtain ⟨r', s', h0', h1', h2', h3'⟩ := h' m hlt
      rw [← hB.cell (p := ⟨b, m * 2, none⟩) hb] at h0
      rw [← hB.cell (p := ⟨b, m * 2 + 1, none⟩) hb] at h1
      rw [← hB.cell (p := ⟨b', m * 2, none⟩) hb'] at h0'
      rw [← hB.cell (p := ⟨b', m * 2 + 1, none⟩) hb'] at h1'
      have HH := Lib.hid h
      have HH' := Lib.hid h'
      have hbw : b < wr.heap.size := Nat.lt_of_lt_of_le hb hB.size
      have hbw' : b' < wr.heap.size := Nat.lt_of_lt_of_le hb' hB.size
      obtain ⟨U, hU⟩ : ∃ U, X m = U := ⟨_, rfl⟩
      obtain ⟨V, hV⟩ : ∃ V, Y m = V := ⟨_, rfl⟩
      rw [hU] at h2 h2'
      rw [hV] at h3 h3'
      clear h h' hU hV
      go_wp2
      (apply region_looseK (k := 10); (kernel_rfl); (kernel_rfl); intro opsL KL hopsL hKL; (dsimp only [List.take]))
      iterate 8 (apply rel_val; (rfl); (intro wq hbq; have hcq := (bcell hbq).1; (go_simp; first | done | rfl | exact ⟨rfl, rfl⟩)); (try go_simp))
      (apply rel_call (RV (.bool true)); (rfl); (intro wq hbq; (go_simp; first | done | rfl | exact ⟨rfl, rfl⟩)); (intro wq hbq; exact eqPlace_c _ _ _ _ _ _ h2 h3 h2' h3' _); (try go_simp))
      rintro v rfl
      (apply rel_val; (rfl); (intro wq hbq; have hcq := (bcell hbq).1; (go_simp; first | done | rfl | exact ⟨rfl, rfl⟩)); (try go_simp))
      (refine wpRel_nil ?_; refine hKL _ _ ?_; clear hKL hopsL opsL KL; intro w1 hb hnews; obtain ⟨hc, hfz⟩ := bcell hb; (try simp only [World.heap_drewN] at hc hfz); have hz := hb.size; (dsimp only [List.drop]))
      go_wp2
      go_roundw
      case rel => exact ⟨m + 1, by omega, by go_num, by (with_reducible repeat (first | exact Below.refl _ _ | apply below_alloc | apply below_dN | apply below_d | refine below_setCell ?_ (by dsimp only; omega) | refine below_call (by assumption) ?_))⟩
      case measure => first | (simp [intOf]; done) | (simp [intOf]; omega)
    · obtain rfl : m = n := by omega
      go_wp2
      go_ret
      exact ⟨⟨_, rfl, rfl⟩, by (with_reducible repeat (first | exact Below.refl _ _ | apply below_alloc | apply below_dN | apply below_d | refine below_setCell ?_ (by dsimp only; omega) | refine below_call (by assumption) ?_))⟩

/-- Whether a list are places. -/
def arePl (n : Nat) (X Y : Nat → Nat) : Bool := allP X Y n && (decide (1 ≤ n) && decide (n ≤ 64))
set_option maxHeartbeats 1000000 in
theorem l02Are_c (b n cap : Nat) (X Y : Nat → Nat) (w : World) (hn : n ≤ 1048576) (h : PlCells w b n X Y) :
    Calls Try.prog 38 #[.slice (some ⟨b, 0, none⟩) n cap] w fun e w' => e = .returned (.bool (arePl n X Y)) ∧ w = w' := by
  go_enter Try.func38, Try.ntmps38
  go_wp2
  go_loop [3] (fun k => ∃ m : Nat, m ≤ n ∧ k = .int .i64 m ∧ ∀ j, j < m → vplace (X j) (Y j) = true) (fun k => n - (intOf k).toNat)
  case atStart => exact ⟨0, by omega, rfl, by omega⟩
  case round =>
    obtain ⟨m, hm, rfl, hall⟩ := hrel
    have HA := Lib.hid hall
    clear hall
    by_cases hlt : m < n
    · obtain ⟨r, s, h0, h1, h2, h3⟩ := h m hlt
      have HH := Lib.hid h
      clear h
      cases c : vplace (X m) (Y m)
      · have HV : arePl n X Y = false := by unfold arePl; rw [allP_false hlt c]; rfl
        have HV2 := Lib.hid HV
        clear HV
        go_wp2_with (go_at_call 72; refine (l02Is_c r s b (m * 2) _ _ h2 h3 _ h0 h1).mono ?_; rintro e w' ⟨rfl, rfl⟩)
        go_ret
        exact ⟨by rw [HV2.out]; rfl, rfl⟩
      · go_wp2_with (go_at_call 72; refine (l02Is_c r s b (m * 2) _ _ h2 h3 _ h0 h1).mono ?_; rintro e w' ⟨rfl, rfl⟩)
        go_round
        case rel => exact ⟨m + 1, by omega, by go_num, fun j hj => by
          by_cases h : j < m
          · exact HA.out j h
          · obtain rfl : j = m := by omega
            exact c⟩
        case measure => first | (simp [intOf]; done) | (simp [intOf]; omega)
    · obtain rfl : m = n := by omega
      have HV : arePl m X Y = (decide (1 ≤ m) && decide (m ≤ 64)) := by unfold arePl; rw [allP_true HA.out]; rfl
      have HV2 := Lib.hid HV
      clear h HA HV
      by_cases c1 : (1 : Int) ≤ (m : Int) <;> by_cases c2 : (m : Int) ≤ 64 <;>
      (have d1 : decide (1 ≤ m) = decide ((1 : Int) ≤ (m : Int)) := by rw [Bool.eq_iff_iff]; simp; omega
       have d2 : decide (m ≤ 64) = decide ((m : Int) ≤ 64) := by rw [Bool.eq_iff_iff]; simp; omega
       rw [d1, d2] at HV2
       clear d1 d2
       go_wp2
       go_ret
       exact ⟨by rw [HV2.out]; simp [c1, c2], rfl⟩)

set_option maxHeartbeats 1000000 in
theorem iArePlaces_c (b n cap : Nat) (X Y : Nat → Nat) (w : World) (hb : b < w.heap.size) (hn : n ≤ 1048576) (h : PlCells w b n X Y) :
    Calls Try.prog 42 #[.slice (some ⟨b, 0, none⟩) n cap] w (Ret (RV (.bool (arePl n X Y))) w) := by
  have HV := Lib.hid (areValid_c b n cap X Y w hb (by omega) h)
  have hl : ∀ w : World, Calls Try.prog 75 #[.slice (some ⟨b, 0, none⟩) n cap] w fun e w' => e = .returned (.int .i64 n) ∧ w = w' := fun w => by
    go_enter Try.func75, Try.ntmps75
    go_wp2
    go_ret
    exact ⟨rfl, rfl⟩
  have HL := Lib.hid hl
  clear h hl
  have d1 : decide (1 ≤ n) = decide ((1 : Int) ≤ (n : Int)) := by rw [Bool.eq_iff_iff]; simp; omega
  have d2 : decide (n ≤ 64) = decide ((n : Int) ≤ 64) := by rw [Bool.eq_iff_iff]; simp; omega
  unfold arePl
  rw [d1, d2]
  clear d1 d2
  by_cases c1 : (1 : Int) ≤ (n : Int) <;> by_cases c2 : (n : Int) ≤ 64 <;>
  (go_enter Try.func42, Try.ntmps42
   go_wp2_with (first | (go_at_call 75; refine (HL.out _).mono ?_; rintro e w' ⟨rfl, rfl⟩) | (go_at_call 74; refine (within_c _ _ _ _).mono ?_; rintro e w' ⟨rfl, rfl⟩) | (go_at_call 76; ((with_reducible refine (HV.out).mono ?_); rintro e w1 ⟨⟨v, rfl, rfl⟩, hb⟩)))
   all_goals (go_ret; exact ⟨⟨_, rfl, by simp [RV, c1, c2]⟩, by (with_reducible repeat (first | exact Below.refl _ _ | apply below_alloc | apply below_dN | apply below_d | refine below_setCell ?_ (by dsimp only; omega) | refine below_call (by assumption) ?_))⟩))
end Go.Proofs.Ytnkimeeofmbhkaa
