/- Places and lists of places, without what the sine needs. No condition. -/
import Derived.Test.YtpmeccjfjjklkaaVal2
import Derived.Test.YtpmeccjfjjklkaaBas2
import Derived.Deep.OwnRows
import Derived.Deep.SlicePairs
import Derived.Laws.Rows
import Derived.Deep.DeepCutAuto
namespace Go.Proofs.Ytpmeccjfjjklkaa
open Go.RowKit
set_option linter.unusedSimpArgs false


theorem feq_self (k : FloatKind) (x : Nat) : feq k x x = !nanB k x := by
  unfold feq nanB Ieee.Format.order
  cases e : k.format.read x with
  | nan s f => rfl
  | infinity s => cases s <;> rfl
  | number s m p => simp [Ieee.Datum.order, Ieee.Datum.isNaN]


set_option maxHeartbeats 400000 in
theorem sameFloat_c (a b A : Nat) (ha : cn .f64 a = A) (hb : cn .f64 b = A) (w : World) : Calls Try.prog 77 #[.float .f64 a, .float .f64 b] w (Ret (RV (.bool true)) w) := by
  have hs := feq_self .f64 A
  cases c1 : nanB .f64 A <;> cases c2 : feq .f64 A 0 <;> cases c3 : fgt .f64 (fop .quo .f64 4607182418800017408 A) 0 <;> rw [c1] at hs <;>
  (go_enter Try.func77, Try.ntmps77
   go_wp2_with (first | (refine wpL_farith rfl _ _ _ _ _ rfl rfl _ _ _ rfl rfl ?_; intro r n hr hw))
   go_ret
   exact ⟨⟨_, rfl, rfl⟩, by (with_reducible repeat (first | exact Below.refl _ _ | apply below_alloc | apply below_dN | apply below_d | refine below_setCell ?_ (by dsimp only; omega) | refine below_call (by assumption) ?_))⟩)

set_option maxHeartbeats 400000 in
theorem eqPlace_c (x y x' y' X Y : Nat) (hx : cn .f32 x = X) (hy : cn .f32 y = Y) (hx' : cn .f32 x' = X) (hy' : cn .f32 y' = Y) (w : World) : Calls Try.prog 56 #[.agg #[.float .f32 x, .float .f32 y], .agg #[.float .f32 x', .float .f32 y']] w (Ret (RV (.bool true)) w) := by
  subst hx hy
  go_enter Try.func56, Try.ntmps56
  go_wp2_with (first | (go_at_call 77; ((with_reducible refine (sameFloat_c _ _ _ (by assumption) (by simp only [*]) _).mono ?_); rintro e w1 ⟨⟨v, rfl, rfl⟩, hb⟩); obtain ⟨hc, hfz⟩ := bcell hb; (try simp only [World.heap_drewN] at hc hfz); have hz : w.heap.size + 2 ≤ w1.heap.size := (by (have hz_ := hb.size; (try simp at hz_); omega)); have hz0 : w.heap.size < w1.heap.size := (by omega); have hz1 : w.heap.size + 1 < w1.heap.size := (by omega)) | (refine wpL_fconv_fits rfl 73 105 _ rfl .f32 .f64 _ rfl (by decide) Try.underlying73 Try.underlying105 (fits_wide _) ?_; intro r n hr hw))
  go_ret
  exact ⟨⟨_, rfl, rfl⟩, by (with_reducible repeat (first | exact Below.refl _ _ | apply below_alloc | apply below_dN | apply below_d | refine below_setCell ?_ (by dsimp only; omega) | refine below_call (by assumption) ?_))⟩



/-- North and East of a valid place. -/
def vplace (x y : Nat) : Bool := fge .f32 x 3196059648 && (fle .f32 x 1048576000 && (fge .f32 y 3204448256 && flt .f32 y 1056964608))

set_option maxHeartbeats 400000 in
theorem inside_c (x a b X A B : Nat) (hx : cn .f32 x = X) (ha : cn .f32 a = A) (hb : cn .f32 b = B) (w : World) :
    Calls Try.prog 91 #[.float .f32 x, .float .f32 a, .float .f32 b] w (Ret (RV (.bool (fge .f32 X A && fle .f32 X B))) w) := by
  cases h : fge .f32 X A <;>
  (go_enter Try.func91, Try.ntmps91
   go_wp2
   go_ret
   exact ⟨⟨_, rfl, by simp [RV, *]⟩, by (with_reducible repeat (first | exact Below.refl _ _ | apply below_alloc | apply below_dN | apply below_d | refine below_setCell ?_ (by dsimp only; omega) | refine below_call (by assumption) ?_))⟩)

set_option maxHeartbeats 400000 in
theorem toPlace_any (x a : Nat) (w : World) :
    Calls Try.prog 52 #[.agg #[.float .f32 x, .float .f32 a]] w fun e w' => e = .returned (.agg #[.float .f32 x, .float .f32 a]) ∧ Below w.heap.size w w' := by
  go_enter Try.func52, Try.ntmps52
  go_wp2
  go_returns
  exact ⟨rfl, by (with_reducible repeat (first | exact Below.refl _ _ | apply below_alloc | apply below_dN | apply below_d | refine below_setCell ?_ (by dsimp only; omega) | refine below_call (by assumption) ?_))⟩

set_option maxHeartbeats 1000000 in
theorem l02Is_c (x y b o X Y : Nat) (hx : cn .f32 x = X) (hy : cn .f32 y = Y) (w : World) (h0 : w.cell? ⟨b, o, none⟩ = some (.float .f32 x)) (h1 : w.cell? ⟨b, o + 1, none⟩ = some (.float .f32 y)) :
    Calls Try.prog 83 #[.pointer (some ⟨b, o, none⟩)] w fun e w' => e = .returned (.bool (vplace X Y)) ∧ w = w' := by
  cases c1 : fge .f32 X 3196059648 <;> cases c2 : fle .f32 X 1048576000 <;> cases c3 : fge .f32 Y 3204448256 <;>
  (go_enter Try.func83, Try.ntmps83
   go_wp2
   go_ret
   exact ⟨by simp [vplace, *], rfl⟩)

set_option maxHeartbeats 400000 in
theorem iValidPlace_c (x y X Y : Nat) (hx : cn .f32 x = X) (hy : cn .f32 y = Y) (w : World) :
    Calls Try.prog 86 #[.agg #[.float .f32 x, .float .f32 y]] w (Ret (RV (.bool (vplace X Y))) w) := by
  cases c1 : (fge .f32 X 3196059648 && fle .f32 X 1048576000) <;> cases c3 : fge .f32 Y 3204448256 <;>
  (go_enter Try.func86, Try.ntmps86
   go_wp2_with (go_at_call 91; ((with_reducible refine (inside_c _ _ _ _ _ _ hx rfl rfl _).mono ?_); rintro e w1 ⟨⟨v, rfl, rfl⟩, hb⟩); obtain ⟨hc, hfz⟩ := bcell hb; (try simp only [World.heap_drewN] at hc hfz); have hz : w.heap.size + 1 ≤ w1.heap.size := (by (have hz_ := hb.size; (try simp at hz_); omega)); have hz0 : w.heap.size < w1.heap.size := (by omega))
   go_ret
   exact ⟨⟨_, rfl, by simp only [RV, vplace, ← Bool.and_assoc, *]; rfl⟩, by (with_reducible repeat (first | exact Below.refl _ _ | apply below_alloc | apply below_dN | apply below_d | refine below_setCell ?_ (by dsimp only; omega) | refine below_call (by assumption) ?_))⟩)

/-! Finite numbers. -/


def allP (X Y : Nat → Nat) (n : Nat) : Bool := (List.range n).all fun j => vplace (X j) (Y j)
theorem allP_true {X Y : Nat → Nat} {n : Nat} (h : ∀ j, j < n → vplace (X j) (Y j) = true) : allP X Y n = true := by simpa [allP] using h
theorem allP_false {X Y : Nat → Nat} {n m : Nat} (hm : m < n) (h : vplace (X m) (Y m) = false) : allP X Y n = false := by
  simp only [allP, List.all_eq_false, List.mem_range]
  exact ⟨m, hm, by simp [h]⟩
/-- The places of a list. -/
def PlCells (w : World) (b n : Nat) (X Y : Nat → Nat) : Prop := ∀ j, j < n → ∃ r s, w.cell? ⟨b, j * 2, none⟩ = some (.float .f32 r) ∧ w.cell? ⟨b, j * 2 + 1, none⟩ = some (.float .f32 s) ∧ cn .f32 r = X j ∧ cn .f32 s = Y j

set_option maxHeartbeats 400000 in
theorem areV1_c (x y X Y : Nat) (hx : cn .f32 x = X) (hy : cn .f32 y = Y) (w : World) : Calls Try.prog 85 #[.agg #[.float .f32 x, .float .f32 y]] w (Ret (RV (.bool (!vplace X Y))) w) := by
  go_enter Try.func85, Try.ntmps85
  go_wp2_with (first | (go_at_call 86; ((with_reducible refine (iValidPlace_c _ _ _ _ hx hy _).mono ?_); rintro e w1 ⟨⟨v, rfl, rfl⟩, hb⟩); have hu2 : ∀ n : Nat, n < n + 1 + 1 := (fun n => by omega); have hu3 : ∀ n : Nat, n < n + 1 + 1 + 1 := (fun n => by omega); obtain ⟨hc, hfz⟩ := bcell hb; (try simp only [World.heap_drewN] at hc hfz); have hs_ := hb.size; (try simp at hs_); (try have hz0 : w.heap.size < w1.heap.size := (by omega)); (try have hz1 : w.heap.size + 1 < w1.heap.size := (by omega)); (try have hz2 : w.heap.size + 2 < w1.heap.size := (by omega)); (try have hz3 : w.heap.size + 3 < w1.heap.size := (by omega)); (try have hza : wa.heap.size < w1.heap.size := (by omega)); (try have hza1 : wa.heap.size + 1 < w1.heap.size := (by omega)); (try have hzb : wb.heap.size < w1.heap.size := (by omega)); (try have hzb1 : wb.heap.size + 1 < w1.heap.size := (by omega)); (try have hzc : wc.heap.size < w1.heap.size := (by omega)); (try have hzd : wd.heap.size < w1.heap.size := (by omega))))
  go_ret
  exact ⟨⟨_, rfl, rfl⟩, by (with_reducible repeat (first | exact Below.refl _ _ | apply below_alloc | apply below_dN | apply below_d | refine below_setCell ?_ (by dsimp only; omega) | refine below_call (by assumption) ?_))⟩

set_option maxHeartbeats 1000000 in
theorem indexFunc_c (b : Nat) (n cap : Nat) (X Y : Nat → Nat) (w : World) (hb : b < w.heap.size) (hn : n < 4611686018427387904) (hX : PlCells w b n X Y) :
    Calls Try.prog 90 #[.slice (some ⟨b, 0, none⟩) n cap, .func (.func 85) #[] #[]] w (Ret (fun v => ∃ k : Int, v = .int .i64 k ∧ decide (0 ≤ k) = !allP X Y n) w) := by
  go_enter Try.func90, Try.ntmps90
  go_wp2
  go_loopw [8] (fun k wr => ∃ m : Nat, m ≤ n ∧ k = .int .i64 m ∧ (∀ j, j < m → vplace (X j) (Y j) = true) ∧ Below w.heap.size w wr) (fun k _ => n - (intOf k).toNat)
  case atStart => exact ⟨0, by omega, rfl, by omega, by (with_reducible repeat (first | exact Below.refl _ _ | apply below_alloc | apply below_dN | apply below_d | refine below_setCell ?_ (by dsimp only; omega) | refine below_call (by assumption) ?_))⟩
  case round =>
    obtain ⟨m, hm, rfl, hall, hB⟩ := hrel
    have HA := Lib.hid hall
    clear hall
    by_cases hlt : m < n
    · obtain ⟨r0, s0, hr0, hs0, hc0, hc1⟩ := hX m hlt
      have HX := Lib.hid hX
      clear hX
      rw [← hB.cell (p := ⟨b, m * 2, none⟩) hb] at hr0
      rw [← hB.cell (p := ⟨b, m * 2 + 1, none⟩) hb] at hs0
      cases c : vplace (X m) (Y m)
      · go_wp2_with (first | (go_at_call 85; ((with_reducible refine (areV1_c _ _ _ _ hc0 hc1 _).mono ?_); rintro e w1 ⟨⟨v, rfl, rfl⟩, hb⟩)))
        go_ret
        exact ⟨⟨_, rfl, m, rfl, by simp [allP_false hlt c]⟩, by (with_reducible repeat (first | exact Below.refl _ _ | apply below_alloc | apply below_dN | apply below_d | refine below_setCell ?_ (by dsimp only; omega) | refine below_call (by assumption) ?_))⟩
      · go_wp2_with (first | (go_at_call 85; ((with_reducible refine (areV1_c _ _ _ _ hc0 hc1 _).mono ?_); rintro e w1 ⟨⟨v, rfl, rfl⟩, hb⟩)))
        go_roundw
        case rel => exact ⟨m + 1, by omega, by go_num, fun j hj => by
          by_cases h : j < m
          · exact HA.out j h
          · obtain rfl : j = m := by omega
            exact c, by (with_reducible repeat (first | exact Below.refl _ _ | apply below_alloc | apply below_dN | apply below_d | refine below_setCell ?_ (by dsimp only; omega) | refine below_call (by assumption) ?_))⟩
        case measure => first | (simp [intOf]; done) | (simp [intOf]; omega)
    · obtain rfl : m = n := by omega
      go_wp2
      go_ret
      exact ⟨⟨_, rfl, -1, rfl, by simp [allP_true HA.out]⟩, by (with_reducible repeat (first | exact Below.refl _ _ | apply below_alloc | apply below_dN | apply below_d | refine below_setCell ?_ (by dsimp only; omega) | refine below_call (by assumption) ?_))⟩

set_option maxHeartbeats 1000000 in
theorem areValid_c (b : Nat) (n cap : Nat) (X Y : Nat → Nat) (w : World) (hb : b < w.heap.size) (hn : n < 4611686018427387904) (hX : PlCells w b n X Y) :
    Calls Try.prog 74 #[.slice (some ⟨b, 0, none⟩) n cap] w (Ret (RV (.bool (allP X Y n))) w) := by
  have HC : ∀ w', Below w.heap.size w w' → Calls Try.prog 90 #[.slice (some ⟨b, 0, none⟩) n cap, .func (.func 85) #[] #[]] w' (Ret (fun v => ∃ k : Int, v = .int .i64 k ∧ decide (0 ≤ k) = !allP X Y n) w') := fun w' h =>
    indexFunc_c b n cap X Y w' (Nat.lt_of_lt_of_le hb h.size) hn fun j hj => by
      obtain ⟨r, s, h1, h2, h3⟩ := hX j hj
      exact ⟨r, s, by rw [h.cell (p := ⟨b, j * 2, none⟩) hb]; exact h1, by rw [h.cell (p := ⟨b, j * 2 + 1, none⟩) hb]; exact h2, h3⟩
  have HD : ∀ w', Below w.heap.size w w' → Calls Try.prog 84 #[.slice (some ⟨b, 0, none⟩) n cap, .func (.func 85) #[] #[]] w' (Ret (RV (.bool (!allP X Y n))) w') := fun w' h => by
    have HC' := Lib.hid (HC w' h)
    clear HC h hX
    go_enter Try.func84, Try.ntmps84
    go_wp2_with (first | (go_at_call 90; ((with_reducible refine (HC'.out).mono ?_); rintro e w1 ⟨⟨v, rfl, k, rfl, hk⟩, hb⟩)))
    go_ret
    exact ⟨⟨_, rfl, by simp [RV, hk]⟩, by (with_reducible repeat (first | exact Below.refl _ _ | apply below_alloc | apply below_dN | apply below_d | refine below_setCell ?_ (by dsimp only; omega) | refine below_call (by assumption) ?_))⟩
  have HD' := Lib.hid (HD w (Below.refl _ _))
  clear HC HD hX
  go_enter Try.func74, Try.ntmps74
  go_wp2_with (first | (go_at_call 84; ((with_reducible refine (HD'.out).mono ?_); rintro e w1 ⟨⟨v, rfl, rfl⟩, hb⟩)))
  go_ret
  exact ⟨⟨_, rfl, by simp [RV]⟩, by (with_reducible repeat (first | exact Below.refl _ _ | apply below_alloc | apply below_dN | apply below_d | refine below_setCell ?_ (by dsimp only; omega) | refine below_call (by assumption) ?_))⟩

-- left out here: loop.example/g01341/spec.l02Two


theorem make_rows {P : Program} (t e : TypeId) (z : Value) (s bytes : Nat) (ht : P.underlying t = some (.slice e)) (hinfo : (P.info? e).map (fun i => (i.zero, i.size, i.bytes)) = some (some z, s, bytes))
    (n : Nat) (hb : bytes * n ≤ 281474976710656) (hn : n ≤ 9223372036854775807) (w : World) :
    (Instr.makeSlice t (.int .i64 (n : Int)) (.int .i64 (n : Int))).run P w = .ok (.slice (some ⟨w.heap.size, 0, none⟩) n n) (w.alloc (.cells (madeCells z.cells (n * s)) e)) := by
  obtain ⟨i, hi, hzz⟩ := Option.map_eq_some_iff.1 hinfo
  simp only [Prod.mk.injEq] at hzz
  obtain ⟨hz, hs, hby⟩ := hzz
  have hb' : (i.bytes : Int) * (n : Int) ≤ 281474976710656 := by
    rw [hby, ← Int.natCast_mul]; omega
  have hr := run_make (P := P) w t e i z ht hi hz .i64 .i64 n n (by omega) (Int.le_refl _) hb' (by omega)
  simpa only [Int.toNat_natCast, hs] using hr

/-- The cells of a list of places. -/
def pc (x y : Nat → Nat) (i : Nat) : Value := .float .f32 (if i % 2 = 0 then x (i / 2) else y (i / 2))
/-- Of a list of places those of k. -/
def pcs (x y : Nat → Nat) (k i : Nat) : Value := if i < k * 2 then pc x y i else .float .f32 0
/-- A block that is a list of places. -/
def PlBlk (w : World) (b n : Nat) (x y : Nat → Nat) : Prop := w.rowIs b 75 (n * 2) (pc x y)
theorem PlBlk.cells {w : World} {b n : Nat} {x y X Y : Nat → Nat} (h : PlBlk w b n x y) (hx : ∀ j, j < n → cn .f32 (x j) = X j) (hy : ∀ j, j < n → cn .f32 (y j) = Y j) : PlCells w b n X Y := fun j hj => by
  have h0 := h.cell (i := j * 2) (by omega)
  have h1 := h.cell (i := j * 2 + 1) (by omega)
  refine ⟨x j, y j, ?_, ?_, hx j hj, hy j hj⟩
  · rw [h0]; simp [pc]
  · rw [h1]; unfold pc; rw [if_neg (by omega), show (j * 2 + 1) / 2 = j by omega]
theorem rowIs_below {w w' : World} {B b : Nat} {t : TypeId} {n : Nat} {f : Nat → Value} (h : w.rowIs b t n f) (hb : Below B w w') (hlt : b < B) : w'.rowIs b t n f := h.of_block (hb.block b hlt)
theorem made2 (w : World) (n : Nat) (z : Value) (t : TypeId) : (w.alloc (.cells (madeCells #[z, z] (n * 2)) t)).rowIs w.heap.size t (n * 2) (fun _ => z) :=
  ⟨_, heap_alloc_new _ _, size_madeCells _ _, fun i hi => by
    have hm : i % 2 < 2 := Nat.mod_lt _ (by decide)
    simp only [madeCells, Array.getElem?_map, Array.getElem?_range, hi, if_true, Option.map_some]
    rcases Nat.mod_two_eq_zero_or_one i with h | h <;> simp [h]⟩
theorem pcs_step {x y : Nat → Nat} {k i : Nat} : pcs x y (k + 1) i = if i = k * 2 + 1 then .float .f32 (y k) else if i = k * 2 then .float .f32 (x k) else pcs x y k i := by
  unfold pcs pc
  by_cases h1 : i = k * 2 + 1
  · subst h1
    rw [if_pos (by omega), if_pos rfl, if_neg (by omega), show (k * 2 + 1) / 2 = k by omega]
  · by_cases h0 : i = k * 2
    · subst h0
      rw [if_pos (by omega), if_neg h1, if_pos rfl, if_pos (by omega), show k * 2 / 2 = k by omega]
    · rw [if_neg h1, if_neg h0]
      by_cases h : i < k * 2
      · rw [if_pos (by omega), if_pos h]
      · rw [if_neg (by omega), if_neg h]

theorem block_add (a : Addr) (n : Nat) : (a.add n).block = a.block := by unfold Addr.add; split <;> rfl
theorem add_one_eq (a : Addr) (n : Nat) : (⟨(a.add n).block, (a.add n).off + 1, none⟩ : Addr) = a.add (n + 1) := by
  rw [← Go.Deep.add_add]
  rfl
/-- What an argument reads as. -/
def PlArg (w : World) (A : Option Addr) (n : Nat) (x y : Nat → Nat) : Prop := ∀ j, j < n → ∃ a, A = some a ∧ a.block < w.heap.size ∧ w.cell? (a.add (j * 2)) = some (.float .f32 (x j)) ∧ w.cell? (a.add (j * 2 + 1)) = some (.float .f32 (y j))

set_option maxHeartbeats 1000000 in
theorem toPlaceS_c (A : Option Addr) (n cap : Nat) (x y : Nat → Nat) (w : World) (hn : n ≤ 1048576) (hA : PlArg w A n x y) :
    Calls Try.prog 18 #[.slice A n cap] w fun e w' => ∃ b, e = .returned (.slice (some ⟨b, 0, none⟩) n n) ∧ w.heap.size ≤ b ∧ PlBlk w' b n x y ∧ Below w.heap.size w w' := by
  have hmk := make_rows (P := Try.prog) 28 75 (.agg #[.float .f32 0, .float .f32 0]) 2 8 (by kernel_rfl) (by kernel_rfl) n (by omega) (by omega)
  have hcz : (Value.agg #[.float .f32 0, .float .f32 0]).cells = #[.float .f32 0, .float .f32 0] := rfl
  rw [hcz] at hmk
  clear hcz
  go_enter Try.func18, Try.ntmps18
  go_wp2
  go_loopw [4] (fun k wr => ∃ m : Nat, m ≤ n ∧ k = .int .i64 m ∧ wr.rowIs w.heap.size 75 (n * 2) (pcs x y m) ∧ Below w.heap.size w wr) (fun k _ => n - (intOf k).toNat)
  case atStart => exact ⟨0, by omega, rfl, (made2 w n _ _).congr (fun i _ => by simp [pcs]), by (with_reducible repeat (first | exact Below.refl _ _ | apply below_alloc | apply below_dN | apply below_d | refine below_setCell ?_ (by dsimp only; omega) | refine below_call (by assumption) ?_))⟩
  case round =>
    obtain ⟨m, hm, rfl, hrow, hB⟩ := hrel
    clear hmk
    by_cases hlt : m < n
    · obtain ⟨a, rfl, ha, h0, h1⟩ := hA m hlt
      have g0 : wr.cell? (a.add (m * 2)) = some (.float .f32 (x m)) := by rw [hB.cell (p := a.add (m * 2)) (by rw [block_add]; exact ha)]; exact h0
      have g1 : wr.cell? ⟨(a.add (m * 2)).block, (a.add (m * 2)).off + 1, none⟩ = some (.float .f32 (y m)) := by
        rw [add_one_eq, hB.cell (p := a.add (m * 2 + 1)) (by rw [block_add]; exact ha)]; exact h1
      have HA := Lib.hid hA
      clear hA h0 h1
      have c0 := hrow.cell (i := m * 2) (by omega)
      have c1 := hrow.cell (i := m * 2 + 1) (by omega)
      have f0 := hrow.frozen (m * 2)
      have f1 := hrow.frozen (m * 2 + 1)
      have hl := hrow.lt
      go_wp2_with (go_at_call 52; ((with_reducible refine (toPlace_any _ _ _).mono ?_); rintro e w1 ⟨rfl, hb⟩); obtain ⟨hc, hfz⟩ := bcell hb)
      go_roundw
      case rel => exact ⟨m + 1, by omega, by go_num, (((rowIs_below hrow hb hl).set (m * 2) _).set (m * 2 + 1) _).congr (fun i _ => by rw [pcs_step]), by (with_reducible repeat (first | exact Below.refl _ _ | apply below_alloc | apply below_dN | apply below_d | refine below_setCell ?_ (by dsimp only; omega) | refine below_call (by assumption) ?_))⟩
      case measure => first | (simp [intOf]; done) | (simp [intOf]; omega)
    · obtain rfl : m = n := by omega
      go_wp2
      go_ret
      exact ⟨w.heap.size, rfl, Nat.le_refl _, hrow.congr (fun i hi => by unfold pcs; rw [if_pos hi]), by (with_reducible repeat (first | exact Below.refl _ _ | apply below_alloc | apply below_dN | apply below_d | refine below_setCell ?_ (by dsimp only; omega) | refine below_call (by assumption) ?_))⟩

set_option maxHeartbeats 400000 in
theorem szPlaceS_c (A : Option Addr) (n cap : Nat) (left : Int) (hl : 0 ≤ left) (hl2 : left ≤ 1048576) (hn : n ≤ 9223372036854775807) (w : World) :
    Calls Try.prog 15 #[.slice A n cap, .int .i64 left] w fun e w' => e = .returned (.int .i64 (if left < n then -1 else left - n)) ∧ w = w' := by
  by_cases h : left < n
  · rw [if_pos h]
    have h1 : left - (n : Int) < 0 := by omega
    have h2 : -9223372036854775808 ≤ left - (n : Int) := by omega
    go_enter Try.func15, Try.ntmps15
    go_wp2
    go_ret
    exact ⟨rfl, rfl⟩
  · rw [if_neg h]
    have h1 : ¬ left - (n : Int) < 0 := by omega
    have h2 : 0 ≤ left - (n : Int) := by omega
    go_enter Try.func15, Try.ntmps15
    go_wp2
    go_ret
    exact ⟨rfl, rfl⟩

set_option maxHeartbeats 1000000 in
theorem eqPlaceS_c (b b' n cap cap' : Nat) (X Y : Nat → Nat) (w : World) (hn : n ≤ 1048576) (hb : b < w.heap.size) (hb' : b' < w.heap.size) (h : PlCells w b n X Y) (h' : PlCells w b' n X Y) :
    Calls Try.prog 21 #[.slice (some ⟨b, 0, none⟩) n cap, .slice (some ⟨b', 0, none⟩) n cap'] w (Ret (RV (.bool true)) w) := by
  go_enter Try.func21, Try.ntmps21
  go_wp2
  go_loopw [5] (fun k wr => ∃ m : Nat, m ≤ n ∧ k = .int .i64 m ∧ Below w.heap.size w wr) (fun k _ => n - (intOf k).toNat)
  case atStart => exact ⟨0, by omega, rfl, by (with_reducible repeat (first | exact Below.refl _ _ | apply below_alloc | apply below_dN | apply below_d | refine below_setCell ?_ (by dsimp only; omega) | refine below_call (by assumption) ?_))⟩
  case round =>
    obtain ⟨m, hm, rfl, hB⟩ := hrel
    by_cases hlt : m < n
    · obtain ⟨r, s, h0, h1, h2, h3⟩ := h m hlt
      obtain ⟨r', s', h0', h1', h2', h3'⟩ := h' m hlt
      rw [← hB.cell (p := ⟨b, m * 2, none⟩) hb] at h0
      rw [← hB.cell (p := ⟨b, m * 2 + 1, none⟩) hb] at h1
      rw [← hB.cell (p := ⟨b', m * 2, none⟩) hb'] at h0'
      rw [← hB.cell (p := ⟨b', m * 2 + 1, none⟩) hb'] at h1'
      have HH := Lib.hid h
      have HH' := Lib.hid h'
      have hbw : b < wr.heap.size := Nat.lt_of_lt_of_le hb hB.size
      have hbw' : b' < wr.heap.size := Nat.lt_of_lt_of_le hb' hB.size
      obtain ⟨U, hU⟩ : ∃ U, X m = U := ⟨_, rfl⟩
      obtain ⟨V, hV⟩ : ∃ V, Y m = V := ⟨_, rfl⟩
      rw [hU] at h2 h2'
      rw [hV] at h3 h3'
      clear h h' hU hV
      go_wp2
      (apply region_looseK (k := 10); (kernel_rfl); (kernel_rfl); intro opsL KL hopsL hKL; (dsimp only [List.take]))
      iterate 8 (apply rel_val; (rfl); (intro wq hbq; have hcq := (bcell hbq).1; (go_simp; first | done | rfl | exact ⟨rfl, rfl⟩)); (try go_simp))
      (apply rel_call (RV (.bool true)); (rfl); (intro wq hbq; (go_simp; first | done | rfl | exact ⟨rfl, rfl⟩)); (intro wq hbq; exact eqPlace_c _ _ _ _ _ _ h2 h3 h2' h3' _); (try go_simp))
      rintro v rfl
      (apply rel_val; (rfl); (intro wq hbq; have hcq := (bcell hbq).1; (go_simp; first | done | rfl | exact ⟨rfl, rfl⟩)); (try go_simp))
      (refine wpRel_nil ?_; refine hKL _ _ ?_; clear hKL hopsL opsL KL; intro w1 hb hnews; obtain ⟨hc, hfz⟩ := bcell hb; (try simp only [World.heap_drewN] at hc hfz); have hz := hb.size; (dsimp only [List.drop]))
      go_wp2
      go_roundw
      case rel => exact ⟨m + 1, by omega, by go_num, by (with_reducible repeat (first | exact Below.refl _ _ | apply below_alloc | apply below_dN | apply below_d | refine below_setCell ?_ (by dsimp only; omega) | refine below_call (by assumption) ?_))⟩
      case measure => first | (simp [intOf]; done) | (simp [intOf]; omega)
    · obtain rfl : m = n := by omega
      go_wp2
      go_ret
      exact ⟨⟨_, rfl, rfl⟩, by (with_reducible repeat (first | exact Below.refl _ _ | apply below_alloc | apply below_dN | apply below_d | refine below_setCell ?_ (by dsimp only; omega) | refine below_call (by assumption) ?_))⟩

/-- Whether a list are places. -/
def arePl (n : Nat) (X Y : Nat → Nat) : Bool := allP X Y n && (decide (1 ≤ n) && decide (n ≤ 64))
set_option maxHeartbeats 1000000 in
theorem l02Are_c (b n cap : Nat) (X Y : Nat → Nat) (w : World) (hn : n ≤ 1048576) (h : PlCells w b n X Y) :
    Calls Try.prog 73 #[.slice (some ⟨b, 0, none⟩) n cap] w fun e w' => e = .returned (.bool (arePl n X Y)) ∧ w = w' := by
  go_enter Try.func73, Try.ntmps73
  go_wp2
  go_loop [3] (fun k => ∃ m : Nat, m ≤ n ∧ k = .int .i64 m ∧ ∀ j, j < m → vplace (X j) (Y j) = true) (fun k => n - (intOf k).toNat)
  case atStart => exact ⟨0, by omega, rfl, by omega⟩
  case round =>
    obtain ⟨m, hm, rfl, hall⟩ := hrel
    have HA := Lib.hid hall
    clear hall
    by_cases hlt : m < n
    · obtain ⟨r, s, h0, h1, h2, h3⟩ := h m hlt
      have HH := Lib.hid h
      clear h
      cases c : vplace (X m) (Y m)
      · have HV : arePl n X Y = false := by unfold arePl; rw [allP_false hlt c]; rfl
        have HV2 := Lib.hid HV
        clear HV
        go_wp2_with (go_at_call 83; refine (l02Is_c r s b (m * 2) _ _ h2 h3 _ h0 h1).mono ?_; rintro e w' ⟨rfl, rfl⟩)
        go_ret
        exact ⟨by rw [HV2.out]; rfl, rfl⟩
      · go_wp2_with (go_at_call 83; refine (l02Is_c r s b (m * 2) _ _ h2 h3 _ h0 h1).mono ?_; rintro e w' ⟨rfl, rfl⟩)
        go_round
        case rel => exact ⟨m + 1, by omega, by go_num, fun j hj => by
          by_cases h : j < m
          · exact HA.out j h
          · obtain rfl : j = m := by omega
            exact c⟩
        case measure => first | (simp [intOf]; done) | (simp [intOf]; omega)
    · obtain rfl : m = n := by omega
      have HV : arePl m X Y = (decide (1 ≤ m) && decide (m ≤ 64)) := by unfold arePl; rw [allP_true HA.out]; rfl
      have HV2 := Lib.hid HV
      clear h HA HV
      by_cases c1 : (1 : Int) ≤ (m : Int) <;> by_cases c2 : (m : Int) ≤ 64 <;>
      (have d1 : decide (1 ≤ m) = decide ((1 : Int) ≤ (m : Int)) := by rw [Bool.eq_iff_iff]; simp; omega
       have d2 : decide (m ≤ 64) = decide ((m : Int) ≤ 64) := by rw [Bool.eq_iff_iff]; simp; omega
       rw [d1, d2] at HV2
       clear d1 d2
       go_wp2
       go_ret
       exact ⟨by rw [HV2.out]; simp [c1, c2], rfl⟩)

set_option maxHeartbeats 1000000 in
theorem iArePlaces_c (b n cap : Nat) (X Y : Nat → Nat) (w : World) (hb : b < w.heap.size) (hn : n ≤ 1048576) (h : PlCells w b n X Y) :
    Calls Try.prog 48 #[.slice (some ⟨b, 0, none⟩) n cap] w (Ret (RV (.bool (arePl n X Y))) w) := by
  have HV := Lib.hid (areValid_c b n cap X Y w hb (by omega) h)
  have hl : ∀ w : World, Calls Try.prog 47 #[.slice (some ⟨b, 0, none⟩) n cap] w fun e w' => e = .returned (.int .i64 n) ∧ w = w' := fun w => by
    go_enter Try.func47, Try.ntmps47
    go_wp2
    go_ret
    exact ⟨rfl, rfl⟩
  have HL := Lib.hid hl
  clear h hl
  have d1 : decide (1 ≤ n) = decide ((1 : Int) ≤ (n : Int)) := by rw [Bool.eq_iff_iff]; simp; omega
  have d2 : decide (n ≤ 64) = decide ((n : Int) ≤ 64) := by rw [Bool.eq_iff_iff]; simp; omega
  unfold arePl
  rw [d1, d2]
  clear d1 d2
  by_cases c1 : (1 : Int) ≤ (n : Int) <;> by_cases c2 : (n : Int) ≤ 64 <;>
  (go_enter Try.func48, Try.ntmps48
   go_wp2_with (first | (go_at_call 47; refine (HL.out _).mono ?_; rintro e w' ⟨rfl, rfl⟩) | (go_at_call 51; refine (within_c _ _ _ _).mono ?_; rintro e w' ⟨rfl, rfl⟩) | (go_at_call 74; ((with_reducible refine (HV.out).mono ?_); rintro e w1 ⟨⟨v, rfl, rfl⟩, hb⟩)))
   all_goals (go_ret; exact ⟨⟨_, rfl, by simp [RV, c1, c2]⟩, by (with_reducible repeat (first | exact Below.refl _ _ | apply below_alloc | apply below_dN | apply below_d | refine below_setCell ?_ (by dsimp only; omega) | refine below_call (by assumption) ?_))⟩))
def canon (x : Nat → Nat) (j : Nat) : Nat := cn .f32 (x j)
theorem PlBlk.canon {w : World} {b n : Nat} {x y : Nat → Nat} (h : PlBlk w b n x y) : PlCells w b n (canon x) (canon y) := h.cells (fun _ _ => rfl) (fun _ _ => rfl)
theorem PlBlk.below {w w' : World} {B b n : Nat} {x y : Nat → Nat} (h : PlBlk w b n x y) (hb : Below B w w') (hlt : b < B) : PlBlk w' b n x y := rowIs_below h hb hlt
theorem PlArg.below {w w' : World} {A : Option Addr} {n : Nat} {x y : Nat → Nat} (h : PlArg w A n x y) (hb : Below w.heap.size w w') : PlArg w' A n x y := fun j hj => by
  obtain ⟨a, e, h0, h1, h2⟩ := h j hj
  exact ⟨a, e, Nat.lt_of_lt_of_le h0 hb.size, by rw [hb.cell (p := a.add (j * 2)) (by rw [block_add]; exact h0)]; exact h1, by rw [hb.cell (p := a.add (j * 2 + 1)) (by rw [block_add]; exact h0)]; exact h2⟩

end Go.Proofs.Ytpmeccjfjjklkaa
