/- Grids: made, counted, held against each other, marked, and whether they are valid. No condition. -/
import Derived.Test.YtpajakindpbepaaInn
import Derived.Test.YtpajakindpbepaaGI
import Derived.Deep.SlicePairs
namespace Go.Proofs.Ytpajakindpbepaa
open Go.RowKit
set_option linter.unusedSimpArgs false
theorem feq_self (k : FloatKind) (x : Nat) : feq k x x = !nanB k x := by
  unfold feq nanB Ieee.Format.order
  cases e : k.format.read x with
  | nan s f => rfl
  | infinity s => cases s <;> rfl
  | number s m p => simp [Ieee.Datum.order, Ieee.Datum.isNaN]
theorem block_add (a : Addr) (n : Nat) : (a.add n).block = a.block := by unfold Addr.add; split <;> rfl
theorem add_one_eq (a : Addr) (n : Nat) : (⟨(a.add n).block, (a.add n).off + 1, none⟩ : Addr) = a.add (n + 1) := by
  rw [← Go.Deep.add_add]
  rfl
theorem rowIs_below {w w' : World} {B b : Nat} {t : TypeId} {n : Nat} {f : Nat → Value} (h : w.rowIs b t n f) (hb : Below B w w') (hlt : b < B) : w'.rowIs b t n f := h.of_block (hb.block b hlt)
theorem make_rows {P : Program} (t e : TypeId) (z : Value) (s bytes : Nat) (ht : P.underlying t = some (.slice e)) (hinfo : (P.info? e).map (fun i => (i.zero, i.size, i.bytes)) = some (some z, s, bytes))
    (n : Nat) (hb : bytes * n ≤ 281474976710656) (hn : n ≤ 9223372036854775807) (w : World) :
    (Instr.makeSlice t (.int .i64 (n : Int)) (.int .i64 (n : Int))).run P w = .ok (.slice (some ⟨w.heap.size, 0, none⟩) n n) (w.alloc (.cells (madeCells z.cells (n * s)) e)) := by
  obtain ⟨i, hi, hzz⟩ := Option.map_eq_some_iff.1 hinfo
  simp only [Prod.mk.injEq] at hzz
  obtain ⟨hz, hs, hby⟩ := hzz
  have hb' : (i.bytes : Int) * (n : Int) ≤ 281474976710656 := by
    rw [hby, ← Int.natCast_mul]; omega
  have hr := run_make (P := P) w t e i z ht hi hz .i64 .i64 n n (by omega) (Int.le_refl _) hb' (by omega)
  simpa only [Int.toNat_natCast, hs] using hr
theorem made1w (w : World) (n : Nat) (z : Value) (t : TypeId) : (w.alloc (.cells (madeCells #[z] n) t)).rowIs w.heap.size t n (fun _ => z) :=
  ⟨_, heap_alloc_new _ _, size_madeCells _ _, fun i hi => by
    simp only [madeCells, Array.getElem?_map, Array.getElem?_range, hi, if_true, Option.map_some]
    simp [Nat.mod_one]⟩
/-- A conversion to the wider kind, in a region of open order. -/
theorem rel_fconv {P : Program} {ops : Array Oper} {l : List Oper} {o : Oper} {a : Act} {w0 : World} {Q : Act → List New → Prop} {S : List Item'} {acc : List New} (src dst : TypeId) (X : Operand) (ho : o.op = .convert src dst X) (hg : o.guard = none) (k k' : FloatKind) (x x' : Nat) (hX : a.eval X = .float k x) (hk : k ≠ k') (hs : P.underlying src = some (.float k)) (hd : P.underlying dst = some (.float k')) (hx : cn k x = x') (hf : fits k k' x')
    (h2 : ∀ r, cn k' r = fcv k k' x' → okf k' r → wpRel P ops w0 Q l S (a.put o.dst (.float k' r)) acc) :
    wpRel P ops w0 Q (o :: l) ((none, RF k' (fcv k k' x')) :: S) a acc :=
  rel_step _ hg (fun w _ => by
    obtain ⟨r, n, e, hr⟩ := run_fconv (P := P) src dst k k' hk hs hd x w
    rw [hx] at hr
    have : (execOp a.eval o).run P w = .ok (.value (.float k' r)) (w.drewN n) := by
      unfold execOp
      rw [ho]
      simp only [hX, Sem.run_bind, Sem.run_pure, Result.andThen_ok, e]
    rw [this]
    exact ⟨below_dN (Below.refl _ _), r, rfl, (hr hf).1, okf_of (hr hf).2⟩) fun v ⟨r, e, hr, hw⟩ => by subst e; exact h2 r hr hw
/-- What an argument reads as. -/
def FlArg (w : World) (A : Option Addr) (n : Nat) (x : Nat → Nat) : Prop := ∀ j, j < n → ∃ a, A = some a ∧ a.block < w.heap.size ∧ w.cell? (a.add j) = some (.float .f32 (x j))
theorem FlArg.below {w w' : World} {A : Option Addr} {n : Nat} {x : Nat → Nat} (h : FlArg w A n x) (hb : Below w.heap.size w w') : FlArg w' A n x := fun j hj => by
  obtain ⟨a, e, h0, h1⟩ := h j hj
  exact ⟨a, e, Nat.lt_of_lt_of_le h0 hb.size, (hb.cell (p := a.add j) (by rw [block_add]; exact h0)).trans h1⟩
/-- A row of numbers. -/
def FlBlk (w : World) (b n : Nat) (x : Nat → Nat) : Prop := w.rowIs b 25 n (fun i => .float .f32 (x i))
def FlCells (w : World) (b n : Nat) (X : Nat → Nat) : Prop := ∀ j, j < n → ∃ r, w.cell? ⟨b, j, none⟩ = some (.float .f32 r) ∧ cn .f32 r = X j
def canon (x : Nat → Nat) (j : Nat) : Nat := cn .f32 (x j)
theorem FlBlk.canon {w : World} {b n : Nat} {x : Nat → Nat} (h : FlBlk w b n x) : FlCells w b n (canon x) := fun _ hj => ⟨_, World.rowIs.cell h hj, rfl⟩
theorem FlBlk.lt {w : World} {b n : Nat} {x : Nat → Nat} (h : FlBlk w b n x) : b < w.heap.size := World.rowIs.lt h
theorem FlBlk.dn {w w' : World} {b n : Nat} {x : Nat → Nat} (h : FlBlk w b n x) (hb : Below w.heap.size w w') : FlBlk w' b n x := rowIs_below h hb (World.rowIs.lt h)
theorem FlBlk.other {w : World} {b n : Nat} {x : Nat → Nat} (h : FlBlk w b n x) {c i : Nat} (hne : b ≠ c) (z : Value) : FlBlk (w.setCell ⟨c, i, none⟩ z) b n x := World.rowIs.setOther h (a := ⟨c, i, none⟩) hne z
theorem FlCells.dn {w w' : World} {b n : Nat} {X : Nat → Nat} (h : FlCells w b n X) (hl : b < w.heap.size) (hb : Below w.heap.size w w') : FlCells w' b n X := fun j hj => by
  obtain ⟨r, h1, h2⟩ := h j hj
  exact ⟨r, (hb.cell (p := ⟨b, j, none⟩) hl).trans h1, h2⟩
def fls (x : Nat → Nat) (k i : Nat) : Value := if i < k then .float .f32 (x i) else .float .f32 0
theorem fls_step {x : Nat → Nat} {k i : Nat} : fls x (k + 1) i = if i = k then .float .f32 (x k) else fls x k i := by
  unfold fls
  by_cases e : i = k
  · subst e; rw [if_pos (by omega), if_pos rfl]
  · rw [if_neg e]
    by_cases e2 : i < k
    · rw [if_pos e2, if_pos (by omega)]
    · rw [if_neg e2, if_neg (by omega)]
set_option maxRecDepth 100000 in
set_option maxHeartbeats 1000000 in
theorem toF32S_c (A : Option Addr) (n cap : Nat) (x : Nat → Nat) (w : World) (hn : n ≤ 1048576) (hA : FlArg w A n x) :
    Calls Try.prog 53 #[.slice A n cap] w fun e w' => ∃ b, e = .returned (.slice (some ⟨b, 0, none⟩) n n) ∧ w.heap.size ≤ b ∧ FlBlk w' b n x ∧ Below w.heap.size w w' := by
  have hmk := make_rows (P := Try.prog) 22 25 (.float .f32 0) 1 4 (by kernel_rfl) (by kernel_rfl) n (by omega) (by omega)
  have hcz : (Value.float .f32 0).cells = #[.float .f32 0] := rfl
  rw [hcz, Nat.mul_one] at hmk
  clear hcz
  go_enter Try.func53, Try.ntmps53
  go_wp2
  go_loopw [4] (fun k wr => ∃ m : Nat, m ≤ n ∧ k = .int .i64 m ∧ wr.rowIs w.heap.size 25 n (fls x m) ∧ Below w.heap.size w wr) (fun k _ => n - (intOf k).toNat)
  case atStart => exact ⟨0, by omega, rfl, (made1w w n _ _).congr (fun i _ => by simp [fls]), by (with_reducible repeat (first | exact Below.refl _ _ | apply below_alloc | apply below_dN | apply below_d | refine below_setCell ?_ (by dsimp only; omega) | refine below_call (by assumption) ?_))⟩
  case round =>
    obtain ⟨m, hm, rfl, hrow, hB⟩ := hrel
    clear hmk
    by_cases hlt : m < n
    · obtain ⟨a, rfl, ha, h0⟩ := hA m hlt
      have g0 : wr.cell? (a.add m) = some (.float .f32 (x m)) := by rw [hB.cell (p := a.add m) (by rw [block_add]; exact ha)]; exact h0
      have HA := Lib.hid hA
      clear hA h0
      have c0 := hrow.cell (i := m) hlt
      have f0 := hrow.frozen m
      have hl := hrow.lt
      have HR := Lib.hid hrow
      have HB := Lib.hid hB
      clear hrow hB
      go_wp2
      go_roundw
      case rel => exact ⟨m + 1, by omega, by go_num, (HR.out.set m _).congr (fun i _ => by rw [fls_step]), HB.out.setCell (p := ⟨w.heap.size, m, none⟩) (Nat.le_refl _) _⟩
      case measure => first | (simp [intOf]; done) | (simp [intOf]; omega)
    · obtain rfl : m = n := by omega
      have HR := Lib.hid hrow
      have HB := Lib.hid hB
      clear hrow hB
      go_wp2
      go_ret
      exact ⟨w.heap.size, rfl, Nat.le_refl _, HR.out.congr (fun i hi => by unfold fls; rw [if_pos hi]), HB.out⟩
set_option maxHeartbeats 400000 in
theorem sameFloat_c (a b A : Nat) (ha : cn .f64 a = A) (hb : cn .f64 b = A) (w : World) : Calls Try.prog 98 #[.float .f64 a, .float .f64 b] w (Ret (RV (.bool true)) w) := by
  have hs := feq_self .f64 A
  cases c1 : nanB .f64 A <;> cases c2 : feq .f64 A 0 <;> cases c3 : fgt .f64 (fop .quo .f64 4607182418800017408 A) 0 <;> rw [c1] at hs <;>
  (go_enter Try.func98, Try.ntmps98
   go_wp2_with (first | (refine wpL_farith rfl _ _ _ _ _ rfl rfl _ _ _ rfl rfl ?_; intro r n hr hw))
   go_ret
   exact ⟨⟨_, rfl, rfl⟩, by (with_reducible repeat (first | exact Below.refl _ _ | apply below_alloc | apply below_dN | apply below_d | refine below_setCell ?_ (by dsimp only; omega) | refine below_call (by assumption) ?_))⟩)
def Keep1 (g : Nat) (w w' : World) : Prop := ∀ b, b < w.heap.size → b ≠ g → w'.heap[b]? = w.heap[b]?
theorem Keep1.refl (g : Nat) (w : World) : Keep1 g w w := fun _ _ _ => rfl
theorem Keep1.set {g i : Nat} {w w' : World} (h : Keep1 g w w') (z : Value) : Keep1 g w (w'.setCell ⟨g, i, none⟩ z) := fun b hb hne => (Below.heap_setCell _ _ _ _ hne).trans (h b hb hne)
set_option maxRecDepth 100000 in
set_option maxHeartbeats 1000000 in
theorem markF32S_c (lo g n k : Nat) (F : Nat → Value) (w : World) (hlo : lo ≤ g) (hn : n ≤ 1048576) (hk : k ≤ 8388608) (hrow : w.rowIs g 25 n F) :
    Calls Try.prog 61 #[.slice (some ⟨g, 0, none⟩) n n, .int .i64 k] w fun e w' => e = .returned (.int .i64 ((k : Int) + (n : Int))) ∧ Below lo w w' ∧ Keep1 g w w' := by
  go_enter Try.func61, Try.ntmps61
  go_wp2
  go_loopw [1, 5] (fun kk i wr => ∃ m : Nat, ∃ f, m ≤ n ∧ kk = .int .i64 ((k : Int) + (m : Int)) ∧ i = .int .i64 m ∧ wr.rowIs g 25 n f ∧ Below lo w wr ∧ Keep1 g w wr) (fun _ i _ => n - (intOf i).toNat)
  case atStart => exact ⟨0, F, by omega, by simp, rfl, hrow, Below.refl _ _, Keep1.refl _ _⟩
  case round =>
    obtain ⟨m, f, hm, rfl, rfl, hr, hB, hK⟩ := hrel
    by_cases hlt : m < n
    · have HB := Lib.hid hB
      have HK := Lib.hid hK
      have hl := hr.lt
      have c0 := hr.cell (i := m) (by omega)
      have f0 := hr.frozen m
      have HR := Lib.hid hr
      clear hr hB hK
      go_wp2
      go_roundw
      case rel => exact ⟨m + 1, _, by omega, by go_num, by go_num, HR.out.set m _, HB.out.setCell (p := ⟨g, m, none⟩) hlo _, HK.out.set _⟩
      case measure => first | (simp [intOf]; done) | (simp [intOf]; omega)
    · obtain rfl : m = n := by omega
      have HB := Lib.hid hB
      have HK := Lib.hid hK
      clear hr hB hK
      go_wp2
      go_ret
      exact ⟨rfl, HB.out, HK.out⟩
set_option maxHeartbeats 400000 in
theorem szGrid_c (W H : Int) (A : Option Addr) (n cap : Nat) (hn : n ≤ 9223372036854775807) (w : World) :
    Calls Try.prog 11 #[.agg #[.int .i64 W, .int .i64 H, .slice A n cap], .int .i64 1048576] w fun e w' => e = .returned (.int .i64 (if n ≤ 1048576 then 1048576 - (n : Int) else -1)) ∧ Below w.heap.size w w' := by
  by_cases h : n ≤ 1048576
  · rw [if_pos h]
    have h1 : ¬ (1048576 - (n : Int) < 0) := by omega
    have HS : ∀ w', Calls Try.prog 48 #[.slice A n cap, .int .i64 1048576] w' fun e w'' => e = .returned (.int .i64 (1048576 - (n : Int))) ∧ w' = w'' := fun w' => by
      go_enter Try.func48, Try.ntmps48
      go_wp2
      go_ret
      exact ⟨rfl, rfl⟩
    have HS := Lib.hid HS
    go_enter Try.func11, Try.ntmps11
    go_wp2_with (go_at_call 48; (with_reducible refine (HS.out _).mono ?_); rintro e w1 ⟨rfl, rfl⟩)
    go_ret
    exact ⟨rfl, by (with_reducible repeat (first | exact Below.refl _ _ | apply below_alloc | apply below_dN | apply below_d | refine below_setCell ?_ (by dsimp only; omega) | refine below_call (by assumption) ?_))⟩
  · rw [if_neg h]
    have h1 : 1048576 - (n : Int) < 0 := by omega
    have h2 : -9223372036854775808 ≤ 1048576 - (n : Int) := by omega
    have HS : ∀ w', Calls Try.prog 48 #[.slice A n cap, .int .i64 1048576] w' fun e w'' => e = .returned (.int .i64 (-1)) ∧ w' = w'' := fun w' => by
      go_enter Try.func48, Try.ntmps48
      go_wp2
      go_ret
      exact ⟨rfl, rfl⟩
    have HS := Lib.hid HS
    go_enter Try.func11, Try.ntmps11
    go_wp2_with (go_at_call 48; (with_reducible refine (HS.out _).mono ?_); rintro e w1 ⟨rfl, rfl⟩)
    go_ret
    exact ⟨rfl, by (with_reducible repeat (first | exact Below.refl _ _ | apply below_alloc | apply below_dN | apply below_d | refine below_setCell ?_ (by dsimp only; omega) | refine below_call (by assumption) ?_))⟩
set_option maxRecDepth 100000 in
set_option maxHeartbeats 1000000 in
theorem eqF32S_c (b b' n cap cap' : Nat) (X : Nat → Nat) (w : World) (hn : n ≤ 1048576) (hb : b < w.heap.size) (hb' : b' < w.heap.size) (h : FlCells w b n X) (h' : FlCells w b' n X) :
    Calls Try.prog 60 #[.slice (some ⟨b, 0, none⟩) n cap, .slice (some ⟨b', 0, none⟩) n cap'] w (Ret (RV (.bool true)) w) := by
  go_enter Try.func60, Try.ntmps60
  go_wp2
  go_loopw [5] (fun k wr => ∃ m : Nat, m ≤ n ∧ k = .int .i64 m ∧ Below w.heap.size w wr) (fun k _ => n - (intOf k).toNat)
  case atStart => exact ⟨0, by omega, rfl, by (with_reducible repeat (first | exact Below.refl _ _ | apply below_alloc | apply below_dN | apply below_d | refine below_setCell ?_ (by dsimp only; omega) | refine below_call (by assumption) ?_))⟩
  case round =>
    obtain ⟨m, hm, rfl, hB⟩ := hrel
    by_cases hlt : m < n
    · obtain ⟨r, h0, h1⟩ := h m hlt
      obtain ⟨r', h0', h1'⟩ := h' m hlt
      rw [← hB.cell (p := ⟨b, m, none⟩) hb] at h0
      rw [← hB.cell (p := ⟨b', m, none⟩) hb'] at h0'
      have HH := Lib.hid h
      have HH' := Lib.hid h'
      have hbw : b < wr.heap.size := Nat.lt_of_lt_of_le hb hB.size
      have hbw' : b' < wr.heap.size := Nat.lt_of_lt_of_le hb' hB.size
      obtain ⟨U, hU⟩ : ∃ U, X m = U := ⟨_, rfl⟩
      rw [hU] at h1 h1'
      have HB := Lib.hid hB
      clear h h' hU hB
      go_wp2
      (apply region_looseK (k := 12); (kernel_rfl); (kernel_rfl); intro opsL KL hopsL hKL; (dsimp only [List.take]))
      iterate 4 (apply rel_val; (rfl); (intro wq hbq; have hcq := (bcell hbq).1; (go_simp; first | done | rfl | exact ⟨rfl, rfl⟩)); (try go_simp))
      (apply rel_fconv (k := .f32) (k' := .f64); (rfl); (rfl); (rfl); (decide); (exact Try.underlying25); (exact Try.underlying62); (assumption); (exact fits_wide _); intro r hr hw; (try go_simp))
      iterate 4 (apply rel_val; (rfl); (intro wq hbq; have hcq := (bcell hbq).1; (go_simp; first | done | rfl | exact ⟨rfl, rfl⟩)); (try go_simp))
      (apply rel_fconv (k := .f32) (k' := .f64); (rfl); (rfl); (rfl); (decide); (exact Try.underlying25); (exact Try.underlying62); (assumption); (exact fits_wide _); intro r hr hw; (try go_simp))
      (apply rel_call (RV (.bool true)); (rfl); (intro wq hbq; (go_simp; first | done | rfl | exact ⟨rfl, rfl⟩)); (intro wq hbq; exact sameFloat_c _ _ _ (by assumption) (by assumption) _); (try go_simp))
      rintro v rfl
      (apply rel_val; (rfl); (intro wq hbq; have hcq := (bcell hbq).1; (go_simp; first | done | rfl | exact ⟨rfl, rfl⟩)); (try go_simp))
      (refine wpRel_nil ?_; refine hKL _ _ ?_; clear hKL hopsL opsL KL; intro w1 hb hnews; obtain ⟨hc, hfz⟩ := bcell hb; (try simp only [World.heap_drewN] at hc hfz); have hz := hb.size; (dsimp only [List.drop]))
      go_wp2
      go_roundw
      case rel => exact ⟨m + 1, by omega, by go_num, HB.out.trans (hb.mono HB.out.size)⟩
      case measure => first | (simp [intOf]; done) | (simp [intOf]; omega)
    · obtain rfl : m = n := by omega
      have HB := Lib.hid hB
      clear hB
      go_wp2
      go_ret
      exact ⟨⟨_, rfl, rfl⟩, HB.out⟩
end Go.Proofs.Ytpajakindpbepaa
