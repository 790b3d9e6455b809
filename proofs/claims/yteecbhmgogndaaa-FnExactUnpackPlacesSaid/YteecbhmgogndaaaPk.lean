/- Contracts of places of steps, and of packed places, in both spellings. No condition. -/
import Derived.Test.YteecbhmgogndaaaTile
import Derived.Test.YteecbhmgogndaaaBits
import Derived.Test.YteecbhmgogndaaaLArePl
namespace Go.Proofs.Yteecbhmgogndaaa
open Go.RowKit
set_option linter.unusedSimpArgs false

/-- The number of a count of steps. -/
def psF (n : Int) : Nat := fop .quo .f32 (fofI .f32 n) 1266679808
def RPc (x y : Nat) (v : Value) : Prop := ∃ a b, v = .agg #[.float .f32 a, .float .f32 b] ∧ (cn .f32 a = x ∧ cn .f32 b = y) ∧ (Lit.float .f32 a).wf = true ∧ (Lit.float .f32 b).wf = true
def stepsIn (n e : Int) : Bool := (decide (-4194304 ≤ n) && decide (n ≤ 4194304)) && (decide (-8388608 ≤ e) && decide (e ≤ 8388607))
def posR (n e : Int) : Value → Prop := RP (RPc (if stepsIn n e then psF n else 0) (if stepsIn n e then psF e else 0)) (RV (.bool (stepsIn n e)))

set_option maxRecDepth 100000 in
set_option maxHeartbeats 1000000 in
theorem iPos_c' (n e : Int) (w : World) : Calls Try.prog 51 #[.int .i64 n, .int .i64 e] w (Ret (posR n e) w) := by
  unfold posR
  cases h1 : (decide (-4194304 ≤ n) && decide (n ≤ 4194304))
  · have HV := Lib.hid (show stepsIn n e = false by unfold stepsIn; rw [h1]; rfl)
    rw [HV.out]
    go_enter Try.func51, Try.ntmps51
    go_wp2_with (go_at_call 34; refine (within_c _ _ _ _).mono ?_; rintro e' w' ⟨rfl, rfl⟩)
    refine bodyPost_ret (v := .tuple #[.agg #[.float .f32 0, .float .f32 0], .bool false]) (by simp [results, Try.results51, go_sem, *] <;> (first | rfl | exact ⟨rfl, rfl⟩ | exact ⟨rfl, rfl, rfl⟩ | exact ⟨rfl, rfl, rfl, rfl⟩)) rfl ?_
    exact ⟨⟨_, rfl, _, _, rfl, ⟨0, 0, rfl, by simp, by decide, by decide⟩, rfl⟩, by (with_reducible repeat (first | exact Below.refl _ _ | apply below_alloc | apply below_dN | apply below_d | refine below_setCell ?_ (by dsimp only; omega) | refine below_call (by assumption) ?_))⟩
  · cases h2 : (decide (-8388608 ≤ e) && decide (e ≤ 8388607))
    · have HV := Lib.hid (show stepsIn n e = false by unfold stepsIn; rw [h1, h2]; rfl)
      rw [HV.out]
      go_enter Try.func51, Try.ntmps51
      go_wp2_with (go_at_call 34; refine (within_c _ _ _ _).mono ?_; rintro e' w' ⟨rfl, rfl⟩)
      refine bodyPost_ret (v := .tuple #[.agg #[.float .f32 0, .float .f32 0], .bool false]) (by simp [results, Try.results51, go_sem, *] <;> (first | rfl | exact ⟨rfl, rfl⟩ | exact ⟨rfl, rfl, rfl⟩ | exact ⟨rfl, rfl, rfl, rfl⟩)) rfl ?_
      exact ⟨⟨_, rfl, _, _, rfl, ⟨0, 0, rfl, by simp, by decide, by decide⟩, rfl⟩, by (with_reducible repeat (first | exact Below.refl _ _ | apply below_alloc | apply below_dN | apply below_d | refine below_setCell ?_ (by dsimp only; omega) | refine below_call (by assumption) ?_))⟩
    · have HV := Lib.hid (show stepsIn n e = true by unfold stepsIn; rw [h1, h2]; rfl)
      rw [HV.out]
      go_enter Try.func51, Try.ntmps51
      go_wp2_with (first | (go_at_call 34; refine (within_c _ _ _ _).mono ?_; rintro e' w' ⟨rfl, rfl⟩) | (refine wpL_farith rfl _ _ _ _ _ rfl rfl _ _ _ rfl rfl ?_; intro r n hr hw))
      refine bodyPost_ret (v := .tuple #[.agg #[.float .f32 _, .float .f32 _], .bool true]) (by simp [results, Try.results51, go_sem, *] <;> (first | rfl | exact ⟨rfl, rfl⟩ | exact ⟨rfl, rfl, rfl⟩ | exact ⟨rfl, rfl, rfl, rfl⟩)) rfl ?_
      exact ⟨⟨_, rfl, _, _, rfl, ⟨_, _, rfl, ⟨by simp [psF, *], by simp [psF, *]⟩, by assumption, by assumption⟩, rfl⟩, by (with_reducible repeat (first | exact Below.refl _ _ | apply below_alloc | apply below_dN | apply below_d | refine below_setCell ?_ (by dsimp only; omega) | refine below_call (by assumption) ?_))⟩

set_option maxRecDepth 100000 in
set_option maxHeartbeats 1000000 in
theorem sPos_c' (n e : Int) (w : World) : Calls Try.prog 59 #[.int .i64 n, .int .i64 e] w (Ret (posR n e) w) := by
  unfold posR
  cases h1 : (decide (-4194304 ≤ n) && decide (n ≤ 4194304))
  · have HV := Lib.hid (show stepsIn n e = false by unfold stepsIn; rw [h1]; rfl)
    rw [HV.out]
    go_enter Try.func59, Try.ntmps59
    go_wp2_with (go_at_call 31; refine (l00In_c _ _ _ _).mono ?_; rintro e' w' ⟨rfl, rfl⟩)
    refine bodyPost_ret (v := .tuple #[.agg #[.float .f32 0, .float .f32 0], .bool false]) (by simp [results, Try.results59, go_sem, *] <;> (first | rfl | exact ⟨rfl, rfl⟩ | exact ⟨rfl, rfl, rfl⟩ | exact ⟨rfl, rfl, rfl, rfl⟩)) rfl ?_
    exact ⟨⟨_, rfl, _, _, rfl, ⟨0, 0, rfl, by simp, by decide, by decide⟩, rfl⟩, by (with_reducible repeat (first | exact Below.refl _ _ | apply below_alloc | apply below_dN | apply below_d | refine below_setCell ?_ (by dsimp only; omega) | refine below_call (by assumption) ?_))⟩
  · cases h2 : (decide (-8388608 ≤ e) && decide (e ≤ 8388607))
    · have HV := Lib.hid (show stepsIn n e = false by unfold stepsIn; rw [h1, h2]; rfl)
      rw [HV.out]
      go_enter Try.func59, Try.ntmps59
      go_wp2_with (go_at_call 31; refine (l00In_c _ _ _ _).mono ?_; rintro e' w' ⟨rfl, rfl⟩)
      refine bodyPost_ret (v := .tuple #[.agg #[.float .f32 0, .float .f32 0], .bool false]) (by simp [results, Try.results59, go_sem, *] <;> (first | rfl | exact ⟨rfl, rfl⟩ | exact ⟨rfl, rfl, rfl⟩ | exact ⟨rfl, rfl, rfl, rfl⟩)) rfl ?_
      exact ⟨⟨_, rfl, _, _, rfl, ⟨0, 0, rfl, by simp, by decide, by decide⟩, rfl⟩, by (with_reducible repeat (first | exact Below.refl _ _ | apply below_alloc | apply below_dN | apply below_d | refine below_setCell ?_ (by dsimp only; omega) | refine below_call (by assumption) ?_))⟩
    · have HV := Lib.hid (show stepsIn n e = true by unfold stepsIn; rw [h1, h2]; rfl)
      rw [HV.out]
      go_enter Try.func59, Try.ntmps59
      go_wp2_with (first | (go_at_call 31; refine (l00In_c _ _ _ _).mono ?_; rintro e' w' ⟨rfl, rfl⟩) | (refine wpL_farith rfl _ _ _ _ _ rfl rfl _ _ _ rfl rfl ?_; intro r n hr hw))
      refine bodyPost_ret (v := .tuple #[.agg #[.float .f32 _, .float .f32 _], .bool true]) (by simp [results, Try.results59, go_sem, *] <;> (first | rfl | exact ⟨rfl, rfl⟩ | exact ⟨rfl, rfl, rfl⟩ | exact ⟨rfl, rfl, rfl, rfl⟩)) rfl ?_
      exact ⟨⟨_, rfl, _, _, rfl, ⟨_, _, rfl, ⟨by simp [psF, *], by simp [psF, *]⟩, by assumption, by assumption⟩, rfl⟩, by (with_reducible repeat (first | exact Below.refl _ _ | apply below_alloc | apply below_dN | apply below_d | refine below_setCell ?_ (by dsimp only; omega) | refine below_call (by assumption) ?_))⟩

/-- Whether a valid place is packed. -/
def pk (X Y : Nat) : Bool := (((X : Nat) : Int) == ((psF (StepI X) : Nat) : Int)) && (((Y : Nat) : Int) == ((psF (StepE Y) : Nat) : Int))
theorem stepsIn_ok {X Y : Nat} (h : vplace X Y = true) : stepsIn (StepI X) (StepE Y) = true := by
  obtain ⟨-, -, a, b⟩ := tu_ok h
  obtain ⟨-, -, c, d⟩ := tv_ok h
  simp only [stepsIn, Bool.and_eq_true, decide_eq_true_eq]
  omega
theorem iPosOk_c {X Y : Nat} (h : vplace X Y = true) (w : World) : Calls Try.prog 51 #[.int .i64 (StepI X), .int .i64 (StepE Y)] w (Ret (RP (RPc (psF (StepI X)) (psF (StepE Y))) (RV (.bool true))) w) := by
  have := iPos_c' (StepI X) (StepE Y) w
  unfold posR at this
  rw [stepsIn_ok h] at this
  exact this
theorem sPosOk_c {X Y : Nat} (h : vplace X Y = true) (w : World) : Calls Try.prog 59 #[.int .i64 (StepI X), .int .i64 (StepE Y)] w (Ret (RP (RPc (psF (StepI X)) (psF (StepE Y))) (RV (.bool true))) w) := by
  have := sPos_c' (StepI X) (StepE Y) w
  unfold posR at this
  rw [stepsIn_ok h] at this
  exact this

set_option maxRecDepth 100000 in
set_option maxHeartbeats 1000000 in
theorem isPacked_c (x y X Y : Nat) (hx : cn .f32 x = X) (hy : cn .f32 y = Y) (wx : (Lit.float .f32 x).wf = true) (wy : (Lit.float .f32 y).wf = true) (hv : vplace X Y = true) (w : World) : Calls Try.prog 45 #[.agg #[.float .f32 x, .float .f32 y]] w (Ret (RV (.bool (pk X Y))) w) := by
  have HS := Lib.hid (iStepsOk_c x y X Y hx hy hv)
  have HP := Lib.hid (iPosOk_c hv)
  unfold pk
  obtain ⟨N, hN⟩ : ∃ N, StepI X = N := ⟨_, rfl⟩
  obtain ⟨E, hE⟩ : ∃ E, StepE Y = E := ⟨_, rfl⟩
  rw [hN, hE] at HS HP
  rw [hN, hE]
  clear hN hE
  go_enter Try.func45, Try.ntmps45
  go_wp2_with (first | (go_at_call 54; ((with_reducible refine (HS.out _).mono ?_); rintro e w1 ⟨⟨v, rfl, rfl⟩, hb⟩); have hu2 : ∀ n : Nat, n < n + 1 + 1 := (fun n => by omega); have hu3 : ∀ n : Nat, n < n + 1 + 1 + 1 := (fun n => by omega); obtain ⟨hc, hfz⟩ := bcell hb; (try simp only [World.heap_drewN] at hc hfz); have hs_ := hb.size; (try simp at hs_); (try have hz0 : w.heap.size < w1.heap.size := (by omega)); (try have hz1 : w.heap.size + 1 < w1.heap.size := (by omega)); (try have hz2 : w.heap.size + 2 < w1.heap.size := (by omega)); (try have hz3 : w.heap.size + 3 < w1.heap.size := (by omega)); (try have hza : wa.heap.size < w1.heap.size := (by omega)); (try have hza1 : wa.heap.size + 1 < w1.heap.size := (by omega)); (try have hzb : wb.heap.size < w1.heap.size := (by omega)); (try have hzb1 : wb.heap.size + 1 < w1.heap.size := (by omega)); (try have hzc : wc.heap.size < w1.heap.size := (by omega)); (try have hzd : wd.heap.size < w1.heap.size := (by omega))) | (go_at_call 51; ((with_reducible refine (HP.out _).mono ?_); rintro e w1 ⟨⟨v, rfl, ⟨p, q, rfl, ⟨u, v, rfl, ⟨hu, hv'⟩, wu, wv⟩, rfl⟩⟩, hb⟩); have hu2 : ∀ n : Nat, n < n + 1 + 1 := (fun n => by omega); have hu3 : ∀ n : Nat, n < n + 1 + 1 + 1 := (fun n => by omega); obtain ⟨hc, hfz⟩ := bcell hb; (try simp only [World.heap_drewN] at hc hfz); have hs_ := hb.size; (try simp at hs_); (try have hz0 : w.heap.size < w1.heap.size := (by omega)); (try have hz1 : w.heap.size + 1 < w1.heap.size := (by omega)); (try have hz2 : w.heap.size + 2 < w1.heap.size := (by omega)); (try have hz3 : w.heap.size + 3 < w1.heap.size := (by omega)); (try have hza : wa.heap.size < w1.heap.size := (by omega)); (try have hza1 : wa.heap.size + 1 < w1.heap.size := (by omega)); (try have hzb : wb.heap.size < w1.heap.size := (by omega)); (try have hzb1 : wb.heap.size + 1 < w1.heap.size := (by omega)); (try have hzc : wc.heap.size < w1.heap.size := (by omega)); (try have hzd : wd.heap.size < w1.heap.size := (by omega))) | (go_at_call 63; ((with_reducible refine (iSamePlace_any x y u v _ wx wy wu wv).mono ?_); rintro e w2 ⟨rfl, hb⟩); have hu2 : ∀ n : Nat, n < n + 1 + 1 := (fun n => by omega); have hu3 : ∀ n : Nat, n < n + 1 + 1 + 1 := (fun n => by omega); obtain ⟨hc, hfz⟩ := bcell hb; (try simp only [World.heap_drewN] at hc hfz); have hs_ := hb.size; (try simp at hs_); (try have hz0 : w.heap.size < w2.heap.size := (by omega)); (try have hz1 : w.heap.size + 1 < w2.heap.size := (by omega)); (try have hz2 : w.heap.size + 2 < w2.heap.size := (by omega)); (try have hz3 : w.heap.size + 3 < w2.heap.size := (by omega)); (try have hza : wa.heap.size < w2.heap.size := (by omega)); (try have hza1 : wa.heap.size + 1 < w2.heap.size := (by omega)); (try have hzb : wb.heap.size < w2.heap.size := (by omega)); (try have hzb1 : wb.heap.size + 1 < w2.heap.size := (by omega)); (try have hzc : wc.heap.size < w2.heap.size := (by omega)); (try have hzd : wd.heap.size < w2.heap.size := (by omega))))
  go_ret
  exact ⟨⟨_, rfl, by rw [← hu, ← hv', ← hx, ← hy]; rfl⟩, by (with_reducible repeat (first | exact Below.refl _ _ | apply below_alloc | apply below_dN | apply below_d | refine below_setCell ?_ (by dsimp only; omega) | refine below_call (by assumption) ?_))⟩

/-! Lists. -/
def allB (f : Nat → Bool) (n : Nat) : Bool := (List.range n).all f
theorem allB_true {f : Nat → Bool} {n : Nat} (h : ∀ j, j < n → f j = true) : allB f n = true := by simpa [allB] using h
theorem allB_false {f : Nat → Bool} {n m : Nat} (hm : m < n) (h : f m = false) : allB f n = false := by
  simp only [allB, List.all_eq_false, List.mem_range]
  exact ⟨m, hm, by simp [h]⟩
theorem allP_of {X Y : Nat → Nat} {n : Nat} (h : allP X Y n = true) : ∀ j, j < n → vplace (X j) (Y j) = true := by simpa [allP] using h
def PlW (w : World) (b n : Nat) (X Y : Nat → Nat) : Prop := ∀ j, j < n → ∃ r s, w.cell? ⟨b, j * 2, none⟩ = some (.float .f32 r) ∧ w.cell? ⟨b, j * 2 + 1, none⟩ = some (.float .f32 s) ∧ cn .f32 r = X j ∧ cn .f32 s = Y j ∧ (Lit.float .f32 r).wf = true ∧ (Lit.float .f32 s).wf = true
theorem PlW.cells {w : World} {b n : Nat} {X Y : Nat → Nat} (h : PlW w b n X Y) : PlCells w b n X Y := fun j hj => by
  obtain ⟨r, s, h0, h1, h2, h3, -⟩ := h j hj
  exact ⟨r, s, h0, h1, h2, h3⟩
theorem PlW.below {w w' : World} {b n : Nat} {X Y : Nat → Nat} (h : PlW w b n X Y) (hb : Below w.heap.size w w') (hlt : b < w.heap.size) : PlW w' b n X Y := fun j hj => by
  obtain ⟨r, s, h0, h1, h2⟩ := h j hj
  exact ⟨r, s, by rw [hb.cell (p := ⟨b, j * 2, none⟩) hlt]; exact h0, by rw [hb.cell (p := ⟨b, j * 2 + 1, none⟩) hlt]; exact h1, h2⟩
def pkAt (X Y : Nat → Nat) (j : Nat) : Bool := pk (X j) (Y j)
def arePk (n : Nat) (X Y : Nat → Nat) : Bool := arePl n X Y && allB (pkAt X Y) n

set_option maxHeartbeats 400000 in
theorem clos_c (x y X Y c : Nat) (hx : cn .f32 x = X) (hy : cn .f32 y = Y) (wx : (Lit.float .f32 x).wf = true) (wy : (Lit.float .f32 y).wf = true) (hv : vplace X Y = true) (w : World) (hcl : w.cell? ⟨c, 0, none⟩ = some (.func (.func 45) #[] #[])) :
    Calls Try.prog 62 #[.agg #[.float .f32 x, .float .f32 y], .pointer (some ⟨c, 0, none⟩)] w (Ret (RV (.bool (!pk X Y))) w) := by
  have hlt := block_lt_of_cell hcl
  simp only at hlt
  go_enter Try.func62, Try.ntmps62
  go_wp2_with (go_at_call 45; ((with_reducible refine (isPacked_c _ _ _ _ hx hy wx wy hv _).mono ?_); rintro e w1 ⟨⟨v, rfl, rfl⟩, hb⟩); have hu2 : ∀ n : Nat, n < n + 1 + 1 := (fun n => by omega); have hu3 : ∀ n : Nat, n < n + 1 + 1 + 1 := (fun n => by omega); obtain ⟨hc, hfz⟩ := bcell hb; (try simp only [World.heap_drewN] at hc hfz); have hs_ := hb.size; (try simp at hs_); (try have hz0 : w.heap.size < w1.heap.size := (by omega)); (try have hz1 : w.heap.size + 1 < w1.heap.size := (by omega)); (try have hz2 : w.heap.size + 2 < w1.heap.size := (by omega)); (try have hz3 : w.heap.size + 3 < w1.heap.size := (by omega)); (try have hza : wa.heap.size < w1.heap.size := (by omega)); (try have hza1 : wa.heap.size + 1 < w1.heap.size := (by omega)); (try have hzb : wb.heap.size < w1.heap.size := (by omega)); (try have hzb1 : wb.heap.size + 1 < w1.heap.size := (by omega)); (try have hzc : wc.heap.size < w1.heap.size := (by omega)); (try have hzd : wd.heap.size < w1.heap.size := (by omega)))
  go_ret
  exact ⟨⟨_, rfl, rfl⟩, by (with_reducible repeat (first | exact Below.refl _ _ | apply below_alloc | apply below_dN | apply below_d | refine below_setCell ?_ (by dsimp only; omega) | refine below_call (by assumption) ?_))⟩

set_option maxHeartbeats 1000000 in
theorem indexPk_c (b c : Nat) (n cap : Nat) (X Y : Nat → Nat) (w : World) (hb : b < w.heap.size) (hn : n < 4611686018427387904) (hX : PlW w b n X Y) (hV : ∀ j, j < n → vplace (X j) (Y j) = true) (hcl : w.cell? ⟨c, 0, none⟩ = some (.func (.func 45) #[] #[])) :
    Calls Try.prog 69 #[.slice (some ⟨b, 0, none⟩) n cap, .func (.func 62) #[] #[.pointer (some ⟨c, 0, none⟩)]] w (Ret (fun v => ∃ k : Int, v = .int .i64 k ∧ decide (0 ≤ k) = !allB (pkAt X Y) n) w) := by
  have hclt : c < w.heap.size := block_lt_of_cell hcl
  go_enter Try.func69, Try.ntmps69
  go_wp2
  go_loopw [8] (fun k wr => ∃ m : Nat, m ≤ n ∧ k = .int .i64 m ∧ (∀ j, j < m → pkAt X Y j = true) ∧ Below w.heap.size w wr) (fun k _ => n - (intOf k).toNat)
  case atStart => exact ⟨0, by omega, rfl, by omega, by (with_reducible repeat (first | exact Below.refl _ _ | apply below_alloc | apply below_dN | apply below_d | refine below_setCell ?_ (by dsimp only; omega) | refine below_call (by assumption) ?_))⟩
  case round =>
    obtain ⟨m, hm, rfl, hall, hB⟩ := hrel
    have HA := Lib.hid hall
    clear hall
    by_cases hlt : m < n
    · obtain ⟨r0, s0, hr0, hs0, hc0, hc1, w0, w1'⟩ := hX m hlt
      have hv := hV m hlt
      have HX := Lib.hid hX
      have HV := Lib.hid hV
      rw [← hB.cell (p := ⟨b, m * 2, none⟩) hb] at hr0
      rw [← hB.cell (p := ⟨b, m * 2 + 1, none⟩) hb] at hs0
      have hcl' : wr.cell? ⟨c, 0, none⟩ = some (.func (.func 45) #[] #[]) := by rw [hB.cell (p := ⟨c, 0, none⟩) hclt]; exact hcl
      have hclt' : c < wr.heap.size := Nat.lt_of_lt_of_le hclt hB.size
      clear hX hV hcl
      have HC := Lib.hid (fun (w' : World) (h : w'.cell? ⟨c, 0, none⟩ = some (.func (.func 45) #[] #[])) => clos_c r0 s0 (X m) (Y m) c hc0 hc1 w0 w1' hv w' h)
      cases cpk : pk (X m) (Y m)
      · go_wp2_with (first | (go_at_call 62; ((with_reducible refine (HC.out _ (by first | assumption | (go_simp; done))).mono ?_); rintro e w1 ⟨⟨v, rfl, rfl⟩, hb⟩)))
        go_ret
        exact ⟨⟨_, rfl, m, rfl, by simp [allB_false hlt (show pkAt X Y m = false from cpk)]⟩, by (with_reducible repeat (first | exact Below.refl _ _ | apply below_alloc | apply below_dN | apply below_d | refine below_setCell ?_ (by dsimp only; omega) | refine below_call (by assumption) ?_))⟩
      · go_wp2_with (first | (go_at_call 62; ((with_reducible refine (HC.out _ (by first | assumption | (go_simp; done))).mono ?_); rintro e w1 ⟨⟨v, rfl, rfl⟩, hb⟩)))
        go_roundw
        case rel => exact ⟨m + 1, by omega, by go_num, fun j hj => by
          by_cases h : j < m
          · exact HA.out j h
          · obtain rfl : j = m := by omega
            exact cpk, by (with_reducible repeat (first | exact Below.refl _ _ | apply below_alloc | apply below_dN | apply below_d | refine below_setCell ?_ (by dsimp only; omega) | refine below_call (by assumption) ?_))⟩
        case measure => first | (simp [intOf]; done) | (simp [intOf]; omega)
    · obtain rfl : m = n := by omega
      go_wp2
      go_ret
      exact ⟨⟨_, rfl, -1, rfl, by simp [allB_true HA.out]⟩, by (with_reducible repeat (first | exact Below.refl _ _ | apply below_alloc | apply below_dN | apply below_d | refine below_setCell ?_ (by dsimp only; omega) | refine below_call (by assumption) ?_))⟩

set_option maxHeartbeats 400000 in
theorem contPk_c (b c : Nat) (n cap : Nat) (X Y : Nat → Nat) (w : World) (hb : b < w.heap.size) (hn : n < 4611686018427387904) (hX : PlW w b n X Y) (hV : ∀ j, j < n → vplace (X j) (Y j) = true) (hcl : w.cell? ⟨c, 0, none⟩ = some (.func (.func 45) #[] #[])) :
    Calls Try.prog 55 #[.slice (some ⟨b, 0, none⟩) n cap, .func (.func 62) #[] #[.pointer (some ⟨c, 0, none⟩)]] w (Ret (RV (.bool (!allB (pkAt X Y) n))) w) := by
  have HC := Lib.hid (indexPk_c b c n cap X Y w hb hn hX hV hcl)
  clear hX hV hcl
  go_enter Try.func55, Try.ntmps55
  go_wp2_with (first | (go_at_call 69; ((with_reducible refine (HC.out).mono ?_); rintro e w1 ⟨⟨v, rfl, k, rfl, hk⟩, hb⟩)))
  go_ret
  exact ⟨⟨_, rfl, by simp [RV, hk]⟩, by (with_reducible repeat (first | exact Below.refl _ _ | apply below_alloc | apply below_dN | apply below_d | refine below_setCell ?_ (by dsimp only; omega) | refine below_call (by assumption) ?_))⟩

set_option maxHeartbeats 400000 in
theorem areAllPk_c (b : Nat) (n cap : Nat) (X Y : Nat → Nat) (w : World) (hb : b < w.heap.size) (hn : n < 4611686018427387904) (hX : PlW w b n X Y) (hV : ∀ j, j < n → vplace (X j) (Y j) = true) :
    Calls Try.prog 44 #[.slice (some ⟨b, 0, none⟩) n cap, .func (.func 45) #[] #[]] w (Ret (RV (.bool (allB (pkAt X Y) n))) w) := by
  have HC := Lib.hid (fun (w' : World) (hB : Below w.heap.size w w') (hcl : w'.cell? ⟨w.heap.size, 0, none⟩ = some (.func (.func 45) #[] #[])) => contPk_c b w.heap.size n cap X Y w' (Nat.lt_of_lt_of_le hb hB.size) hn (hX.below hB hb) hV hcl)
  clear hX hV
  go_enter Try.func44, Try.ntmps44
  go_wp2_with (first | (go_at_call 55; ((with_reducible refine (HC.out _ (by (with_reducible repeat (first | exact Below.refl _ _ | apply below_alloc | apply below_dN | apply below_d | refine below_setCell ?_ (by dsimp only; omega) | refine below_call (by assumption) ?_))) (by simp)).mono ?_); rintro e w1 ⟨⟨v, rfl, rfl⟩, hb⟩)))
  go_ret
  exact ⟨⟨_, rfl, by simp [RV]⟩, by (with_reducible repeat (first | exact Below.refl _ _ | apply below_alloc | apply below_dN | apply below_d | refine below_setCell ?_ (by dsimp only; omega) | refine below_call (by assumption) ?_))⟩

set_option maxHeartbeats 400000 in
theorem iArePacked_c (b : Nat) (n cap : Nat) (X Y : Nat → Nat) (w : World) (hb : b < w.heap.size) (hn : n ≤ 1048576) (hX : PlW w b n X Y) :
    Calls Try.prog 22 #[.slice (some ⟨b, 0, none⟩) n cap] w (Ret (RV (.bool (arePk n X Y))) w) := by
  have HA := Lib.hid (iArePlaces_c b n cap X Y w hb hn hX.cells)
  unfold arePk
  cases c1 : arePl n X Y
  · clear hX
    go_enter Try.func22, Try.ntmps22
    go_wp2_with (go_at_call 43; ((with_reducible refine (HA.out).mono ?_); rintro e w1 ⟨⟨v, rfl, rfl⟩, hb⟩))
    go_ret
    exact ⟨⟨_, rfl, rfl⟩, by (with_reducible repeat (first | exact Below.refl _ _ | apply below_alloc | apply below_dN | apply below_d | refine below_setCell ?_ (by dsimp only; omega) | refine below_call (by assumption) ?_))⟩
  · have hV : ∀ j, j < n → vplace (X j) (Y j) = true := by
      unfold arePl at c1
      simp only [Bool.and_eq_true] at c1
      exact allP_of c1.1
    have HC := Lib.hid (fun (w' : World) (hB : Below w.heap.size w w') => areAllPk_c b n cap X Y w' (Nat.lt_of_lt_of_le hb hB.size) (by omega) (hX.below hB hb) hV)
    clear hX hV
    go_enter Try.func22, Try.ntmps22
    go_wp2_with (first | (go_at_call 43; ((with_reducible refine (HA.out).mono ?_); rintro e w1 ⟨⟨v, rfl, rfl⟩, hb⟩)) | (go_at_call 44; ((with_reducible refine (HC.out _ (by assumption)).mono ?_); rintro e w2 ⟨⟨v, rfl, rfl⟩, hb2⟩)))
    go_ret
    exact ⟨⟨_, rfl, by simp [RV]⟩, by (with_reducible repeat (first | exact Below.refl _ _ | apply below_alloc | apply below_dN | apply below_d | refine below_setCell ?_ (by dsimp only; omega) | refine below_call (by assumption) ?_))⟩

theorem pk_comm {X Y u v r s : Nat} (hu : cn .f32 u = psF (StepI X)) (hv : cn .f32 v = psF (StepE Y)) (hr : cn .f32 r = X) (hs : cn .f32 s = Y) : (fsm u r && fsm v s) = pk X Y := by
  unfold fsm pk
  rw [hu, hv, hr, hs, Bool.beq_comm, Bool.beq_comm (a := ((psF (StepE Y) : Nat) : Int))]
set_option maxRecDepth 100000 in
set_option maxHeartbeats 2000000 in
theorem l07Packed_c (b : Nat) (n cap : Nat) (X Y : Nat → Nat) (w : World) (hb : b < w.heap.size) (hn : n ≤ 1048576) (hX : PlW w b n X Y) :
    Calls Try.prog 42 #[.slice (some ⟨b, 0, none⟩) n cap] w (Ret (RV (.bool (arePk n X Y))) w) := by
  have HA := Lib.hid (l02Are_c b n cap X Y w hn hX.cells)
  unfold arePk
  cases c1 : arePl n X Y
  · clear hX
    go_enter Try.func42, Try.ntmps42
    go_wp2_with (go_at_call 57; refine (HA.out).mono ?_; rintro e w' ⟨rfl, rfl⟩)
    go_ret
    exact ⟨⟨_, rfl, rfl⟩, by (with_reducible repeat (first | exact Below.refl _ _ | apply below_alloc | apply below_dN | apply below_d | refine below_setCell ?_ (by dsimp only; omega) | refine below_call (by assumption) ?_))⟩
  · have hV : ∀ j, j < n → vplace (X j) (Y j) = true := by
      have h := c1
      unfold arePl at h
      simp only [Bool.and_eq_true] at h
      exact allP_of h.1
    have HV := Lib.hid hV
    have HX := Lib.hid hX
    clear hX hV
    go_enter Try.func42, Try.ntmps42
    go_wp2_with (go_at_call 57; refine (HA.out).mono ?_; rintro e w' ⟨rfl, rfl⟩)
    go_loopw [14] (fun k wr => ∃ m : Nat, m ≤ n ∧ k = .int .i64 m ∧ (∀ j, j < m → pkAt X Y j = true) ∧ Below w.heap.size w wr) (fun k _ => n - (intOf k).toNat)
    case atStart => exact ⟨0, by omega, rfl, by omega, by (with_reducible repeat (first | exact Below.refl _ _ | apply below_alloc | apply below_dN | apply below_d | refine below_setCell ?_ (by dsimp only; omega) | refine below_call (by assumption) ?_))⟩
    case round =>
      obtain ⟨m, hm, rfl, hall, hB⟩ := hrel
      have HL := Lib.hid hall
      clear hall
      by_cases hlt : m < n
      · obtain ⟨r0, s0, hr0, hs0, hc0, hc1, wr0, ws0⟩ := HX.out m hlt
        have hv := HV.out m hlt
        rw [← hB.cell (p := ⟨b, m * 2, none⟩) hb] at hr0
        rw [← hB.cell (p := ⟨b, m * 2 + 1, none⟩) hb] at hs0
        have hbw : b < wr.heap.size := Nat.lt_of_lt_of_le hb hB.size
        have HS := Lib.hid (sStepsOk_c r0 s0 (X m) (Y m) hc0 hc1 hv)
        have HP := Lib.hid (sPosOk_c hv)
        have HE := Lib.hid (fun u v (hu : cn .f32 u = psF (StepI (X m))) (hv : cn .f32 v = psF (StepE (Y m))) => pk_comm hu hv hc0 hc1)
        obtain ⟨N, hN⟩ : ∃ N, StepI (X m) = N := ⟨_, rfl⟩
        obtain ⟨E, hE⟩ : ∃ E, StepE (Y m) = E := ⟨_, rfl⟩
        rw [hN, hE] at HS HP HE
        clear hN hE
        cases cpk : pk (X m) (Y m)
        · have HF := Lib.hid (allB_false hlt (show pkAt X Y m = false from cpk))
          have HCP := Lib.hid cpk
          clear cpk
          go_wp2_with (first | ((go_at_call 58; ((with_reducible refine (HS.out _).mono ?_); rintro e w1 ⟨⟨v, rfl, rfl⟩, hb⟩); have hu2 : ∀ n : Nat, n < n + 1 + 1 := (fun n => by omega); have hu3 : ∀ n : Nat, n < n + 1 + 1 + 1 := (fun n => by omega); obtain ⟨hc, hfz⟩ := bcell hb; (try simp only [World.heap_drewN] at hc hfz); have hs_ := hb.size; (try simp at hs_); (try have hz0 : w.heap.size < w1.heap.size := (by omega)); (try have hz1 : w.heap.size + 1 < w1.heap.size := (by omega)); (try have hz2 : w.heap.size + 2 < w1.heap.size := (by omega)); (try have hz3 : w.heap.size + 3 < w1.heap.size := (by omega)); (try have hza : wa.heap.size < w1.heap.size := (by omega)); (try have hza1 : wa.heap.size + 1 < w1.heap.size := (by omega)); (try have hzb : wb.heap.size < w1.heap.size := (by omega)); (try have hzb1 : wb.heap.size + 1 < w1.heap.size := (by omega)); (try have hzc : wc.heap.size < w1.heap.size := (by omega)); (try have hzd : wd.heap.size < w1.heap.size := (by omega))); have hbw1 : b < w1.heap.size := (by have h_ := hb.size; (try simp at h_); omega)) | ((go_at_call 59; ((with_reducible refine (HP.out _).mono ?_); rintro e wa ⟨⟨v, rfl, ⟨p, q, rfl, ⟨u, v, rfl, ⟨hu, hv'⟩, wu, wv⟩, rfl⟩⟩, hb⟩); have hu2 : ∀ n : Nat, n < n + 1 + 1 := (fun n => by omega); have hu3 : ∀ n : Nat, n < n + 1 + 1 + 1 := (fun n => by omega); obtain ⟨hc, hfz⟩ := bcell hb; (try simp only [World.heap_drewN] at hc hfz); have hs_ := hb.size; (try simp at hs_); (try have hz0 : w.heap.size < wa.heap.size := (by omega)); (try have hz1 : w.heap.size + 1 < wa.heap.size := (by omega)); (try have hz2 : w.heap.size + 2 < wa.heap.size := (by omega)); (try have hz3 : w.heap.size + 3 < wa.heap.size := (by omega)); (try have hza : wa.heap.size < wa.heap.size := (by omega)); (try have hza1 : wa.heap.size + 1 < wa.heap.size := (by omega)); (try have hzb : wb.heap.size < wa.heap.size := (by omega)); (try have hzb1 : wb.heap.size + 1 < wa.heap.size := (by omega)); (try have hzc : wc.heap.size < wa.heap.size := (by omega)); (try have hzd : wd.heap.size < wa.heap.size := (by omega))); have hbwa : b < wa.heap.size := (by have h_ := hb.size; (try simp at h_); omega); have hE := HE.out _ _ hu hv'; rw [HCP.out] at hE) | (go_at_call 60; ((with_reducible refine (l02Same_any u v r0 s0 _ _ _ _ _ (by first | (go_simp; done) | (simp; done) | (simp; omega)) (by first | (go_simp; done) | (simp; done) | (simp; omega)) (by first | (go_simp; done) | (simp; done) | (simp; omega)) (by first | (go_simp; done) | (simp; done) | (simp; omega)) (by first | (go_simp; done) | (simp; done) | (simp; omega)) (by first | (go_simp; done) | (simp; done) | (simp; omega)) wu wv wr0 ws0).mono ?_); rintro e w3 ⟨rfl, hb3⟩)))
          go_ret
          exact ⟨⟨_, rfl, by rw [HF.out]; rfl⟩, by (with_reducible repeat (first | exact Below.refl _ _ | apply below_alloc | apply below_dN | apply below_d | refine below_setCell ?_ (by dsimp only; omega) | refine below_call (by assumption) ?_))⟩
        · have HCP := Lib.hid cpk
          clear cpk
          go_wp2_with (first | ((go_at_call 58; ((with_reducible refine (HS.out _).mono ?_); rintro e w1 ⟨⟨v, rfl, rfl⟩, hb⟩); have hu2 : ∀ n : Nat, n < n + 1 + 1 := (fun n => by omega); have hu3 : ∀ n : Nat, n < n + 1 + 1 + 1 := (fun n => by omega); obtain ⟨hc, hfz⟩ := bcell hb; (try simp only [World.heap_drewN] at hc hfz); have hs_ := hb.size; (try simp at hs_); (try have hz0 : w.heap.size < w1.heap.size := (by omega)); (try have hz1 : w.heap.size + 1 < w1.heap.size := (by omega)); (try have hz2 : w.heap.size + 2 < w1.heap.size := (by omega)); (try have hz3 : w.heap.size + 3 < w1.heap.size := (by omega)); (try have hza : wa.heap.size < w1.heap.size := (by omega)); (try have hza1 : wa.heap.size + 1 < w1.heap.size := (by omega)); (try have hzb : wb.heap.size < w1.heap.size := (by omega)); (try have hzb1 : wb.heap.size + 1 < w1.heap.size := (by omega)); (try have hzc : wc.heap.size < w1.heap.size := (by omega)); (try have hzd : wd.heap.size < w1.heap.size := (by omega))); have hbw1 : b < w1.heap.size := (by have h_ := hb.size; (try simp at h_); omega)) | ((go_at_call 59; ((with_reducible refine (HP.out _).mono ?_); rintro e wa ⟨⟨v, rfl, ⟨p, q, rfl, ⟨u, v, rfl, ⟨hu, hv'⟩, wu, wv⟩, rfl⟩⟩, hb⟩); have hu2 : ∀ n : Nat, n < n + 1 + 1 := (fun n => by omega); have hu3 : ∀ n : Nat, n < n + 1 + 1 + 1 := (fun n => by omega); obtain ⟨hc, hfz⟩ := bcell hb; (try simp only [World.heap_drewN] at hc hfz); have hs_ := hb.size; (try simp at hs_); (try have hz0 : w.heap.size < wa.heap.size := (by omega)); (try have hz1 : w.heap.size + 1 < wa.heap.size := (by omega)); (try have hz2 : w.heap.size + 2 < wa.heap.size := (by omega)); (try have hz3 : w.heap.size + 3 < wa.heap.size := (by omega)); (try have hza : wa.heap.size < wa.heap.size := (by omega)); (try have hza1 : wa.heap.size + 1 < wa.heap.size := (by omega)); (try have hzb : wb.heap.size < wa.heap.size := (by omega)); (try have hzb1 : wb.heap.size + 1 < wa.heap.size := (by omega)); (try have hzc : wc.heap.size < wa.heap.size := (by omega)); (try have hzd : wd.heap.size < wa.heap.size := (by omega))); have hbwa : b < wa.heap.size := (by have h_ := hb.size; (try simp at h_); omega); have hE := HE.out _ _ hu hv'; rw [HCP.out] at hE) | (go_at_call 60; ((with_reducible refine (l02Same_any u v r0 s0 _ _ _ _ _ (by first | (go_simp; done) | (simp; done) | (simp; omega)) (by first | (go_simp; done) | (simp; done) | (simp; omega)) (by first | (go_simp; done) | (simp; done) | (simp; omega)) (by first | (go_simp; done) | (simp; done) | (simp; omega)) (by first | (go_simp; done) | (simp; done) | (simp; omega)) (by first | (go_simp; done) | (simp; done) | (simp; omega)) wu wv wr0 ws0).mono ?_); rintro e w3 ⟨rfl, hb3⟩)))
          go_roundw
          case rel => exact ⟨m + 1, by omega, by go_num, fun j hj => by
            by_cases h : j < m
            · exact HL.out j h
            · obtain rfl : j = m := by omega
              exact HCP.out, by (with_reducible repeat (first | exact Below.refl _ _ | apply below_alloc | apply below_dN | apply below_d | refine below_setCell ?_ (by dsimp only; omega) | refine below_call (by assumption) ?_))⟩
          case measure => first | (simp [intOf]; done) | (simp [intOf]; omega)
      · obtain rfl : m = n := by omega
        go_wp2
        go_ret
        exact ⟨⟨_, rfl, by simp [RV, allB_true HL.out]⟩, by (with_reducible repeat (first | exact Below.refl _ _ | apply below_alloc | apply below_dN | apply below_d | refine below_setCell ?_ (by dsimp only; omega) | refine below_call (by assumption) ?_))⟩

set_option maxHeartbeats 400000 in
theorem sArePacked_c (b n cap : Nat) (X Y : Nat → Nat) (w : World) (hb : b < w.heap.size) (hn : n ≤ 1048576) (h : PlW w b n X Y) :
    Calls Try.prog 20 #[.slice (some ⟨b, 0, none⟩) n cap] w (Ret (RV (.bool (arePk n X Y))) w) := by
  have H := Lib.hid (l07Packed_c b n cap X Y w hb hn h)
  clear h
  go_enter Try.func20, Try.ntmps20
  go_wp2_with (go_at_call 42; ((with_reducible refine (H.out).mono ?_); rintro e w1 ⟨⟨v, rfl, rfl⟩, hb⟩))
  go_ret
  exact ⟨⟨_, rfl, rfl⟩, by (with_reducible repeat (first | exact Below.refl _ _ | apply below_alloc | apply below_dN | apply below_d | refine below_setCell ?_ (by dsimp only; omega) | refine below_call (by assumption) ?_))⟩
end Go.Proofs.Yteecbhmgogndaaa
