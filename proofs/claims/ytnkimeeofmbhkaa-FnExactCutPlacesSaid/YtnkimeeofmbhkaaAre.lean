/- Contracts of lists of valid places. No condition. -/
import Derived.Test.YtnkimeeofmbhkaaDot
namespace Go.Proofs.Ytnkimeeofmbhkaa
open Go.RowKit
set_option linter.unusedSimpArgs false

def allP (X Y : Nat → Nat) (n : Nat) : Bool := (List.range n).all fun j => vplace (X j) (Y j)
theorem allP_true {X Y : Nat → Nat} {n : Nat} (h : ∀ j, j < n → vplace (X j) (Y j) = true) : allP X Y n = true := by simpa [allP] using h
theorem allP_false {X Y : Nat → Nat} {n m : Nat} (hm : m < n) (h : vplace (X m) (Y m) = false) : allP X Y n = false := by
  simp only [allP, List.all_eq_false, List.mem_range]
  exact ⟨m, hm, by simp [h]⟩
/-- The places of a list. -/
def PlCells (w : World) (b n : Nat) (X Y : Nat → Nat) : Prop := ∀ j, j < n → ∃ r s, w.cell? ⟨b, j * 2, none⟩ = some (.float .f32 r) ∧ w.cell? ⟨b, j * 2 + 1, none⟩ = some (.float .f32 s) ∧ cn .f32 r = X j ∧ cn .f32 s = Y j

set_option maxHeartbeats 400000 in
theorem areV1_c (x y X Y : Nat) (hx : cn .f32 x = X) (hy : cn .f32 y = Y) (w : World) : Calls Try.prog 94 #[.agg #[.float .f32 x, .float .f32 y]] w (Ret (RV (.bool (!vplace X Y))) w) := by
  go_enter Try.func94, Try.ntmps94
  go_wp2_with (first | (go_at_call 95; ((with_reducible refine (iValidPlace_c _ _ _ _ hx hy _).mono ?_); rintro e w1 ⟨⟨v, rfl, rfl⟩, hb⟩); have hu2 : ∀ n : Nat, n < n + 1 + 1 := (fun n => by omega); have hu3 : ∀ n : Nat, n < n + 1 + 1 + 1 := (fun n => by omega); obtain ⟨hc, hfz⟩ := bcell hb; (try simp only [World.heap_drewN] at hc hfz); have hs_ := hb.size; (try simp at hs_); (try have hz0 : w.heap.size < w1.heap.size := (by omega)); (try have hz1 : w.heap.size + 1 < w1.heap.size := (by omega)); (try have hz2 : w.heap.size + 2 < w1.heap.size := (by omega)); (try have hz3 : w.heap.size + 3 < w1.heap.size := (by omega)); (try have hza : wa.heap.size < w1.heap.size := (by omega)); (try have hza1 : wa.heap.size + 1 < w1.heap.size := (by omega)); (try have hzb : wb.heap.size < w1.heap.size := (by omega)); (try have hzb1 : wb.heap.size + 1 < w1.heap.size := (by omega)); (try have hzc : wc.heap.size < w1.heap.size := (by omega)); (try have hzd : wd.heap.size < w1.heap.size := (by omega))))
  go_ret
  exact ⟨⟨_, rfl, rfl⟩, by (with_reducible repeat (first | exact Below.refl _ _ | apply below_alloc | apply below_dN | apply below_d | refine below_setCell ?_ (by dsimp only; omega) | refine below_call (by assumption) ?_))⟩

set_option maxHeartbeats 1000000 in
theorem indexFunc_c (b : Nat) (n cap : Nat) (X Y : Nat → Nat) (w : World) (hb : b < w.heap.size) (hn : n < 4611686018427387904) (hX : PlCells w b n X Y) :
    Calls Try.prog 109 #[.slice (some ⟨b, 0, none⟩) n cap, .func (.func 94) #[] #[]] w (Ret (fun v => ∃ k : Int, v = .int .i64 k ∧ decide (0 ≤ k) = !allP X Y n) w) := by
  go_enter Try.func109, Try.ntmps109
  go_wp2
  go_loopw [8] (fun k wr => ∃ m : Nat, m ≤ n ∧ k = .int .i64 m ∧ (∀ j, j < m → vplace (X j) (Y j) = true) ∧ Below w.heap.size w wr) (fun k _ => n - (intOf k).toNat)
  case atStart => exact ⟨0, by omega, rfl, by omega, by (with_reducible repeat (first | exact Below.refl _ _ | apply below_alloc | apply below_dN | apply below_d | refine below_setCell ?_ (by dsimp only; omega) | refine below_call (by assumption) ?_))⟩
  case round =>
    obtain ⟨m, hm, rfl, hall, hB⟩ := hrel
    have HA := Lib.hid hall
    clear hall
    by_cases hlt : m < n
    · obtain ⟨r0, s0, hr0, hs0, hc0, hc1⟩ := hX m hlt
      have HX := Lib.hid hX
      clear hX
      rw [← hB.cell (p := ⟨b, m * 2, none⟩) hb] at hr0
      rw [← hB.cell (p := ⟨b, m * 2 + 1, none⟩) hb] at hs0
      cases c : vplace (X m) (Y m)
      · go_wp2_with (first | (go_at_call 94; ((with_reducible refine (areV1_c _ _ _ _ hc0 hc1 _).mono ?_); rintro e w1 ⟨⟨v, rfl, rfl⟩, hb⟩)))
        go_ret
        exact ⟨⟨_, rfl, m, rfl, by simp [allP_false hlt c]⟩, by (with_reducible repeat (first | exact Below.refl _ _ | apply below_alloc | apply below_dN | apply below_d | refine below_setCell ?_ (by dsimp only; omega) | refine below_call (by assumption) ?_))⟩
      · go_wp2_with (first | (go_at_call 94; ((with_reducible refine (areV1_c _ _ _ _ hc0 hc1 _).mono ?_); rintro e w1 ⟨⟨v, rfl, rfl⟩, hb⟩)))
        go_roundw
        case rel => exact ⟨m + 1, by omega, by go_num, fun j hj => by
          by_cases h : j < m
          · exact HA.out j h
          · obtain rfl : j = m := by omega
            exact c, by (with_reducible repeat (first | exact Below.refl _ _ | apply below_alloc | apply below_dN | apply below_d | refine below_setCell ?_ (by dsimp only; omega) | refine below_call (by assumption) ?_))⟩
        case measure => first | (simp [intOf]; done) | (simp [intOf]; omega)
    · obtain rfl : m = n := by omega
      go_wp2
      go_ret
      exact ⟨⟨_, rfl, -1, rfl, by simp [allP_true HA.out]⟩, by (with_reducible repeat (first | exact Below.refl _ _ | apply below_alloc | apply below_dN | apply below_d | refine below_setCell ?_ (by dsimp only; omega) | refine below_call (by assumption) ?_))⟩

set_option maxHeartbeats 1000000 in
theorem areValid_c (b : Nat) (n cap : Nat) (X Y : Nat → Nat) (w : World) (hb : b < w.heap.size) (hn : n < 4611686018427387904) (hX : PlCells w b n X Y) :
    Calls Try.prog 76 #[.slice (some ⟨b, 0, none⟩) n cap] w (Ret (RV (.bool (allP X Y n))) w) := by
  have HC : ∀ w', Below w.heap.size w w' → Calls Try.prog 109 #[.slice (some ⟨b, 0, none⟩) n cap, .func (.func 94) #[] #[]] w' (Ret (fun v => ∃ k : Int, v = .int .i64 k ∧ decide (0 ≤ k) = !allP X Y n) w') := fun w' h =>
    indexFunc_c b n cap X Y w' (Nat.lt_of_lt_of_le hb h.size) hn fun j hj => by
      obtain ⟨r, s, h1, h2, h3⟩ := hX j hj
      exact ⟨r, s, by rw [h.cell (p := ⟨b, j * 2, none⟩) hb]; exact h1, by rw [h.cell (p := ⟨b, j * 2 + 1, none⟩) hb]; exact h2, h3⟩
  have HD : ∀ w', Below w.heap.size w w' → Calls Try.prog 93 #[.slice (some ⟨b, 0, none⟩) n cap, .func (.func 94) #[] #[]] w' (Ret (RV (.bool (!allP X Y n))) w') := fun w' h => by
    have HC' := Lib.hid (HC w' h)
    clear HC h hX
    go_enter Try.func93, Try.ntmps93
    go_wp2_with (first | (go_at_call 109; ((with_reducible refine (HC'.out).mono ?_); rintro e w1 ⟨⟨v, rfl, k, rfl, hk⟩, hb⟩)))
    go_ret
    exact ⟨⟨_, rfl, by simp [RV, hk]⟩, by (with_reducible repeat (first | exact Below.refl _ _ | apply below_alloc | apply below_dN | apply below_d | refine below_setCell ?_ (by dsimp only; omega) | refine below_call (by assumption) ?_))⟩
  have HD' := Lib.hid (HD w (Below.refl _ _))
  clear HC HD hX
  go_enter Try.func76, Try.ntmps76
  go_wp2_with (first | (go_at_call 93; ((with_reducible refine (HD'.out).mono ?_); rintro e w1 ⟨⟨v, rfl, rfl⟩, hb⟩)))
  go_ret
  exact ⟨⟨_, rfl, by simp [RV]⟩, by (with_reducible repeat (first | exact Below.refl _ _ | apply below_alloc | apply below_dN | apply below_d | refine below_setCell ?_ (by dsimp only; omega) | refine below_call (by assumption) ?_))⟩

-- left out here: loop.example/g01341/spec.l02Two