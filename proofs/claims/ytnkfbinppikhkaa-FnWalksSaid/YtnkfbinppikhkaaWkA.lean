/- Questions about marks and legs. No condition. -/
import Derived.Test.YtnkfbinppikhkaaWkM
namespace Go.Proofs.Ytnkfbinppikhkaa
open Go.RowKit
set_option linter.unusedSimpArgs false
set_option maxHeartbeats 1000000 in
theorem lengthC_c (A : Option Addr) (n c : Nat) (w : World) : Calls Try.prog 27 #[.slice A n c] w (Ret (RV (.int .i64 (n : Int))) w) := by
  go_enter Try.func27, Try.ntmps27
  go_wp2
  go_ret
  exact ⟨⟨_, rfl, rfl⟩, Below.refl _ _⟩
set_option maxHeartbeats 1000000 in
theorem within32_c (n : Nat) (h1 : 1 ≤ n) (h2 : n ≤ 32) (w : World) : Calls Try.prog 26 #[.int .i64 (n : Int), .int .i64 1, .int .i64 32] w (Ret (RV (.bool true)) w) := by
  have h3 : (1 : Int) ≤ (n : Int) := by omega
  have h4 : (n : Int) ≤ 32 := by omega
  go_enter Try.func26, Try.ntmps26
  go_wp2
  go_ret
  exact ⟨⟨_, rfl, rfl⟩, Below.refl _ _⟩
set_option maxRecDepth 100000 in
set_option maxHeartbeats 1000000 in
theorem areMarks_c (A : Option Addr) (n c : Nat) (X Y : Nat → Nat) (w : World) (h1 : 1 ≤ n) (hn : n ≤ 32) (hA : CxArg w A n X Y) (hall : allC X Y n = true) : Calls Try.prog 9 #[.slice A n c] w (Ret (RV (.bool true)) w) := by
  have HL := Lib.hid (fun w => lengthC_c A n c w)
  have HW := Lib.hid (fun w => within32_c n h1 hn w)
  have HP := Lib.hid (fun w' (hb : Below w.heap.size w w') => hall ▸ arePoints_c A n c X Y w' (by omega) (hA.below hb))
  clear hA hall
  go_enter Try.func9, Try.ntmps9
  go_wp2_with (first | (go_at_call 27; ((with_reducible refine (HL.out _).mono ?_); rintro e w1 ⟨⟨v, rfl, rfl⟩, hb1⟩)) | (go_at_call 26; ((with_reducible refine (HW.out _).mono ?_); rintro e w2 ⟨⟨v, rfl, rfl⟩, hb2⟩)) | (go_at_call 28; ((with_reducible refine (HP.out _ (hb1.trans (hb2.mono hb1.size))).mono ?_); rintro e w3 ⟨⟨v, rfl, rfl⟩, hb3⟩)))
  go_ret
  exact ⟨⟨_, rfl, rfl⟩, (hb1.trans (hb2.mono hb1.size)).trans (hb3.mono (Nat.le_trans hb1.size hb2.size))⟩
set_option maxRecDepth 100000 in
set_option maxHeartbeats 1000000 in
theorem finitePoints_c (A : Option Addr) (n c : Nat) (X Y : Nat → Nat) (w : World) (hn : n ≤ 32) (hA : CxArg w A n X Y) (hall : allC X Y n = true) : Calls Try.prog 25 #[.slice A n c, .bool true] w (Ret (RV (.tuple #[.slice A n c, .bool true])) w) := by
  have HP := Lib.hid (hall ▸ arePoints_c A n c X Y w (by omega) hA)
  clear hA hall
  go_enter Try.func25, Try.ntmps25
  go_wp2_with ((go_at_call 28; ((with_reducible refine (HP.out).mono ?_); rintro e w3 ⟨⟨v, rfl, rfl⟩, hb3⟩)))
  go_ret2
  exact ⟨⟨_, rfl, rfl⟩, hb3⟩
/-! Legs. -/
def lgF (T L : Nat) : Bool := (fin .f32 T && fin .f32 L) && fgt .f32 L 0
/-- Legs that can be read. -/
def LgArg (w : World) (A : Option Addr) (n : Nat) (T L : Nat → Nat) : Prop := ∀ j, j < n → ∃ g, A = some ⟨g, 0, none⟩ ∧ g < w.heap.size ∧ ∃ a b, w.cell? ⟨g, j * 2, none⟩ = some (.float .f32 a) ∧ w.cell? ⟨g, j * 2 + 1, none⟩ = some (.float .f32 b) ∧ cn .f32 a = T j ∧ cn .f32 b = L j ∧ okf .f32 a ∧ okf .f32 b
theorem LgArg.below {w w' : World} {A : Option Addr} {n : Nat} {T L : Nat → Nat} (h : LgArg w A n T L) (hb : Below w.heap.size w w') : LgArg w' A n T L := fun j hj => by
  obtain ⟨g, e, h0, a, b, h1, h2, h3⟩ := h j hj
  exact ⟨g, e, Nat.lt_of_lt_of_le h0 hb.size, a, b, (hb.cell (p := ⟨g, j * 2, none⟩) h0).trans h1, (hb.cell (p := ⟨g, j * 2 + 1, none⟩) h0).trans h2, h3⟩
set_option maxRecDepth 100000 in
set_option maxHeartbeats 1000000 in
theorem legOk_c (a b T L : Nat) (ha : cn .f32 a = T) (hb' : cn .f32 b = L) (hk : lgF T L = true) (w : World) : Calls Try.prog 31 #[.agg #[.float .f32 a, .float .f32 b]] w (Ret (RV (.bool true)) w) := by
  unfold lgF at hk
  simp only [Bool.and_eq_true] at hk
  obtain ⟨⟨k1, k2⟩, k3⟩ := hk
  go_enter Try.func31, Try.ntmps31
  go_wp2_with ((go_at_call 20; ((with_reducible refine (areFinite2_c _ _ _ _ _ _ _ (by simp) (by simp) (by simp) ha hb').mono ?_); rintro e w1 ⟨⟨v, rfl, rfl⟩, hb⟩); obtain ⟨hc, hfz⟩ := bcell hb; (try simp only [World.heap_drewN] at hc hfz); have hz : w.heap.size + 2 ≤ w1.heap.size := (by (have hz_ := hb.size; (try simp at hz_); omega)); have hz0 : w.heap.size < w1.heap.size := (by omega); have hz1 : w.heap.size + 1 < w1.heap.size := (by omega)))
  go_ret
  exact ⟨⟨_, rfl, rfl⟩, by (with_reducible repeat (first | exact Below.refl _ _ | apply below_alloc | apply below_dN | apply below_d | refine below_setCell ?_ (by dsimp only; omega) | refine below_call (by assumption) ?_))⟩
set_option maxRecDepth 100000 in
set_option maxHeartbeats 1000000 in
theorem closL_c (a b T L c : Nat) (ha : cn .f32 a = T) (hb : cn .f32 b = L) (hk : lgF T L = true) (w : World) (hcl : w.cell? ⟨c, 0, none⟩ = some (.func (.func 31) #[] #[])) : Calls Try.prog 42 #[.agg #[.float .f32 a, .float .f32 b], .pointer (some ⟨c, 0, none⟩)] w (Ret (RV (.bool false)) w) := by
  have hlt := block_lt_of_cell hcl
  simp only at hlt
  go_enter Try.func42, Try.ntmps42
  go_wp2_with (go_at_call 31; ((with_reducible refine (legOk_c _ _ _ _ ha hb hk _).mono ?_); rintro e w1 ⟨⟨v, rfl, rfl⟩, hb⟩); have hu2 : ∀ n : Nat, n < n + 1 + 1 := (fun n => by omega); have hu3 : ∀ n : Nat, n < n + 1 + 1 + 1 := (fun n => by omega); obtain ⟨hc, hfz⟩ := bcell hb; (try simp only [World.heap_drewN] at hc hfz); have hs_ := hb.size; (try simp at hs_); (try have hz0 : w.heap.size < w1.heap.size := (by omega)); (try have hz1 : w.heap.size + 1 < w1.heap.size := (by omega)); (try have hz2 : w.heap.size + 2 < w1.heap.size := (by omega)); (try have hz3 : w.heap.size + 3 < w1.heap.size := (by omega)); (try have hza : wa.heap.size < w1.heap.size := (by omega)); (try have hza1 : wa.heap.size + 1 < w1.heap.size := (by omega)); (try have hzb : wb.heap.size < w1.heap.size := (by omega)); (try have hzb1 : wb.heap.size + 1 < w1.heap.size := (by omega)); (try have hzc : wc.heap.size < w1.heap.size := (by omega)); (try have hzd : wd.heap.size < w1.heap.size := (by omega)))
  go_ret
  exact ⟨⟨_, rfl, rfl⟩, by (with_reducible repeat (first | exact Below.refl _ _ | apply below_alloc | apply below_dN | apply below_d | refine below_setCell ?_ (by dsimp only; omega) | refine below_call (by assumption) ?_))⟩
set_option maxRecDepth 100000 in
set_option maxHeartbeats 1000000 in
theorem indexL_c (A : Option Addr) (n c cl : Nat) (T L : Nat → Nat) (w : World) (hn : n ≤ 32) (hA : LgArg w A n T L) (hk : ∀ j, j < n → lgF (T j) (L j) = true) (hcl : w.cell? ⟨cl, 0, none⟩ = some (.func (.func 31) #[] #[])) : Calls Try.prog 53 #[.slice A n c, .func (.func 42) #[] #[.pointer (some ⟨cl, 0, none⟩)]] w (Ret (RV (.int .i64 (-1))) w) := by
  have hclt : cl < w.heap.size := block_lt_of_cell hcl
  go_enter Try.func53, Try.ntmps53
  go_wp2
  go_loopw [8] (fun k wr => ∃ m : Nat, m ≤ n ∧ k = .int .i64 m ∧ Below w.heap.size w wr) (fun k _ => n - (intOf k).toNat)
  case atStart => exact ⟨0, by omega, rfl, Below.refl _ _⟩
  case round =>
    obtain ⟨m, hm, rfl, hB⟩ := hrel
    by_cases hlt : m < n
    · obtain ⟨g, rfl, hg, p, q, h0, h1, hp, hq, -, -⟩ := hA.below hB m hlt
      have HA := Lib.hid hA
      have HB := Lib.hid hB
      have HK := Lib.hid hk
      have hBs := hB.size
      have hmi : (m : Int) < (n : Int) := by omega
      have hcl' : wr.cell? ⟨cl, 0, none⟩ = some (.func (.func 31) #[] #[]) := by rw [hB.cell (p := ⟨cl, 0, none⟩) hclt]; exact hcl
      have HC := Lib.hid (fun (w' : World) (h : w'.cell? ⟨cl, 0, none⟩ = some (.func (.func 31) #[] #[])) => closL_c p q (T m) (L m) cl hp hq (hk m hlt) w' h)
      clear hA hB hcl hk
      go_wp2_with (first | (go_at_call 42; ((with_reducible refine (HC.out _ (by first | assumption | (go_simp; done))).mono ?_); rintro e w1 ⟨⟨v, rfl, rfl⟩, hb1⟩)))
      go_roundw
      case rel => exact ⟨m + 1, by omega, by go_num, HB.out.trans (hb1.mono hBs)⟩
      case measure => first | (simp [intOf]; done) | (simp [intOf]; omega)
    · obtain rfl : m = n := by omega
      have hmi : ¬ ((m : Int) < (m : Int)) := by omega
      go_wp2
      go_ret
      exact ⟨⟨_, rfl, rfl⟩, hB⟩
set_option maxRecDepth 100000 in
set_option maxHeartbeats 1000000 in
theorem lengthL_c (A : Option Addr) (n c : Nat) (w : World) : Calls Try.prog 29 #[.slice A n c] w (Ret (RV (.int .i64 (n : Int))) w) := by
  go_enter Try.func29, Try.ntmps29
  go_wp2
  go_ret
  exact ⟨⟨_, rfl, rfl⟩, Below.refl _ _⟩
set_option maxRecDepth 100000 in
set_option maxHeartbeats 1000000 in
theorem areAllL_c (A : Option Addr) (n c : Nat) (T L : Nat → Nat) (w : World) (hn : n ≤ 32) (hA : LgArg w A n T L) (hk : ∀ j, j < n → lgF (T j) (L j) = true) : Calls Try.prog 30 #[.slice A n c, .func (.func 31) #[] #[]] w (Ret (RV (.bool true)) w) := by
  have HI := Lib.hid (fun (w' : World) (hB : Below w.heap.size w w') (hcl : w'.cell? ⟨w.heap.size, 0, none⟩ = some (.func (.func 31) #[] #[])) => show Calls Try.prog 41 #[.slice A n c, .func (.func 42) #[] #[.pointer (some ⟨w.heap.size, 0, none⟩)]] w' (Ret (RV (.bool false)) w') by
    have HC := Lib.hid (indexL_c A n c w.heap.size T L w' hn (hA.below hB) hk hcl)
    clear hA hk hcl hB
    go_enter Try.func41, Try.ntmps41
    go_wp2_with (go_at_call 53; ((with_reducible refine (HC.out).mono ?_); rintro e w1 ⟨⟨v, rfl, rfl⟩, hb⟩))
    go_ret
    exact ⟨⟨_, rfl, rfl⟩, hb⟩)
  clear hA hk
  go_enter Try.func30, Try.ntmps30
  go_wp2_with (go_at_call 41; ((with_reducible refine (HI.out _ (by (with_reducible repeat (first | exact Below.refl _ _ | apply below_alloc | apply below_dN | apply below_d | refine below_setCell ?_ (by dsimp only; omega) | refine below_call (by assumption) ?_))) (by simp)).mono ?_); rintro e w1 ⟨⟨v, rfl, rfl⟩, hb⟩))
  go_ret
  exact ⟨⟨_, rfl, rfl⟩, by (with_reducible repeat (first | exact Below.refl _ _ | apply below_alloc | apply below_dN | apply below_d | refine below_setCell ?_ (by dsimp only; omega) | refine below_call (by assumption) ?_))⟩
set_option maxRecDepth 100000 in
set_option maxHeartbeats 1000000 in
theorem areLegs_c (A : Option Addr) (n c : Nat) (T L : Nat → Nat) (w : World) (h1 : 1 ≤ n) (hn : n ≤ 32) (hA : LgArg w A n T L) (hk : ∀ j, j < n → lgF (T j) (L j) = true) : Calls Try.prog 10 #[.slice A n c] w (Ret (RV (.bool true)) w) := by
  have HL := Lib.hid (fun w => lengthL_c A n c w)
  have HW := Lib.hid (fun w => within32_c n h1 hn w)
  have HP := Lib.hid (fun w' (hb : Below w.heap.size w w') => areAllL_c A n c T L w' hn (hA.below hb) hk)
  clear hA hk
  go_enter Try.func10, Try.ntmps10
  go_wp2_with (first | (go_at_call 29; ((with_reducible refine (HL.out _).mono ?_); rintro e w1 ⟨⟨v, rfl, rfl⟩, hb1⟩)) | (go_at_call 26; ((with_reducible refine (HW.out _).mono ?_); rintro e w2 ⟨⟨v, rfl, rfl⟩, hb2⟩)) | (go_at_call 30; ((with_reducible refine (HP.out _ (hb1.trans (hb2.mono hb1.size))).mono ?_); rintro e w3 ⟨⟨v, rfl, rfl⟩, hb3⟩)))
  go_ret
  exact ⟨⟨_, rfl, rfl⟩, (hb1.trans (hb2.mono hb1.size)).trans (hb3.mono (Nat.le_trans hb1.size hb2.size))⟩
end Go.Proofs.Ytnkfbinppikhkaa
