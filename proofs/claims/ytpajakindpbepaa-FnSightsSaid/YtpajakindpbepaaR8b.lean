/- The drawn grid of some bytes; numbers that bytes choose. No condition. -/
import Derived.Test.YtpajakindpbepaaR8
namespace Go.Proofs.Ytpajakindpbepaa
open Go.RowKit Go.IntWalk
set_option linter.unusedSimpArgs false
set_option maxRecDepth 100000 in
set_option maxHeartbeats 2000000 in
theorem R8Grid_c (n c : Nat) (A : Option Addr) (w : World) (hn : n ≤ 1000000) (hA : ByArg w A n) : Calls Try.prog 37 #[.slice A n c] w (DG w.heap.size w) := by
  have hg : ∀ a, A = some a → 0 < n → a.block < w.heap.size := fun a e h0 => by
    obtain ⟨a', k, e', h1, -⟩ := hA 0 h0
    rw [e] at e'
    cases e'
    exact h1
  obtain ⟨V0, hV0⟩ : ∃ V0, w.alloc (.cells #[.int .i64 0, .int .i64 0, .slice none 0 0] 30) = V0 := ⟨_, rfl⟩
  have hs0 : V0.heap.size = w.heap.size + 1 := by rw [← hV0]; simp
  have tQ0 : gtc V0 w.heap.size (.int .i64 0) (.int .i64 0) (.slice none 0 0) := by rw [← hV0]; exact gtc.newAt rfl
  have hB0 : Below w.heap.size w V0 := by rw [← hV0]; exact (Below.refl _ _).alloc (Nat.le_refl _) _
  obtain ⟨V1, hV1⟩ : ∃ V1, V0.alloc (.cells #[.slice A n c, .int .i64 0, .int .u64 0] 131) = V1 := ⟨_, rfl⟩
  have hs1 : V1.heap.size = w.heap.size + 1 + 1 := by rw [← hV1]; simp [hs0]
  have hT : tri 131 V1 V0.heap.size (.slice A n c) (.int .i64 0) (.int .u64 0) := by rw [← hV1]; exact tri.newAt rfl
  have tQ1 : gtc V1 w.heap.size (.int .i64 0) (.int .i64 0) (.slice none 0 0) := by rw [← hV1]; exact tQ0.alloc _
  have hB1 : Below w.heap.size w V1 := by rw [← hV1]; exact hB0.alloc (by omega) _
  have HF := Lib.hid (show Calls Try.prog 73 #[.slice A n c] V0 (fun e w' => e = .returned (.pointer (some ⟨w.heap.size + 1, 0, none⟩)) ∧ w' = V1) by
    clear hT tQ1 hB1
    go_enter Try.func73, Try.ntmps73
    go_wp2
    go_ret
    exact ⟨rfl, rfl⟩)
  have HD := Lib.hid (l06DrawOk_c V0.heap.size n c A 0 V1 hn (hA.below hg hB1) (fun a e h0 => by have := hg a e h0; omega) hT)
  rw [hs0] at HD
  clear hV1 hT hA hg
  go_enter Try.func37, Try.ntmps37
  go_upto_region 2 with (go_at_call 73; ((with_reducible refine (HF.out).mono ?_); rintro e w1 ⟨rfl, rfl⟩))
  go_wp2_with (go_at_call 74; ((with_reducible refine (HD.out).mono ?_); rintro e w2 ⟨W, D, b, cap, hs, h1, h2, h3, h4, rfl, hb, hh, hF, hB⟩); have tQ2 : gtc w2 w.heap.size (.int .i64 0) (.int .i64 0) (.slice none 0 0) := World.rowIs.of_block tQ1 (hB.block _ (by omega)); have q0 := tQ2.c0; have q1 := tQ2.c1; have q2 := tQ2.c2; have ql := tQ2.lt; have qf0 := tQ2.fr 0; have qf1 := tQ2.fr 1; have qf2 := tQ2.fr 2)
  refine bodyPost_ret (v := .agg #[.int .i64 W, .int .i64 D, .slice (some ⟨b, 0, none⟩) (W * D) cap]) (by simp [results, Try.results37, go_sem, *] <;> (first | rfl | exact ⟨rfl, rfl⟩ | exact ⟨rfl, rfl, rfl⟩ | exact ⟨rfl, rfl, rfl, rfl⟩)) rfl ?_
  have kq : Keep1 w.heap.size w2 (((w2.setCell ⟨w.heap.size, 0, none⟩ (.int .i64 W)).setCell ⟨w.heap.size, 1, none⟩ (.int .i64 D)).setCell ⟨w.heap.size, 2, none⟩ (.slice (some ⟨b, 0, none⟩) (W * D) cap)) := Keep1.set (Keep1.set (Keep1.set (Keep1.refl _ _) _) _) _
  have hBe := hB1.trans (hB.mono (by omega))
  exact ⟨W, D, b, cap, hs, h1, h2, h3, h4, rfl, ⟨by omega, by simpa [World.setCell] using hb.2⟩, hh, hF.keep1 hb.2 kq (by omega), ((hBe.setCell (p := ⟨w.heap.size, 0, none⟩) (Nat.le_refl _) _).setCell (p := ⟨w.heap.size, 1, none⟩) (Nat.le_refl _) _).setCell (p := ⟨w.heap.size, 2, none⟩) (Nat.le_refl _) _⟩
set_option maxHeartbeats 1000000 in
theorem r8Long_c (n c m c' : Nat) (A A' : Option Addr) (w : World) : Calls Try.prog 36 #[.slice A n c, .slice A' m c'] w (Ret (RV (.bool (decide (48 < n) || decide (48 < m)))) w) := by
  by_cases h1 : 48 < n
  · have h1' : (48 : Int) < (n : Int) := by omega
    rw [decide_eq_true h1]
    go_enter Try.func36, Try.ntmps36
    go_wp2
    go_ret
    exact ⟨⟨_, rfl, rfl⟩, Below.refl _ _⟩
  · have h1' : ¬ (48 : Int) < (n : Int) := by omega
    rw [decide_eq_false h1]
    by_cases h2 : 48 < m
    · have h2' : (48 : Int) < (m : Int) := by omega
      rw [decide_eq_true h2]
      go_enter Try.func36, Try.ntmps36
      go_wp2
      go_ret
      exact ⟨⟨_, rfl, rfl⟩, Below.refl _ _⟩
    · have h2' : ¬ (48 : Int) < (m : Int) := by omega
      rw [decide_eq_false h2]
      go_enter Try.func36, Try.ntmps36
      go_wp2
      go_ret
      exact ⟨⟨_, rfl, rfl⟩, Below.refl _ _⟩
set_option maxRecDepth 100000 in
set_option maxHeartbeats 1000000 in
theorem r8At_c (n c k m : Nat) (A : Option Addr) (w : World) (hm : 1 ≤ m) (hA : ByArg w A n) : Calls Try.prog 38 #[.slice A n c, .int .i64 (k : Int), .int .i64 (m : Int)] w fun e w' => ∃ r : Nat, r < m ∧ e = .returned (.int .i64 (r : Int)) ∧ w = w' := by
  by_cases h1 : m ≤ 1
  · have h1' : (m : Int) ≤ 1 := by omega
    go_enter Try.func38, Try.ntmps38
    go_wp2
    go_ret
    exact ⟨0, by omega, rfl, rfl⟩
  · have h1' : ¬ (m : Int) ≤ 1 := by omega
    have h3 : ¬ (m : Int) = 0 := by omega
    by_cases h2 : n ≤ k
    · have h2' : (n : Int) ≤ (k : Int) := by omega
      go_enter Try.func38, Try.ntmps38
      go_wp2
      go_ret
      exact ⟨0, by omega, rfl, rfl⟩
    · have h2' : ¬ (n : Int) ≤ (k : Int) := by omega
      have h2'' : (k : Int) < (n : Int) := by omega
      obtain ⟨a, x, rfl, ha, hx, hx0, hx1⟩ := hA k (by omega)
      have hw : IntKind.i64.wrap x = x := by rw [IntKind.wrap_i64]; omega
      clear hA
      go_enter Try.func38, Try.ntmps38
      go_wp2
      have hmod : x.tmod (m : Int) = ((x.toNat % m : Nat) : Int) := by
        rw [Int.tmod_eq_emod_of_nonneg hx0, Int.natCast_emod, Int.toNat_of_nonneg hx0]
      go_ret
      exact ⟨x.toNat % m, Nat.mod_lt _ (by omega), by simp [Int.max_eq_left hx0], rfl⟩
end Go.Proofs.Ytpajakindpbepaa
