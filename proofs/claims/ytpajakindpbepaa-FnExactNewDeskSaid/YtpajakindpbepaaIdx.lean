/- Whether a place is one of a valid grid, in both spellings. No condition. -/
import Derived.Test.YtpajakindpbepaaSeeP
namespace Go.Proofs.Ytpajakindpbepaa
open Go.RowKit
set_option linter.unusedSimpArgs false
def idxOk (W H : Int) (n : Nat) (X : Nat → Nat) (i : Int) : Bool := gridOk W H n X && (decide (0 ≤ i) && decide (i ≤ (n : Int) - 1))
theorem length_c (v : Value) (A : Option Addr) (n c : Nat) (hv : v = .slice A n c) (w : World) : Calls Try.prog 56 #[v] w (Ret (RV (.int .i64 (n : Int))) w) := by
  subst hv
  go_enter Try.func56, Try.ntmps56
  go_wp2
  go_ret
  exact ⟨⟨_, rfl, rfl⟩, by (with_reducible repeat (first | exact Below.refl _ _ | apply below_alloc | apply below_dN | apply below_d | refine below_setCell ?_ (by dsimp only; omega) | refine below_call (by assumption) ?_))⟩
set_option maxRecDepth 100000 in
set_option maxHeartbeats 4000000 in
theorem l06Index_c (p b n c : Nat) (W H : Int) (X : Nat → Nat) (i : Int) (w : World) (hn : n ≤ 1048576) (c0 : w.cell? ⟨p, 0, none⟩ = some (.int .i64 W)) (c1 : w.cell? ⟨p, 1, none⟩ = some (.int .i64 H)) (c2 : w.cell? ⟨p, 2, none⟩ = some (.slice (some ⟨b, 0, none⟩) n c)) (hbl : b < w.heap.size) (hX : FlCells w b n X) :
    Calls Try.prog 68 #[.pointer (some ⟨p, 0, none⟩), .int .i64 i] w (Ret (RV (.bool (idxOk W H n X i))) w) := by
  have hpl := block_lt_of_cell c0
  simp only at hpl
  have hI := fun (w' : World) (hB : Below w.heap.size w w') => Ret.plain (l06Is_c p b n c W H X w' hn ((hB.cell (p := ⟨p, 0, none⟩) hpl).trans c0) ((hB.cell (p := ⟨p, 1, none⟩) hpl).trans c1) ((hB.cell (p := ⟨p, 2, none⟩) hpl).trans c2) (Nat.lt_of_lt_of_le hbl hB.size) (hX.dn hbl hB))
  unfold idxOk
  cases hq : gridOk W H n X
  · rw [hq] at hI
    have HI := Lib.hid hI
    clear hI hX hq
    go_enter Try.func68, Try.ntmps68
    go_wp2
    (refine region_below (by kernel_rfl) (by kernel_rfl) ?_; (repeat (first | go_big_quiet_step ((go_at_call 49; exact Calls.regrown_of (HI.out _ (below_regrown _ _ _)))) | quiet_step ((go_at_call 49; exact Calls.regrown_of (HI.out _ (below_regrown _ _ _)))))); refine wpQuiet_nil ?_; intro w1 hb; obtain ⟨hc, hfz⟩ := bcell hb; (try simp only [World.heap_drewN] at hc hfz); have hz := hb.size)
    go_wp2
    go_ret
    exact ⟨⟨_, rfl, by simp [RV]⟩, hb⟩
  · obtain ⟨a, d, rfl, rfl, h1, h2, h3, h4, hn', -⟩ := gridOk_facts hq
    rw [hq] at hI
    have HI := Lib.hid hI
    have hwm : IntKind.i64.wrap ((a : Int) * (d : Int)) = (n : Int) := by
      have e : (a : Int) * (d : Int) = (n : Int) := by rw [hn', Int.natCast_mul]
      rw [e, IntKind.wrap_i64]
      omega
    have hw1 : IntKind.i64.wrap ((n : Int) - 1) = (n : Int) - 1 := by rw [IntKind.wrap_i64]; omega
    have HIN := Lib.hid (fun w => l00In_c i 0 ((n : Int) - 1) w)
    clear hI hX hq hn'
    go_enter Try.func68, Try.ntmps68
    go_wp2
    (refine region_below (by kernel_rfl) (by kernel_rfl) ?_; (repeat (first | go_big_quiet_step ((first | (go_at_call 49; exact Calls.regrown_of (HI.out _ (below_regrown _ _ _))) | (go_at_call 106; exact regrown_same (HIN.out _)))) | quiet_step ((first | (go_at_call 49; exact Calls.regrown_of (HI.out _ (below_regrown _ _ _))) | (go_at_call 106; exact regrown_same (HIN.out _)))))); refine wpQuiet_nil ?_; intro w1 hb; obtain ⟨hc, hfz⟩ := bcell hb; (try simp only [World.heap_drewN] at hc hfz); have hz := hb.size)
    go_wp2
    go_ret
    exact ⟨⟨_, rfl, by simp [RV]⟩, hb⟩
set_option maxRecDepth 100000 in
set_option maxHeartbeats 4000000 in
theorem isPlaceOf_c (b n c : Nat) (W H : Int) (X : Nat → Nat) (i : Int) (w : World) (hn : n ≤ 1048576) (hbl : b < w.heap.size) (hX : FlCells w b n X) :
    Calls Try.prog 70 #[.agg #[.int .i64 W, .int .i64 H, .slice (some ⟨b, 0, none⟩) n c], .int .i64 i] w (Ret (RV (.bool (idxOk W H n X i))) w) := by
  have HV := Lib.hid (fun (w' : World) (hB : Below w.heap.size w w') => iValidGrid_c b n c W H X w' hn (Nat.lt_of_lt_of_le hbl hB.size) (hX.dn hbl hB))
  have hN := gtc.newAt (w := w) (p := w.heap.size) (u := .int .i64 W) (v := .int .i64 H) (z := .slice (some ⟨b, 0, none⟩) n c) rfl
  have hb0 : Below w.heap.size w (w.alloc (.cells #[.int .i64 W, .int .i64 H, .slice (some ⟨b, 0, none⟩) n c] 30)) := by (with_reducible repeat (first | exact Below.refl _ _ | apply below_alloc | apply below_dN | apply below_d | refine below_setCell ?_ (by dsimp only; omega) | refine below_call (by assumption) ?_))
  have hs0 : (w.alloc (.cells #[.int .i64 W, .int .i64 H, .slice (some ⟨b, 0, none⟩) n c] 30)).heap.size = w.heap.size + 1 := by simp
  have HN := Lib.hid hN
  have HB0 := Lib.hid hb0
  have hw1 : IntKind.i64.wrap ((n : Int) - 1) = (n : Int) - 1 := by rw [IntKind.wrap_i64]; omega
  have HIN := Lib.hid (fun w => within_c i 0 ((n : Int) - 1) w)
  have HL := Lib.hid (fun w => length_c (.slice (some ⟨b, 0, none⟩) n c) _ n c rfl w)
  clear hX hN hb0
  unfold idxOk
  cases hq : gridOk W H n X
  · rw [hq] at HV
    go_enter Try.func70, Try.ntmps70
    go_wp2_with (first | (go_at_call 54; ((with_reducible refine (HV.out _ (by (with_reducible repeat (first | exact Below.refl _ _ | apply below_alloc | apply below_dN | apply below_d | refine below_setCell ?_ (by dsimp only; omega) | refine below_call (by assumption) ?_)))).mono ?_); rintro e w1 ⟨⟨v, rfl, rfl⟩, hb1⟩)))
    go_ret
    exact ⟨⟨_, rfl, by simp [RV]⟩, HB0.out.trans (hb1.mono (by omega))⟩
  · rw [hq] at HV
    go_enter Try.func70, Try.ntmps70
    go_wp2_with (first | ((go_at_call 54; ((with_reducible refine (HV.out _ (by (with_reducible repeat (first | exact Below.refl _ _ | apply below_alloc | apply below_dN | apply below_d | refine below_setCell ?_ (by dsimp only; omega) | refine below_call (by assumption) ?_)))).mono ?_); rintro e w1 ⟨⟨v, rfl, rfl⟩, hb1⟩)); have hNb := HN.out.below hb1; have d2 := hNb.c2; have dl := hNb.lt; have hB1 := HB0.out.trans (hb1.mono (by omega))) | (go_at_call 56; ((with_reducible refine (HL.out _).mono ?_); rintro e w2 ⟨⟨v, rfl, rfl⟩, hb2⟩)) | (go_at_call 109; ((with_reducible refine (HIN.out _).mono ?_); rintro e w' ⟨rfl, rfl⟩)))
    go_ret
    exact ⟨⟨_, rfl, by simp [RV]⟩, hB1.trans (hb2.mono hB1.size)⟩
end Go.Proofs.Ytpajakindpbepaa
