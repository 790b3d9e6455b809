/- Marks on the three slices of a desk, each in a block of its own. No condition. -/
import Derived.Test.YtpajakindpbepaaGX
import Derived.Test.YtpajakindpbepaaGL
namespace Go.Proofs.Ytpajakindpbepaa
open Go.RowKit
set_option linter.unusedSimpArgs false
theorem fofI_nan (k : FloatKind) (n : Int) : nanB k (fofI k n) = false := write_ok k (d := .number (n < 0) n.natAbs 0) rfl
theorem fofI_self (n : Int) : feq .f32 (fofI .f32 n) (fofI .f32 n) = true := by rw [feq_self, fofI_nan]; rfl
/-- What marked places hold. -/
def mkp (k n : Nat) (f : Nat → Value) (i : Nat) : Value := if i < 2 * n then .float .f32 (fofI .f32 ((k : Int) + (i : Int))) else f i
set_option maxRecDepth 100000 in
set_option maxHeartbeats 1000000 in
theorem markPl3_c (lo g n N cap k : Nat) (F : Nat → Value) (w : World) (hg : lo ≤ g) (hn : n ≤ 1048576) (hk : k ≤ 1048576) (hN : n * 2 ≤ N) (hrow : w.rowIs g 65 N F) :
    Calls Try.prog 88 #[.slice (some ⟨g, 0, none⟩) n cap, .int .i64 k] w fun e w' => e = .returned (.int .i64 ((k : Int) + 2 * (n : Int))) ∧ w'.rowIs g 65 N (mkp k n F) ∧ Keep1 g w w' ∧ Below lo w w' := by
  have hlg : g < w.heap.size := hrow.lt
  go_enter Try.func88, Try.ntmps88
  go_wp2
  go_loopw [1, 5] (fun kk i wr => ∃ m : Nat, m ≤ n ∧ kk = .int .i64 ((k : Int) + 2 * (m : Int)) ∧ i = .int .i64 m ∧ wr.rowIs g 65 N (mkp k m F) ∧ Keep1 g w wr ∧ Below lo w wr) (fun _ i _ => n - (intOf i).toNat)
  case atStart => exact ⟨0, by omega, by simp, rfl, hrow.congr (fun i _ => by simp [mkp]), Keep1.refl _ _, Below.refl _ _⟩
  case round =>
    obtain ⟨m, hm, rfl, rfl, hr, hK, hB⟩ := hrel
    have hsz := hB.size
    by_cases hlt : m < n
    · have HB := Lib.hid hB
      have HK := Lib.hid hK
      clear hB hK
      have hl := hr.lt
      have c0 := hr.cell (i := m * 2) (by omega)
      have c1 := hr.cell (i := m * 2 + 1) (by omega)
      have f0 := hr.frozen (m * 2)
      have f1 := hr.frozen (m * 2 + 1)
      have HR := Lib.hid hr
      clear hr hrow
      go_wp2
      go_roundw
      case rel => exact ⟨m + 1, by omega, by go_num, by go_num, ((HR.out.set (m * 2) _).set (m * 2 + 1) _).congr (fun i hi => by
        unfold mkp
        by_cases e : i = m * 2 + 1
        · subst e; rw [if_pos rfl, if_pos (by omega)]; congr 2; omega
        · rw [if_neg e]
          by_cases e2 : i = m * 2
          · subst e2; rw [if_pos rfl, if_pos (by omega)]; congr 2; omega
          · rw [if_neg e2]
            by_cases e3 : i < 2 * m
            · rw [if_pos e3, if_pos (by omega)]
            · rw [if_neg e3, if_neg (by omega)]), (HK.out.set _).set _, (HB.out.setCell (p := ⟨g, m * 2, none⟩) hg _).setCell (p := ⟨g, m * 2 + 1, none⟩) hg _⟩
      case measure => first | (simp [intOf]; done) | (simp [intOf]; omega)
    · obtain rfl : m = n := by omega
      have HR := Lib.hid hr
      have HB := Lib.hid hB
      have HK := Lib.hid hK
      clear hr hB hK hrow
      go_wp2
      go_ret
      exact ⟨rfl, HR.out, HK.out, HB.out⟩
set_option maxRecDepth 100000 in
set_option maxHeartbeats 1000000 in
theorem heldPl3_c (g n N cap k : Nat) (F f : Nat → Value) (w : World) (hn : n ≤ 1048576) (hk : k ≤ 1048576) (hN : n * 2 ≤ N) (hrow : w.rowIs g 65 N (mkp k n F)) :
    Calls Try.prog 89 #[.slice (some ⟨g, 0, none⟩) n cap, .int .i64 k] w (Ret (RV (.int .i64 ((k : Int) + 2 * (n : Int)))) w) := by
  go_enter Try.func89, Try.ntmps89
  go_wp2
  go_loopw [1, 5] (fun kk i wr => ∃ m : Nat, m ≤ n ∧ kk = .int .i64 ((k : Int) + 2 * (m : Int)) ∧ i = .int .i64 m ∧ Below w.heap.size w wr) (fun _ i _ => n - (intOf i).toNat)
  case atStart => exact ⟨0, by omega, by simp, rfl, Below.refl _ _⟩
  case round =>
    obtain ⟨m, hm, rfl, rfl, hB⟩ := hrel
    by_cases hlt : m < n
    · have c0 := hrow.cell (i := m * 2) (by omega)
      have c1 := hrow.cell (i := m * 2 + 1) (by omega)
      have hl := hrow.lt
      rw [← hB.cell (p := ⟨g, m * 2, none⟩) hl] at c0
      rw [← hB.cell (p := ⟨g, m * 2 + 1, none⟩) hl] at c1
      have hlw : g < wr.heap.size := Nat.lt_of_lt_of_le hl hB.size
      rw [show mkp k n F (m * 2) = .float .f32 (fofI .f32 ((k : Int) + 2 * (m : Int))) by unfold mkp; rw [if_pos (by omega)]; congr 2; omega] at c0
      rw [show mkp k n F (m * 2 + 1) = .float .f32 (fofI .f32 ((k : Int) + 2 * (m : Int) + 1)) by unfold mkp; rw [if_pos (by omega)]; congr 2; omega] at c1
      have q0 := fofI_self ((k : Int) + 2 * (m : Int))
      have q1 := fofI_self ((k : Int) + 2 * (m : Int) + 1)
      have HB := Lib.hid hB
      clear hrow hB
      go_wp2
      go_roundw
      case rel => exact ⟨m + 1, by omega, by go_num, by go_num, by have := HB.out; (with_reducible repeat (first | exact Below.refl _ _ | apply below_alloc | apply below_dN | apply below_d | refine below_setCell ?_ (by dsimp only; omega) | refine below_call (by assumption) ?_))⟩
      case measure => first | (simp [intOf]; done) | (simp [intOf]; omega)
    · obtain rfl : m = n := by omega
      have HB := Lib.hid hB
      clear hB hrow
      go_wp2
      go_ret
      exact ⟨⟨_, rfl, rfl⟩, HB.out⟩
/-- Marked heights. -/
def MkF (k n : Nat) (G : Nat → Value) : Prop := ∀ j, j < n → G j = .float .f32 (fofI .f32 ((k : Int) + (j : Int)))
set_option maxRecDepth 100000 in
set_option maxHeartbeats 1000000 in
theorem markF3_c (lo g n N cap k : Nat) (F : Nat → Value) (w : World) (hg : lo ≤ g) (hn : n ≤ 1048576) (hk : k ≤ 1048576) (hN : n ≤ N) (hrow : w.rowIs g 25 N F) :
    Calls Try.prog 61 #[.slice (some ⟨g, 0, none⟩) n cap, .int .i64 k] w fun e w' => e = .returned (.int .i64 ((k : Int) + (n : Int))) ∧ (∃ G, w'.rowIs g 25 N G ∧ MkF k n G) ∧ Keep1 g w w' ∧ Below lo w w' := by
  go_enter Try.func61, Try.ntmps61
  go_wp2
  go_loopw [1, 5] (fun kk i wr => ∃ (m : Nat) (f : Nat → Value), m ≤ n ∧ kk = .int .i64 ((k : Int) + (m : Int)) ∧ i = .int .i64 m ∧ wr.rowIs g 25 N f ∧ MkF k m f ∧ Below lo w wr ∧ Keep1 g w wr) (fun _ i _ => n - (intOf i).toNat)
  case atStart => exact ⟨0, F, by omega, by simp, rfl, hrow, fun j hj => absurd hj (by omega), Below.refl _ _, Keep1.refl _ _⟩
  case round =>
    obtain ⟨m, f, hm, rfl, rfl, hr, hM, hB, hK⟩ := hrel
    have HM := Lib.hid hM
    have HB := Lib.hid hB
    have HK := Lib.hid hK
    have hl := hr.lt
    have HR := Lib.hid hr
    by_cases hlt : m < n
    · have c0 := hr.cell (i := m) (by omega)
      have f0 := hr.frozen m
      clear hr hB hK hM
      go_wp2
      go_roundw
      case rel => exact ⟨m + 1, _, by omega, by go_num, by go_num, HR.out.set m _, fun j hj => by
        by_cases e : j = m
        · subst e; simp only [if_true]
        · simp only [if_neg e]; exact HM.out j (by omega), HB.out.setCell (p := ⟨g, m, none⟩) hg _, HK.out.set _⟩
      case measure => first | (simp [intOf]; done) | (simp [intOf]; omega)
    · obtain rfl : m = n := by omega
      clear hr hB hK hM
      go_wp2
      go_ret
      exact ⟨rfl, ⟨f, HR.out, HM.out⟩, HK.out, HB.out⟩
set_option maxRecDepth 100000 in
set_option maxHeartbeats 1000000 in
theorem heldF3_c (g n N cap k : Nat) (G : Nat → Value) (w : World) (hn : n ≤ 1048576) (hk : k ≤ 1048576) (hN : n ≤ N) (hrow : w.rowIs g 25 N G) (hG : MkF k n G) :
    Calls Try.prog 112 #[.slice (some ⟨g, 0, none⟩) n cap, .int .i64 k] w (Ret (RV (.int .i64 ((k : Int) + (n : Int)))) w) := by
  have HG := Lib.hid hG
  have HRow := Lib.hid hrow
  clear hG hrow
  go_enter Try.func112, Try.ntmps112
  go_wp2
  go_loopw [1, 5] (fun kk i wr => ∃ m : Nat, m ≤ n ∧ kk = .int .i64 ((k : Int) + (m : Int)) ∧ i = .int .i64 m ∧ Below w.heap.size w wr) (fun _ i _ => n - (intOf i).toNat)
  case atStart => exact ⟨0, by omega, by simp, rfl, Below.refl _ _⟩
  case round =>
    obtain ⟨m, hm, rfl, rfl, hB⟩ := hrel
    have HB := Lib.hid hB
    by_cases hlt : m < n
    · have hl := HRow.out.lt
      have hlw : g < wr.heap.size := Nat.lt_of_lt_of_le hl hB.size
      have c0 := HRow.out.cell (i := m) (by omega)
      rw [← hB.cell (p := ⟨g, m, none⟩) hl, HG.out m hlt] at c0
      have q0 := fofI_self ((k : Int) + (m : Int))
      clear hB
      go_wp2
      go_roundw
      case rel => exact ⟨m + 1, by omega, by go_num, by go_num, by have := HB.out; (with_reducible repeat (first | exact Below.refl _ _ | apply below_alloc | apply below_dN | apply below_d | refine below_setCell ?_ (by dsimp only; omega) | refine below_call (by assumption) ?_))⟩
      case measure => first | (simp [intOf]; done) | (simp [intOf]; omega)
    · obtain rfl : m = n := by omega
      clear hB
      go_wp2
      go_ret
      exact ⟨⟨_, rfl, rfl⟩, HB.out⟩
/-- Marked complex numbers. -/
def MkC (k n : Nat) (G : Nat → Value) : Prop := ∀ j, j < n → G j = .complex .f32 (mC (k + j)) 1065353216
def AllC (n : Nat) (G : Nat → Value) : Prop := ∀ j, j < n → ∃ a b, G j = .complex .f32 a b
theorem Keep1.drewN {g k : Nat} {w w' : World} (h : Keep1 g w w') : Keep1 g w (w'.drewN k) := h
set_option maxRecDepth 100000 in
set_option maxHeartbeats 2000000 in
theorem markC3_c (lo g n cap k N : Nat) (F : Nat → Value) (w : World) (hg : lo ≤ g) (hn : k + n ≤ 1400) (hcap : n ≤ N) (hrow : w.rowIs g 59 N F) (hF : AllC n F) :
    Calls Try.prog 18 #[.slice (some ⟨g, 0, none⟩) n cap, .int .i64 k] w fun e w' => e = .returned (.int .i64 ((k : Int) + (n : Int))) ∧ (∃ G, w'.rowIs g 59 N G ∧ MkC k n G) ∧ Keep1 g w w' ∧ Below lo w w' := by
  go_enter Try.func18, Try.ntmps18
  go_wp2
  go_loopw [1, 5] (fun kk i wr => ∃ (m : Nat) (G : Nat → Value), m ≤ n ∧ kk = .int .i64 ((k : Int) + (m : Int)) ∧ i = .int .i64 m ∧ wr.rowIs g 59 N G ∧ MkC k m G ∧ AllC n G ∧ Below lo w wr ∧ Keep1 g w wr) (fun _ i _ => n - (intOf i).toNat)
  case atStart => exact ⟨0, F, by omega, by simp, rfl, hrow, fun j hj => absurd hj (by omega), hF, Below.refl _ _, Keep1.refl _ _⟩
  case round =>
    obtain ⟨m, G, hm, rfl, rfl, hr, hG, hGc, hB, hK⟩ := hrel
    have HK := Lib.hid hK
    clear hK
    have HGC := Lib.hid hGc
    clear hGc
    by_cases hlt : m < n
    · have c0 := hr.cell (i := m) (by omega)
      obtain ⟨a0, b0, e0⟩ := HGC.out m hlt
      rw [e0] at c0
      have c0' : ∀ k, (wr.drewN k).cell? ⟨g, m, none⟩ = some (.complex .f32 a0 b0) := fun k => c0
      have f0' : ∀ k, (wr.drewN k).frozen? ⟨g, m, none⟩ = false := fun k => hr.frozen m
      have f0 := hr.frozen m
      have hl := hr.lt
      obtain ⟨nf, hnf⟩ := mark_run (P := Try.prog) 87 59 62 25 Try.underlying87 Try.underlying59 Try.underlying62 Try.underlying25 (show k + m < 1500 by omega)
      rw [show ((k + m : Nat) : Int) = (k : Int) + (m : Int) by omega] at hnf
      have HR := Lib.hid hr
      have HG := Lib.hid hG
      have HB := Lib.hid hB
      have hmi : (m : Int) < (n : Int) := by omega
      clear hr hB hG
      go_wp2
      have hr2 : (wr.drewN (nf wr)).rowIs g 59 N G := HR.out
      go_roundw
      case rel => exact ⟨m + 1, _, by omega, by go_num, by go_num, hr2.set m _, fun j hj => by
        by_cases e : j = m
        · subst e; simp only [if_true]
        · simp only [if_neg e]; exact HG.out j (by omega), fun j hj => by
        by_cases e : j = m
        · subst e; exact ⟨_, _, by simp only [if_true]; rfl⟩
        · simp only [if_neg e]; exact HGC.out j hj, (below_lodN HB.out).setCell (p := ⟨g, m, none⟩) hg _, Keep1.set (Keep1.drewN HK.out) _⟩
      case measure => first | (simp [intOf]; done) | (simp [intOf]; omega)
    · obtain rfl : m = n := by omega
      have hmi : ¬ ((m : Int) < (m : Int)) := by omega
      have HR := Lib.hid hr
      have HG := Lib.hid hG
      have HB := Lib.hid hB
      clear hr hB hG
      go_wp2
      go_ret
      exact ⟨by simp, ⟨G, HR.out, HG.out⟩, HK.out, HB.out⟩
set_option maxRecDepth 100000 in
set_option maxHeartbeats 2000000 in
theorem heldC3_c (g n cap k N : Nat) (F : Nat → Value) (w : World) (hn : k + n ≤ 1400) (hcap : n ≤ N) (hrow : w.rowIs g 59 N F) (hF : MkC k n F) :
    Calls Try.prog 19 #[.slice (some ⟨g, 0, none⟩) n cap, .int .i64 k] w (Ret (RV (.int .i64 ((k : Int) + (n : Int)))) w) := by
  go_enter Try.func19, Try.ntmps19
  go_wp2
  go_loopw [1, 5] (fun kk i wr => ∃ (m : Nat), m ≤ n ∧ kk = .int .i64 ((k : Int) + (m : Int)) ∧ i = .int .i64 m ∧ Below w.heap.size w wr) (fun _ i _ => n - (intOf i).toNat)
  case atStart => exact ⟨0, by omega, by simp, rfl, Below.refl _ _⟩
  case round =>
    obtain ⟨m, hm, rfl, rfl, hB⟩ := hrel
    by_cases hlt : m < n
    · have hr := hrow.of_block (hB.block g hrow.lt)
      have c0 := hr.cell (i := m) (by omega)
      rw [hF m hlt] at c0
      have hl := hr.lt
      obtain ⟨-, -, k3, -⟩ := mc_facts (show k + m < 1500 by omega)
      have k4 : feq .f32 1065353216 1065353216 = true := by decide +kernel
      have k3' : (FloatKind.f32.format.order (mC (k + m)) (mC (k + m)) == some .eq) = true := k3
      have k4' : (FloatKind.f32.format.order 1065353216 1065353216 == some .eq) = true := k4
      obtain ⟨nf, hnf⟩ := mark_run (P := Try.prog) 87 59 62 25 Try.underlying87 Try.underlying59 Try.underlying62 Try.underlying25 (show k + m < 1500 by omega)
      rw [show ((k + m : Nat) : Int) = (k : Int) + (m : Int) by omega] at hnf
      have HR := Lib.hid hrow
      have HB := Lib.hid hB
      have hmi : (m : Int) < (n : Int) := by omega
      clear hrow hB hr k3 k4
      go_wp2
      go_roundw
      case rel => exact ⟨m + 1, by omega, by go_num, by go_num, below_dN HB.out⟩
      case measure => first | (simp [intOf]; done) | (simp [intOf]; omega)
    · obtain rfl : m = n := by omega
      have hmi : ¬ ((m : Int) < (m : Int)) := by omega
      have HB := Lib.hid hB
      clear hB
      go_wp2
      go_ret
      exact ⟨⟨_, rfl, rfl⟩, HB.out⟩
end Go.Proofs.Ytpajakindpbepaa
