/- Contracts of the laws' own words on slices of whole numbers, and of marking a net. No condition. -/
import Derived.Test.YtpmeccjfjjklkaaRtS
import Derived.Test.YtpmeccjfjjklkaaNetL
namespace Go.Proofs.Ytpmeccjfjjklkaa
open Go.RowKit
set_option linter.unusedSimpArgs false
/-- A slice of whole numbers that may be written. -/
def IArr (w : World) (lo : Nat) (v : Value) (n : Nat) (d : Nat → Int) : Prop := (n = 0 ∧ v = .slice none 0 0) ∨ ∃ g cap, v = .slice (some ⟨g, 0, none⟩) n cap ∧ lo ≤ g ∧ Dr w g n cap d
theorem IArr.below {w w' : World} {lo n : Nat} {v : Value} {d : Nat → Int} (h : IArr w lo v n d) (hb : Below w.heap.size w w') : IArr w' lo v n d := h.imp id (fun ⟨g, cap, e, h1, h2⟩ => ⟨g, cap, e, h1, h2.below hb⟩)
def IArg (w : World) (A : Option Addr) (n : Nat) (d : Nat → Int) : Prop := ∀ j, j < n → ∃ g, A = some ⟨g, 0, none⟩ ∧ g < w.heap.size ∧ w.cell? ⟨g, j, none⟩ = some (.int .i64 (d j))
theorem IArr.arg {w : World} {lo n : Nat} {v : Value} {d : Nat → Int} (h : IArr w lo v n d) : ∃ A c, v = .slice A n c ∧ IArg w A n d := by
  rcases h with ⟨rfl, rfl⟩ | ⟨g, cap, rfl, -, h2⟩
  · exact ⟨none, 0, rfl, fun j hj => absurd hj (by omega)⟩
  · exact ⟨_, _, rfl, fun j hj => ⟨g, rfl, h2.lt, h2.cell hj⟩⟩
theorem IArg.below {w w' : World} {A : Option Addr} {n : Nat} {d : Nat → Int} (h : IArg w A n d) (hb : Below w.heap.size w w') : IArg w' A n d := fun j hj => by
  obtain ⟨g, e, h0, h1⟩ := h j hj
  exact ⟨g, e, Nat.lt_of_lt_of_le h0 hb.size, (hb.cell (p := ⟨g, j, none⟩) h0).trans h1⟩
set_option maxRecDepth 100000 in
set_option maxHeartbeats 1000000 in
theorem eqI64_c (A A' : Option Addr) (n c c' : Nat) (d : Nat → Int) (w : World) (hn : n ≤ 1048576) (hA : IArg w A n d) (hA' : IArg w A' n d) :
    Calls Try.prog 29 #[.slice A n c, .slice A' n c'] w (Ret (RV (.bool true)) w) := by
  go_enter Try.func29, Try.ntmps29
  go_wp2
  go_loopw [5] (fun k wr => ∃ m : Nat, m ≤ n ∧ k = .int .i64 m ∧ Below w.heap.size w wr) (fun k _ => n - (intOf k).toNat)
  case atStart => exact ⟨0, by omega, rfl, by (with_reducible repeat (first | exact Below.refl _ _ | apply below_alloc | apply below_dN | apply below_d | refine below_setCell ?_ (by dsimp only; omega) | refine below_call (by assumption) ?_))⟩
  case round =>
    obtain ⟨m, hm, rfl, hB⟩ := hrel
    by_cases hlt : m < n
    · obtain ⟨g, rfl, hg, h0⟩ := hA.below hB m hlt
      obtain ⟨g', rfl, hg', h0'⟩ := hA'.below hB m hlt
      have HA := Lib.hid hA
      have HA' := Lib.hid hA'
      have HB := Lib.hid hB
      clear hA hA' hB
      go_wp2
      (refine region_below (by kernel_rfl) (by kernel_rfl) ?_; (repeat (first | go_big_quiet_step (fail) | quiet_step (fail))); refine wpQuiet_nil ?_; intro w1 hb; obtain ⟨hc, hfz⟩ := bcell hb; (try simp only [World.heap_drewN] at hc hfz); have hz := hb.size)
      go_wp2
      go_roundw
      case rel => exact ⟨m + 1, by omega, by go_num, by have := HB.out; (with_reducible repeat (first | exact Below.refl _ _ | apply below_alloc | apply below_dN | apply below_d | refine below_setCell ?_ (by dsimp only; omega) | refine below_call (by assumption) ?_))⟩
      case measure => first | (simp [intOf]; done) | (simp [intOf]; omega)
    · obtain rfl : m = n := by omega
      go_wp2
      go_ret
      exact ⟨⟨_, rfl, rfl⟩, by (with_reducible repeat (first | exact Below.refl _ _ | apply below_alloc | apply below_dN | apply below_d | refine below_setCell ?_ (by dsimp only; omega) | refine below_call (by assumption) ?_))⟩
theorem eqI64 {w : World} {lo lo' n : Nat} {v v' : Value} {d : Nat → Int} (hn : n ≤ 1048576) (h : IArr w lo v n d) (h' : IArr w lo' v' n d) : Calls Try.prog 29 #[v, v'] w (Ret (RV (.bool true)) w) := by
  obtain ⟨A, c, rfl, hA⟩ := h.arg
  obtain ⟨A', c', rfl, hA'⟩ := h'.arg
  exact eqI64_c A A' n c c' d w hn hA hA'
/-- What a marked row holds. -/
def mki (k n : Nat) (d : Nat → Int) (i : Nat) : Int := if i < n then (k : Int) + (i : Int) else d i
set_option maxRecDepth 100000 in
set_option maxHeartbeats 1000000 in
theorem markI64_c (lo : Nat) (v : Value) (n k : Nat) (d : Nat → Int) (w : World) (hlo : lo ≤ w.heap.size) (hn : n ≤ 1048576) (hk : k ≤ 1048576) (h : IArr w lo v n d) :
    Calls Try.prog 30 #[v, .int .i64 k] w fun e w' => e = .returned (.int .i64 ((k : Int) + (n : Int))) ∧ IArr w' lo v n (mki k n d) ∧ Below lo w w' := by
  rcases h with ⟨rfl, rfl⟩ | ⟨g, cap, rfl, hg, hrow⟩
  · go_enter Try.func30, Try.ntmps30
    go_wp2
    go_loopw [1, 5] (fun kk i wr => kk = .int .i64 k ∧ i = .int .i64 0 ∧ w = wr) (fun _ _ _ => 0)
    case atStart => exact ⟨rfl, rfl, rfl⟩
    case round =>
      obtain ⟨rfl, rfl, rfl⟩ := hrel
      go_wp2
      go_ret
      exact ⟨by simp, .inl ⟨rfl, rfl⟩, Below.refl _ _⟩
  · go_enter Try.func30, Try.ntmps30
    go_wp2
    go_loopw [1, 5] (fun kk i wr => ∃ m : Nat, m ≤ n ∧ kk = .int .i64 ((k : Int) + (m : Int)) ∧ i = .int .i64 m ∧ Dr wr g n cap (mki k m d) ∧ Below lo w wr) (fun _ i _ => n - (intOf i).toNat)
    case atStart => exact ⟨0, by omega, by simp, rfl, hrow.congr (fun i _ => by simp [mki]), Below.refl _ _⟩
    case round =>
      obtain ⟨m, hm, rfl, rfl, hr, hB⟩ := hrel
      by_cases hlt : m < n
      · have c0 := hr.cell hlt
        have f0 := hr.fr m
        have hl := hr.lt
        have HR := Lib.hid hr
        have HB := Lib.hid hB
        clear hr hB
        go_wp2
        go_roundw
        case rel => exact ⟨m + 1, by omega, by go_num, by go_num, (HR.out.set m _).congr (fun i hi => by
          unfold mki
          by_cases e : i = m
          · subst e; rw [if_pos rfl, if_pos (by omega)]
          · rw [if_neg e]
            by_cases e2 : i < m
            · rw [if_pos e2, if_pos (by omega)]
            · rw [if_neg e2, if_neg (by omega)]), HB.out.setCell (p := ⟨g, m, none⟩) hg _⟩
        case measure => first | (simp [intOf]; done) | (simp [intOf]; omega)
      · obtain rfl : m = n := by omega
        have HR := Lib.hid hr
        have HB := Lib.hid hB
        clear hr hB
        go_wp2
        go_ret
        exact ⟨rfl, .inr ⟨g, cap, rfl, hg, HR.out⟩, HB.out⟩
set_option maxRecDepth 100000 in
set_option maxHeartbeats 1000000 in
theorem heldI64_c (lo : Nat) (v : Value) (n k : Nat) (d : Nat → Int) (w : World) (hn : n ≤ 1048576) (hk : k ≤ 1048576) (h : IArr w lo v n (mki k n d)) :
    Calls Try.prog 31 #[v, .int .i64 k] w (Ret (RV (.int .i64 ((k : Int) + (n : Int)))) w) := by
  rcases h with ⟨rfl, rfl⟩ | ⟨g, cap, rfl, hg, hrow⟩
  · go_enter Try.func31, Try.ntmps31
    go_wp2
    go_loopw [1, 5] (fun kk i wr => kk = .int .i64 k ∧ i = .int .i64 0 ∧ w = wr) (fun _ _ _ => 0)
    case atStart => exact ⟨rfl, rfl, rfl⟩
    case round =>
      obtain ⟨rfl, rfl, rfl⟩ := hrel
      go_wp2
      go_ret
      exact ⟨⟨_, rfl, by simp [RV]⟩, Below.refl _ _⟩
  · go_enter Try.func31, Try.ntmps31
    go_wp2
    go_loopw [1, 5] (fun kk i wr => ∃ m : Nat, m ≤ n ∧ kk = .int .i64 ((k : Int) + (m : Int)) ∧ i = .int .i64 m ∧ Below w.heap.size w wr) (fun _ i _ => n - (intOf i).toNat)
    case atStart => exact ⟨0, by omega, by simp, rfl, Below.refl _ _⟩
    case round =>
      obtain ⟨m, hm, rfl, rfl, hB⟩ := hrel
      by_cases hlt : m < n
      · have hr := hrow.below hB
        have c0 := hr.cell hlt
        rw [show mki k n d m = (k : Int) + (m : Int) by unfold mki; rw [if_pos hlt]] at c0
        have hl := hr.lt
        have HR := Lib.hid hrow
        have HB := Lib.hid hB
        clear hrow hB hr
        go_wp2
        go_roundw
        case rel => exact ⟨m + 1, by omega, by go_num, by go_num, by have := HB.out; (with_reducible repeat (first | exact Below.refl _ _ | apply below_alloc | apply below_dN | apply below_d | refine below_setCell ?_ (by dsimp only; omega) | refine below_call (by assumption) ?_))⟩
        case measure => first | (simp [intOf]; done) | (simp [intOf]; omega)
      · obtain rfl : m = n := by omega
        have HB := Lib.hid hB
        clear hB
        go_wp2
        go_ret
        exact ⟨⟨_, rfl, rfl⟩, HB.out⟩
end Go.Proofs.Ytpmeccjfjjklkaa
