/- The law of UnpackPlaces. No condition. -/
import Derived.Test.YteecbhmgogndaaaUnpV
import Derived.Test.YteecbhmgogndaaaStrs
namespace Go.Proofs.Yteecbhmgogndaaa
open Go.RowKit
set_option linter.unusedSimpArgs false
set_option maxHeartbeats 400000 in
theorem sUnpackPlaces_c (s : ByteArray) (hs : s.size ≤ 1048576) (w : World) : Calls Try.prog 26 #[.string s] w (unpR s w) := by
  have H := Lib.hid (l07Unpack_c s hs)
  go_enter Try.func26, Try.ntmps26
  go_wp2_with (go_at_call 49; (with_reducible refine (H.out _).mono ?_); rintro e w1 (⟨m, v, hg, rfl, ho, hb⟩ | ⟨hg, rfl, hb⟩))
  · go_ret2
    exact .inl ⟨m, _, hg, rfl, ho, hb⟩
  · go_ret2
    exact .inr ⟨hg, rfl, hb⟩
theorem fofI_nan (k : FloatKind) (n : Int) : nanB k (fofI k n) = false := write_ok k (d := .number (n < 0) n.natAbs 0) rfl
theorem fofI_self (n : Int) : feq .f32 (fofI .f32 n) (fofI .f32 n) = true := by rw [feq_self, fofI_nan]; rfl
/-- A slice of places that may be written. -/
def PlRow (w : World) (lo : Nat) (v : Value) (n : Nat) (f : Nat → Value) : Prop := (v = .slice none 0 0 ∧ n = 0) ∨ ∃ g cap, v = .slice (some ⟨g, 0, none⟩) n cap ∧ n ≤ cap ∧ lo ≤ g ∧ w.rowIs g 29 (cap * 2) f
theorem PlRow.below {w w' : World} {lo n : Nat} {v : Value} {f : Nat → Value} (h : PlRow w lo v n f) (hb : Below w.heap.size w w') : PlRow w' lo v n f := h.imp id (fun ⟨g, cap, e, h1, h2, h3⟩ => ⟨g, cap, e, h1, h2, h3.of_block (hb.block g h3.lt)⟩)
theorem OwnPl.row {w : World} {B m : Nat} {v : Value} {X Y : Nat → Nat} (h : OwnPl w B v m X Y) : ∃ f, PlRow w B v m f := by
  obtain ⟨x, y, h1, -⟩ := h
  rcases h1.2 with ⟨rfl, e⟩ | ⟨g, cap, cur, rfl, h1, h2, h3, h4, h5, h6⟩
  · exact ⟨fun _ => undef, .inl ⟨rfl, e⟩⟩
  · refine ⟨fun i => (cur[i]?).getD undef, .inr ⟨g, cap, rfl, h3, h1, ⟨cur, h2, by omega, fun i hi => ?_⟩⟩⟩
    show cur[i]? = some ((cur[i]?).getD undef)
    rw [Array.getElem?_eq_getElem (by omega)]; rfl
/-- What a marked row holds. -/
def mkp (k n : Nat) (f : Nat → Value) (i : Nat) : Value := if i < 2 * n then .float .f32 (fofI .f32 ((k : Int) + (i : Int))) else f i
set_option maxRecDepth 100000 in
set_option maxHeartbeats 1000000 in
theorem markPlaceS_c (lo : Nat) (v : Value) (n k : Nat) (f : Nat → Value) (w : World) (hlo : lo ≤ w.heap.size) (hn : n ≤ 1048576) (hk : k ≤ 1048576) (h : PlRow w lo v n f) :
    Calls Try.prog 28 #[v, .int .i64 k] w fun e w' => e = .returned (.int .i64 ((k : Int) + 2 * (n : Int))) ∧ PlRow w' lo v n (mkp k n f) ∧ Below lo w w' := by
  rcases h with ⟨rfl, rfl⟩ | ⟨g, cap, rfl, hcap, hg, hrow⟩
  · go_enter Try.func28, Try.ntmps28
    go_wp2
    go_loopw [1, 5] (fun kk i wr => kk = .int .i64 k ∧ i = .int .i64 0 ∧ w = wr) (fun _ _ _ => 0)
    case atStart => exact ⟨rfl, rfl, rfl⟩
    case round =>
      obtain ⟨rfl, rfl, rfl⟩ := hrel
      go_wp2
      go_ret
      exact ⟨by simp, .inl ⟨rfl, rfl⟩, Below.refl _ _⟩
  · go_enter Try.func28, Try.ntmps28
    go_wp2
    go_loopw [1, 5] (fun kk i wr => ∃ m : Nat, m ≤ n ∧ kk = .int .i64 ((k : Int) + 2 * (m : Int)) ∧ i = .int .i64 m ∧ wr.rowIs g 29 (cap * 2) (mkp k m f) ∧ Below lo w wr) (fun _ i _ => n - (intOf i).toNat)
    case atStart => exact ⟨0, by omega, by simp, rfl, hrow.congr (fun i _ => by simp [mkp]), Below.refl _ _⟩
    case round =>
      obtain ⟨m, hm, rfl, rfl, hr, hB⟩ := hrel
      have hsz := hB.size
      by_cases hlt : m < n
      · have HB := Lib.hid hB
        clear hB
        have hl := hr.lt
        have c0 := hr.cell (i := m * 2) (by omega)
        have c1 := hr.cell (i := m * 2 + 1) (by omega)
        have f0 := hr.frozen (m * 2)
        have f1 := hr.frozen (m * 2 + 1)
        have HR := Lib.hid hr
        clear hr
        go_wp2
        go_roundw
        case rel => exact ⟨m + 1, by omega, by go_num, by go_num, ((HR.out.set (m * 2) _).set (m * 2 + 1) _).congr (fun i hi => by
          unfold mkp
          by_cases e : i = m * 2 + 1
          · subst e; rw [if_pos rfl, if_pos (by omega)]; congr 2; omega
          · rw [if_neg e]
            by_cases e2 : i = m * 2
            · subst e2; rw [if_pos rfl, if_pos (by omega)]; congr 2; omega
            · rw [if_neg e2]
              by_cases e3 : i < 2 * m
              · rw [if_pos e3, if_pos (by omega)]
              · rw [if_neg e3, if_neg (by omega)]), (HB.out.setCell (p := ⟨g, m * 2, none⟩) hg _).setCell (p := ⟨g, m * 2 + 1, none⟩) hg _⟩
        case measure => first | (simp [intOf]; done) | (simp [intOf]; omega)
      · obtain rfl : m = n := by omega
        have HR := Lib.hid hr
        have HB := Lib.hid hB
        clear hr hB
        go_wp2
        go_ret
        exact ⟨rfl, .inr ⟨g, cap, rfl, hcap, hg, HR.out⟩, HB.out⟩
set_option maxRecDepth 100000 in
set_option maxHeartbeats 1000000 in
theorem heldPlaceS_c (lo : Nat) (v : Value) (n k : Nat) (f : Nat → Value) (w : World) (hn : n ≤ 1048576) (hk : k ≤ 1048576) (h : PlRow w lo v n (mkp k n f)) :
    Calls Try.prog 29 #[v, .int .i64 k] w (Ret (RV (.int .i64 ((k : Int) + 2 * (n : Int)))) w) := by
  rcases h with ⟨rfl, rfl⟩ | ⟨g, cap, rfl, hcap, hg, hrow⟩
  · go_enter Try.func29, Try.ntmps29
    go_wp2
    go_loopw [1, 5] (fun kk i wr => kk = .int .i64 k ∧ i = .int .i64 0 ∧ w = wr) (fun _ _ _ => 0)
    case atStart => exact ⟨rfl, rfl, rfl⟩
    case round =>
      obtain ⟨rfl, rfl, rfl⟩ := hrel
      go_wp2
      go_ret
      exact ⟨⟨_, rfl, by simp [RV]⟩, Below.refl _ _⟩
  · go_enter Try.func29, Try.ntmps29
    go_wp2
    go_loopw [1, 5] (fun kk i wr => ∃ m : Nat, m ≤ n ∧ kk = .int .i64 ((k : Int) + 2 * (m : Int)) ∧ i = .int .i64 m ∧ Below w.heap.size w wr) (fun _ i _ => n - (intOf i).toNat)
    case atStart => exact ⟨0, by omega, by simp, rfl, Below.refl _ _⟩
    case round =>
      obtain ⟨m, hm, rfl, rfl, hB⟩ := hrel
      by_cases hlt : m < n
      · have c0 := hrow.cell (i := m * 2) (by omega)
        have c1 := hrow.cell (i := m * 2 + 1) (by omega)
        have hl := hrow.lt
        rw [← hB.cell (p := ⟨g, m * 2, none⟩) hl] at c0
        rw [← hB.cell (p := ⟨g, m * 2 + 1, none⟩) hl] at c1
        have hlw : g < wr.heap.size := Nat.lt_of_lt_of_le hl hB.size
        rw [show mkp k n f (m * 2) = .float .f32 (fofI .f32 ((k : Int) + 2 * (m : Int))) by unfold mkp; rw [if_pos (by omega)]; congr 2; omega] at c0
        rw [show mkp k n f (m * 2 + 1) = .float .f32 (fofI .f32 ((k : Int) + 2 * (m : Int) + 1)) by unfold mkp; rw [if_pos (by omega)]; congr 2; omega] at c1
        have q0 := fofI_self ((k : Int) + 2 * (m : Int))
        have q1 := fofI_self ((k : Int) + 2 * (m : Int) + 1)
        have HB := Lib.hid hB
        clear hrow hB
        go_wp2
        go_roundw
        case rel => exact ⟨m + 1, by omega, by go_num, by go_num, by have := HB.out; (with_reducible repeat (first | exact Below.refl _ _ | apply below_alloc | apply below_dN | apply below_d | refine below_setCell ?_ (by dsimp only; omega) | refine below_call (by assumption) ?_))⟩
        case measure => first | (simp [intOf]; done) | (simp [intOf]; omega)
      · obtain rfl : m = n := by omega
        have HB := Lib.hid hB
        clear hB
        go_wp2
        go_ret
        exact ⟨⟨_, rfl, rfl⟩, HB.out⟩
theorem eqPlaceS_zero (A A' : Option Addr) (c c' : Nat) (w : World) : Calls Try.prog 23 #[.slice A 0 c, .slice A' 0 c'] w (Ret (RV (.bool true)) w) := by
  go_enter Try.func23, Try.ntmps23
  go_wp2
  go_loopw [5] (fun k wr => k = .int .i64 0 ∧ w = wr) (fun _ _ => 0)
  case atStart => exact ⟨rfl, rfl⟩
  case round =>
    obtain ⟨rfl, rfl⟩ := hrel
    go_wp2
    go_ret
    exact ⟨⟨_, rfl, rfl⟩, Below.refl _ _⟩
theorem eqPl_c {B B' n : Nat} {v v' : Value} {X Y : Nat → Nat} {w : World} (hn : n ≤ 64) (h : OwnPl w B v n X Y) (h' : OwnPl w B' v' n X Y) : Calls Try.prog 23 #[v, v'] w (Ret (RV (.bool true)) w) := by
  by_cases hz : n = 0
  · subst hz
    obtain ⟨A, c, rfl⟩ := h.shape
    obtain ⟨A', c', rfl⟩ := h'.shape
    exact eqPlaceS_zero A A' c c' w
  · obtain ⟨g, c, rfl, hg, hW⟩ := h.slice (by omega)
    obtain ⟨g', c', rfl, hg', hW'⟩ := h'.slice (by omega)
    exact eqPlaceS_c g g' n c c' X Y w (by omega) hg hg' hW.cells hW'.cells
theorem good_le {s : ByteArray} {m : Nat} (h : good s m) : m ≤ 64 := h.2.2.2.1
theorem unp_both (s : ByteArray) (hs : s.size ≤ 1048576) : ∃ n ok X Y, n ≤ 64 ∧
    (∀ w, Calls Try.prog 26 #[.string s] w fun e w' => ∃ v, e = .returned (.tuple #[v, .bool ok]) ∧ OwnPl w' w.heap.size v n X Y ∧ Below w.heap.size w w') ∧
    (∀ w, Calls Try.prog 27 #[.string s] w fun e w' => ∃ v, e = .returned (.tuple #[v, .bool ok]) ∧ OwnPl w' w.heap.size v n X Y ∧ Below w.heap.size w w') := by
  by_cases hG : ∃ m, good s m
  · obtain ⟨m, hm⟩ := hG
    have key : ∀ w e w', unpR s w e w' → ∃ v, e = .returned (.tuple #[v, .bool true]) ∧ OwnPl w' w.heap.size v m (uX s) (uY s) ∧ Below w.heap.size w w' := fun w e w' h => by
      rcases h with ⟨k, v, hk, rfl, ho, hb⟩ | ⟨hk, -⟩
      · obtain rfl := hk.one hm
        exact ⟨v, rfl, ho, hb⟩
      · exact absurd hm (hk m)
    exact ⟨m, true, uX s, uY s, good_le hm, fun w => (sUnpackPlaces_c s hs w).mono fun e w' h => key w e w' h, fun w => (iUnpack_c s hs w).mono fun e w' h => key w e w' h⟩
  · have key : ∀ w e w', unpR s w e w' → ∃ v, e = .returned (.tuple #[v, .bool false]) ∧ OwnPl w' w.heap.size v 0 (uX s) (uY s) ∧ Below w.heap.size w w' := fun w e w' h => by
      rcases h with ⟨k, v, hk, -⟩ | ⟨hk, rfl, hb⟩
      · exact absurd ⟨k, hk⟩ hG
      · exact ⟨_, rfl, ⟨fun _ => 0, fun _ => 0, ⟨rfl, .inl ⟨rfl, rfl⟩⟩, fun j hj => absurd hj (by omega)⟩, hb⟩
    exact ⟨0, false, uX s, uY s, by omega, fun w => (sUnpackPlaces_c s hs w).mono fun e w' h => key w e w' h, fun w => (iUnpack_c s hs w).mono fun e w' h => key w e w' h⟩
theorem OwnPl.at {w w' : World} {lo B n : Nat} {v : Value} {X Y : Nat → Nat} (h : OwnPl w B v n X Y) (hb : Below lo w w') (hl : w.heap.size ≤ lo) : OwnPl w' B v n X Y := h.below (hb.mono hl)
set_option maxRecDepth 100000 in
set_option maxHeartbeats 4000000 in
theorem lawUnpackPlaces (s : ByteArray) (w : World) : Calls Try.prog 8 #[.string s] w fun e w' => e = .returned (.bool true) ∧ Below w.heap.size w w' := by
  by_cases hs : s.size ≤ 1048576
  · have h1 : ¬ ((1048576 : Int) < (s.size : Int)) := by omega
    obtain ⟨n, ok, X, Y, hn, hS, hI⟩ := unp_both s hs
    have HS := Lib.hid hS
    have HI := Lib.hid hI
    clear hS hI
    go_enter Try.func8, Try.ntmps8
    go_wp2_with (first | (go_at_call 26; (with_reducible refine (HS.out _).mono ?_); rintro e w1 ⟨v1, rfl, ho1, hb1⟩; have hl1 := hb1.size; have HO1 := Lib.hid ho1; clear ho1) | (go_at_call 27; (with_reducible refine (HI.out _).mono ?_); rintro e w2 ⟨v2, rfl, ho2, hb2⟩; have hl2 := hb2.size; have HO2 := Lib.hid ho2; clear ho2))
    (go_at_call 23; (with_reducible refine (eqPl_c hn HO2.out (HO1.out.below hb2)).mono ?_); rintro e w3 ⟨⟨_, rfl, rfl⟩, hb3⟩)
    have hl3 := hb3.size
    go_wp2_with fail
    obtain ⟨f, hr⟩ := HO2.out.row
    have hM := markPlaceS_c w1.heap.size v2 n 1 f w3 (by omega) (by omega) (by omega) (hr.below hb3)
    rw [show ((1 : Nat) : Int) = 1 from rfl] at hM
    (go_at_call 28; (with_reducible refine hM.mono ?_); rintro e w4 ⟨rfl, hr4, hb4⟩)
    clear hM hr
    have hl4 := hb4.size
    have HR4 := Lib.hid hr4
    have hH := heldPlaceS_c w1.heap.size v2 n 1 f w4 (by omega) (by omega) hr4
    rw [show ((1 : Nat) : Int) = 1 from rfl] at hH
    have HH := Lib.hid hH
    clear hr4 hH
    go_wp2_with (first | (go_at_call 29; (with_reducible refine (HH.out).mono ?_); rintro e w5 ⟨⟨_, rfl, rfl⟩, hb5⟩; have hl5 := hb5.size) | (go_at_call 27; (with_reducible refine (HI.out _).mono ?_); rintro e w6 ⟨v3, rfl, ho3, hb6⟩; have hl6 := hb6.size; have HO3 := Lib.hid ho3; clear ho3))
    have B15 : Below w1.heap.size w1 w5 := ((hb2.trans (hb3.mono (by omega))).trans hb4).trans (hb5.mono (by omega))
    have B16 := B15.trans (hb6.mono (by omega))
    (go_at_call 23; (with_reducible refine (eqPl_c hn HO3.out (HO1.out.below B16)).mono ?_); rintro e w7 ⟨⟨_, rfl, rfl⟩, hb7⟩)
    have hl7 := hb7.size
    have hH := heldPlaceS_c w1.heap.size v2 n 1 f w7 (by omega) (by omega) (((HR4.out.below hb5).below hb6).below hb7)
    rw [show ((1 : Nat) : Int) = 1 from rfl] at hH
    have HH2 := Lib.hid hH
    clear hH
    go_wp2_with (first | (go_at_call 29; (with_reducible refine (HH2.out).mono ?_); rintro e w8 ⟨⟨_, rfl, rfl⟩, hb8⟩))
    go_ret
    exact ⟨rfl, ((hb1.trans (B16.mono (by omega))).trans (hb7.mono (by omega))).trans (hb8.mono (by omega))⟩
  · have h1 : (1048576 : Int) < (s.size : Int) := by omega
    go_enter Try.func8, Try.ntmps8
    go_wp2
    go_ret
    exact ⟨rfl, by (with_reducible repeat (first | exact Below.refl _ _ | apply below_alloc | apply below_dN | apply below_d | refine below_setCell ?_ (by dsimp only; omega) | refine below_call (by assumption) ?_))⟩
end Go.Proofs.Yteecbhmgogndaaa
