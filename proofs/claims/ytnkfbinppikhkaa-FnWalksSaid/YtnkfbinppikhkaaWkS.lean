/- Pieces of a line. No condition. -/
import Derived.Test.YtnkfbinppikhkaaWkA
import Derived.Deep.RegionLaw
namespace Go.Proofs.Ytnkfbinppikhkaa
open Go.RowKit Go.Deep
set_option linter.unusedSimpArgs false
theorem grown_drew {w w' : World} {r : Option Nat} (h : w.drew.grownBy w' r) : w.grownBy w' r := ⟨h.os, h.tape, h.output, h.size, h.block⟩
theorem info_pc2 : (Try.prog.info? 46).map (fun i => (i.zero, i.size, i.bytes)) = some (some (.agg #[.complex .f32 0 0, .complex .f32 0 0]), 2, 16) := by kernel_rfl
/-- Pieces that can be read. -/
def PcArg (w : World) (A : Option Addr) (n : Nat) (X Y : Nat → Nat) : Prop := ∀ j, j < n → ∃ g, A = some ⟨g, 0, none⟩ ∧ g < w.heap.size ∧ ∃ a b c d, w.cell? ⟨g, j * 2, none⟩ = some (.complex .f32 a b) ∧ w.cell? ⟨g, j * 2 + 1, none⟩ = some (.complex .f32 c d) ∧ cn .f32 a = X j ∧ cn .f32 b = Y j ∧ cn .f32 c = X (j + 1) ∧ cn .f32 d = Y (j + 1)
theorem PcArg.below {w w' : World} {A : Option Addr} {n : Nat} {X Y : Nat → Nat} (h : PcArg w A n X Y) (hb : Below w.heap.size w w') : PcArg w' A n X Y := fun j hj => by
  obtain ⟨g, e, h0, a, b, c, d, h1, h2, h3⟩ := h j hj
  exact ⟨g, e, Nat.lt_of_lt_of_le h0 hb.size, a, b, c, d, (hb.cell (p := ⟨g, j * 2, none⟩) h0).trans h1, (hb.cell (p := ⟨g, j * 2 + 1, none⟩) h0).trans h2, h3⟩
def pcV (X Y : Nat → Nat) (xs : List Value) (m : Nat) : Prop := ∀ j, j < m → ∃ a b c d, xs[j * 2]? = some (.complex .f32 a b) ∧ xs[j * 2 + 1]? = some (.complex .f32 c d) ∧ cn .f32 a = X j ∧ cn .f32 b = Y j ∧ cn .f32 c = X (j + 1) ∧ cn .f32 d = Y (j + 1)
theorem pcV.snoc {X Y : Nat → Nat} {xs : List Value} {m a b c d : Nat} (h : pcV X Y xs m) (hl : xs.length = m * 2) (h1 : cn .f32 a = X m) (h2 : cn .f32 b = Y m) (h3 : cn .f32 c = X (m + 1)) (h4 : cn .f32 d = Y (m + 1)) : pcV X Y (xs ++ [.complex .f32 a b, .complex .f32 c d]) (m + 1) := fun j hj => by
  by_cases e : j = m
  · subst e
    exact ⟨a, b, c, d, by rw [List.getElem?_append_right (by omega), hl, Nat.sub_self]; rfl, by rw [List.getElem?_append_right (by omega), hl, show j * 2 + 1 - j * 2 = 1 by omega]; rfl, h1, h2, h3, h4⟩
  · obtain ⟨a', b', c', d', e1, e2, e3⟩ := h j (by omega)
    exact ⟨a', b', c', d', by rw [List.getElem?_append_left (by omega)]; exact e1, by rw [List.getElem?_append_left (by omega)]; exact e2, e3⟩
theorem pcV.arg {w : World} {lo n : Nat} {v : Value} {xs : List Value} {X Y : Nat → Nat} (h : w.ownsRow lo 46 2 v n xs) (hx : pcV X Y xs n) : ∃ A c, v = .slice A n c ∧ PcArg w A n X Y := by
  rcases h.2 with ⟨rfl, rfl⟩ | ⟨g, cap, cur, rfl, h1, h2, h3, h4, h5, h6⟩
  · exact ⟨none, 0, rfl, fun j hj => absurd hj (by omega)⟩
  · have hc := h.cells (g := g) rfl
    refine ⟨_, _, rfl, fun j hj => ?_⟩
    obtain ⟨a, b, c, d, e1, e2, e3⟩ := hx j hj
    have q1 := hc _ _ e1
    have q2 := hc _ _ e2
    have ha : ∀ i, (⟨g, 0, none⟩ : Addr).add i = ⟨g, i, none⟩ := fun i => by unfold Addr.add; split <;> simp_all
    rw [ha] at q1 q2
    exact ⟨g, rfl, (Array.getElem?_eq_some_iff.1 h2).1, a, b, c, d, q1, q2, e3⟩
def PcRes (n : Nat) (X Y : Nat → Nat) (w : World) (e : Ending) (w' : World) : Prop := ∃ A' c', e = .returned (.slice A' n c') ∧ PcArg w' A' n X Y ∧ Below w.heap.size w w'
set_option maxRecDepth 100000 in
set_option maxHeartbeats 8000000 in
theorem piecesOf_c (A : Option Addr) (n c : Nat) (X Y : Nat → Nat) (w : World) (h2 : 1 ≤ n) (hn : n ≤ 32) (hA : CxArg w A n X Y) :
    Calls Try.prog 15 #[.slice A n c, .bool false] w (PcRes (n - 1) X Y w) := by
  obtain ⟨i0, hi0, hI0, hI1, hI2⟩ := info_parts info_pc2
  go_enter Try.func15, Try.ntmps15
  go_wp2
  go_loopw [5, 6] (fun v k wr => ∃ (m : Nat) (xs : List Value), m + 1 ≤ n ∧ k = .int .i64 ((m : Int) + 1) ∧ wr.ownsRow w.heap.size 46 2 v m xs ∧ pcV X Y xs m ∧ Below w.heap.size w wr) (fun _ k _ => n - (intOf k).toNat)
  case atStart => exact ⟨0, [], by omega, rfl, World.ownsRow_nil _ _ _ _, fun j hj => absurd hj (by omega), Below.refl _ _⟩
  case round =>
    rename World => wO
    obtain ⟨m, xs, hm, rfl, hown, hxs, hB⟩ := hrel
    have hsO := hB.size
    by_cases hlt : m + 1 < n
    · have hlt' : (m : Int) + 1 < (n : Int) := by omega
      obtain ⟨g, rfl, hg, p, q, c0, hp, hq⟩ := hA.below hB m (by omega)
      obtain ⟨g', e', hg', p', q', c1, hp', hq'⟩ := hA.below hB (m + 1) (by omega)
      obtain rfl : g = g' := by cases e'; rfl
      have hl := hown.1
      have hgw : g < w.heap.size := by
        obtain ⟨g2, e2, h3, -⟩ := hA m (by omega)
        cases e2
        exact h3
      have hne : u5.ownBlock ≠ some g := fun e => by have := (hown.lt _ e).1; omega
      have HA := Lib.hid hA
      have HXS := Lib.hid hxs
      have HB := Lib.hid hB
      have HOWN := Lib.hid hown
      have hwr : IntKind.i64.wrap (m : Int) = (m : Int) := by rw [IntKind.wrap_i64]; omega
      have hi3 : 0 ≤ (m : Int) + 1 := by omega
      have hi1 : 0 ≤ (m : Int) := by omega
      have hi2 : (m : Int) < (n : Int) := by omega
      clear hA hxs hB e'
      go_upto_region 5 with fail
      go_region_law ((refine step_append_lies _ (by rfl) (.tmp 13) (.tmp 24) 44 (by rfl) w.heap.size 46 i0 (.agg #[.complex .f32 0 0, .complex .f32 0 0]) 2 16 Try.underlying44 hi0 hI0 hI1 hI2 (by rfl) (by decide) u5 m xs (by rfl) ((hown.alloc _).drew) ⟨wO.heap.size, 0, none⟩ 1 1 [.complex .f32 p q, .complex .f32 p' q'] (by rfl) (by rfl) (World.news_of_block (cs := #[.complex .f32 p q, .complex .f32 p' q']) (t := 46) (fr := (0, 0)) (heap_alloc_new wO _)) (by simp [Value.oneCell']) (by omega) (by unfold maxLen; omega) (by omega) (by simp; omega) (wO.heap.size + 1) (by simp) ?_; intro g6 c6 wB hownB hgrowB hatB hltB))
      all_goals
        have hB1 : Below w.heap.size w wB := ((HB.out.alloc (by omega) _).grown (grown_drew hgrowB) (by simp; omega) (fun j hj => (HOWN.out.lt j hj).1))
        have HB1 := Lib.hid hB1
        have HOB := Lib.hid hownB
        clear hB1 hownB hgrowB hatB hown
        go_wp2
        go_roundw
        case rel => exact ⟨m + 1, _, by omega, by go_num, HOB.out, HXS.out.snoc (by omega) hp hq hp' hq', HB1.out⟩
        case measure => first | (simp [intOf]; done) | (simp [intOf]; omega)
    · obtain rfl : m + 1 = n := by omega
      have hlt' : ¬ ((m : Int) + 1 < ((m + 1 : Nat) : Int)) := by omega
      obtain ⟨A', c', rfl, hP⟩ := pcV.arg hown hxs
      have HP := Lib.hid hP
      have HB := Lib.hid hB
      clear hP hB hown hxs hA
      go_wp2
      go_ret
      exact ⟨A', c', rfl, HP.out, HB.out⟩
end Go.Proofs.Ytnkfbinppikhkaa
