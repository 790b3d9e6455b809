/- Marks that are drawn. No condition. -/
import Derived.Test.YtnkfbinppikhkaaWkP
import Derived.Test.YtnkfbinppikhkaaWkC
import Derived.Test.YtnkfbinppikhkaaWDr
import Derived.Test.YtnkfbinppikhkaaWFx
import Derived.Test.YtnkfbinppikhkaaWB
import Derived.Deep.AppendLies
import Derived.Deep.Onto
namespace Go.Proofs.Ytnkfbinppikhkaa
open Go.RowKit
set_option linter.unusedSimpArgs false
theorem info_c64 : (Try.prog.info? 32).map (fun i => (i.zero, i.size, i.bytes)) = some (some (.complex .f32 0 0), 1, 8) := by kernel_rfl
def mkIn (j : Nat) (u z : Int) : Prop := 4 * (j : Int) ≤ u ∧ u ≤ 4 * (j : Int) + 3 ∧ -8 ≤ z ∧ z ≤ 8
def MRow (w : World) (lo : Nat) (v : Value) (m : Nat) : Prop := ∃ xs, w.ownsRow lo 32 1 v m xs ∧ ∀ j, j < m → ∃ r s u z, xs[j]? = some (.complex .f32 r s) ∧ cn .f32 r = qz u ∧ cn .f32 s = qz z ∧ mkIn j u z
theorem cell_one_new (w : World) (v : Value) (t : TypeId) : ∀ j u, [v][j]? = some u → (w.alloc (.cells #[v] t)).cell? ((⟨w.heap.size, 0, none⟩ : Addr).add j) = some u := by
  intro j u hu
  match j, hu with
  | 0, hu => cases hu; simp [Addr.add]
theorem carr_of {w : World} {lo n : Nat} {v : Value} {xs : List Value} {X Y : Nat → Nat} (h : w.ownsRow lo 32 1 v n xs) (hx : ∀ j, j < n → ∃ r s, xs[j]? = some (.complex .f32 r s) ∧ cn .f32 r = X j ∧ cn .f32 s = Y j) : CArr w lo v n X Y := by
  rcases h.2 with ⟨rfl, e⟩ | ⟨g, cap, cur, rfl, h1, h2, h3, h4, h5, h6⟩
  · exact .inl ⟨e, rfl⟩
  · refine .inr ⟨g, cap, fun i => (cur[i]?).getD undef, rfl, h1, ⟨cur, h2, by omega, fun i hi => ?_⟩, h3, fun j hj => ?_⟩
    · show cur[i]? = some ((cur[i]?).getD undef)
      rw [Array.getElem?_eq_getElem (by omega)]; rfl
    · obtain ⟨a, b, e, ha, hb⟩ := hx j hj
      rw [← h6, List.getElem?_take, if_pos (by omega), Array.getElem?_toList] at e
      exact ⟨a, b, by show (cur[j]?).getD undef = _; rw [e]; rfl, ha, hb⟩
theorem CArr.lo {w : World} {B B' n : Nat} {v : Value} {X Y : Nat → Nat} (h : CArr w B v n X Y) (hB : B' ≤ B) : CArr w B' v n X Y := h.imp id (fun ⟨g, cap, F, e, h1, h2⟩ => ⟨g, cap, F, e, Nat.le_trans hB h1, h2⟩)
theorem MRow.carr {w : World} {lo : Nat} {v : Value} {m : Nat} (h : MRow w lo v m) : ∃ a b : Nat → Int, (∀ j, j < m → mkIn j (a j) (b j)) ∧ CArr w lo v m (fun j => qz (a j)) (fun j => qz (b j)) := by
  obtain ⟨xs, h, hx⟩ := h
  have hb : ∀ j : Nat, ∃ p : Int × Int, j < m → ∃ r s, xs[j]? = some (.complex .f32 r s) ∧ cn .f32 r = qz p.1 ∧ cn .f32 s = qz p.2 ∧ mkIn j p.1 p.2 := fun j => by
    by_cases hj : j < m
    · obtain ⟨r, s, u, z, e⟩ := hx j hj
      exact ⟨(u, z), fun _ => ⟨r, s, e⟩⟩
    · exact ⟨(0, 0), fun h => absurd h hj⟩
  refine ⟨fun j => (hb j).choose.1, fun j => (hb j).choose.2, fun j hj => ?_, carr_of h fun j hj => ?_⟩
  · obtain ⟨r, s, -, -, -, h⟩ := (hb j).choose_spec hj
    exact h
  · obtain ⟨r, s, h1, h2, h3, -⟩ := (hb j).choose_spec hj
    exact ⟨r, s, h1, h2, h3⟩
theorem MRow.snoc {w : World} {lo : Nat} {v : Value} {m : Nat} {xs : List Value} {r s : Nat} {u z : Int} (h : w.ownsRow lo 32 1 v (m + 1) (xs ++ [.complex .f32 r s])) (hl : xs.length = m) (hx : ∀ j, j < m → ∃ r s u z, xs[j]? = some (.complex .f32 r s) ∧ cn .f32 r = qz u ∧ cn .f32 s = qz z ∧ mkIn j u z) (hr : cn .f32 r = qz u) (hs : cn .f32 s = qz z) (hm : mkIn m u z) : MRow w lo v (m + 1) := by
  refine ⟨_, h, fun j hj => ?_⟩
  by_cases e : j = m
  · subst e
    exact ⟨r, s, u, z, by rw [List.getElem?_append_right (by omega), hl, Nat.sub_self]; rfl, hr, hs, hm⟩
  · obtain ⟨r', s', u', z', h1, h2⟩ := hx j (by omega)
    exact ⟨r', s', u', z', by rw [List.getElem?_append_left (by omega)]; exact h1, h2⟩
/-- What the drawing of marks returns. -/
def BM (n : Nat) (w : World) (e : Ending) (w' : World) : Prop := ∃ (v : Value) (a b : Nat → Int), e = .returned v ∧ (∀ j, j < n → mkIn j (a j) (b j)) ∧ CArr w' w.heap.size v n (fun j => qz (a j)) (fun j => qz (b j)) ∧ Below w.heap.size w w'
set_option maxRecDepth 100000 in
set_option maxHeartbeats 8000000 in
theorem marks_c (nb c n : Nat) (A : Option Addr) (w : World) (hn : nb ≤ 1048576) (hn9 : n ≤ 9) (hA : ByArg w A nb) : Calls Try.prog 6 #[.slice A nb c, .int .i64 (n : Int)] w (BM n w) := by
  obtain ⟨V1, hV1⟩ : ∃ V1, w.alloc (.cells #[.slice A nb c, .int .i64 0, .int .u64 0] 62) = V1 := ⟨_, rfl⟩
  have hs1 : V1.heap.size = w.heap.size + 1 := by rw [← hV1]; simp
  have hT : tri 62 V1 w.heap.size (.slice A nb c) (.int .i64 0) (.int .u64 0) := by rw [← hV1]; exact tri.newAt rfl
  have hB1 : Below w.heap.size w V1 := by rw [← hV1]; exact (Below.refl _ _).alloc (Nat.le_refl _) _
  have hg : ∀ a, A = some a → 0 < nb → a.block < w.heap.size := fun a e h0 => by
    obtain ⟨a', k, e', h1, -⟩ := hA 0 h0
    rw [e] at e'
    cases e'
    exact h1
  have hS : SG w.heap.size nb c A 0 V1 := ⟨⟨0, 0, Nat.le_refl _, hT⟩, hA.below hg hB1, hg⟩
  have HF := Lib.hid (show Calls Try.prog 13 #[.slice A nb c] w (fun e w' => e = .returned (.pointer (some ⟨w.heap.size, 0, none⟩)) ∧ w' = V1) by
    clear hT hB1 hS
    go_enter Try.func13, Try.ntmps13
    go_wp2
    go_ret
    exact ⟨rfl, rfl⟩)
  have HP4 := Lib.hid (fun (B : Nat) w' (hB : B ≤ 1000) (h : SG w.heap.size nb c A B w') => show Calls Try.prog 14 #[.pointer (some ⟨w.heap.size, 0, none⟩), .int .i64 4] w' _ from pickS w.heap.size nb c 4 B A w' (by omega) (by omega) (by omega) hn h)
  have HP17 := Lib.hid (fun (B : Nat) w' (hB : B ≤ 1000) (h : SG w.heap.size nb c A B w') => show Calls Try.prog 14 #[.pointer (some ⟨w.heap.size, 0, none⟩), .int .i64 17] w' _ from pickS w.heap.size nb c 17 B A w' (by omega) (by omega) (by omega) hn h)
  obtain ⟨i0, hi0, hI0, hI1, hI2⟩ := info_parts info_c64
  have HS := Lib.hid hS
  have HB := Lib.hid hB1
  clear hV1 hT hA hg hS hB1
  go_enter Try.func6, Try.ntmps6
  go_upto_region 2 with (go_at_call 13; ((with_reducible refine (HF.out).mono ?_); rintro e w1 ⟨rfl, rfl⟩))
  go_wp2
  go_loopw [6, 7] (fun v k wr => ∃ m : Nat, m ≤ n ∧ k = .int .i64 (m : Int) ∧ MRow wr (w.heap.size + 1) v m ∧ SG w.heap.size nb c A (2 * m) wr ∧ Below w.heap.size w wr) (fun _ k _ => n - (intOf k).toNat)
  case atStart => exact ⟨0, by omega, rfl, ⟨[], ⟨rfl, .inr ⟨_, 0, #[], rfl, by omega, hs1 ▸ heap_alloc_new _ _, Nat.le_refl _, by simp [maxLen], rfl, rfl⟩⟩, fun j hj => absurd hj (by omega)⟩, HS.out.below (by (with_reducible repeat (first | exact Below.refl _ _ | apply below_alloc | apply below_dN | apply below_d | refine below_setCell ?_ (by dsimp only; omega) | refine below_call (by assumption) ?_))), HB.out.alloc (by omega) _⟩
  case round =>
    rename World => wO
    obtain ⟨m, hm, rfl, ⟨xs, hown, hxs⟩, hSO, hBO⟩ := hrel
    have HOWN := Lib.hid hown
    have HXS := Lib.hid hxs
    have HSO := Lib.hid hSO
    have HBO := Lib.hid hBO
    have hsO := hBO.size
    have hol := hown.lt
    have HOL := Lib.hid hol
    clear hown hxs hSO hBO hol
    by_cases hlt : m < n
    · have hlt' : (m : Int) < (n : Int) := by omega
      have HPa := Lib.hid (HP4.out (2 * m) wO (by omega) HSO.out)
      go_upto_region 7 with (first | (refine wpL_farith rfl _ _ _ _ _ rfl rfl _ _ _ rfl rfl ?_; intro x cx hx0 hw0) | (go_at_call 14; ((with_reducible refine (HPa.out).mono ?_); rintro e w1 ⟨k, hk, rfl, hS1, hK1, hb1⟩)))
      have hx : cn .f32 x = qz (4 * (m : Int) + (k : Int)) := hx0.trans (by simp [qz])
      have hS1' : SG w.heap.size nb c A (2 * m + 1) (w1.drewN cx) := hS1.below (below_dN (Below.refl _ _))
      have HS1 := Lib.hid hS1'
      have HPb := Lib.hid (HP17.out (2 * m + 1) (w1.drewN cx) (by omega) HS1.out)
      have hs1 := hb1.size
      have HB1 := Lib.hid hb1
      have HK1 := Lib.hid hK1
      have HX := Lib.hid hx
      clear hS1' hS1 hx0 hb1 hK1 hx
      go_wp2_with (first | (refine wpL_farith rfl _ _ _ _ _ rfl rfl _ _ _ rfl rfl ?_; intro y cy hy0 hw1) | (go_at_call 14; ((with_reducible refine (HPb.out).mono ?_); rintro e w2 ⟨k2, hk2, rfl, hS2, hK2, hb2⟩; have hown2 : w2.ownsRow (w.heap.size + 1) 32 1 _ m xs := World.ownsRow.keep1 (World.ownsRow.keep1 HOWN.out (HK1.out.trans (Keep1.of_below (below_dN (Below.refl _ _))) hs1) (by omega)) hK2 (by omega); have hs2 : w1.heap.size ≤ w2.heap.size := hb2.size)) | (at_builtin; refine wpList_append_lies _ rfl (.tmp 24) (.tmp 32) 25 rfl (w.heap.size + 1) 32 i0 (.complex .f32 0 0) 1 8 Try.underlying25 hi0 hI0 hI1 hI2 rfl (by decide) _ _ _ rfl ((show (w2.drewN cy).ownsRow (w.heap.size + 1) 32 1 _ m xs from hown2).alloc _) _ 1 1 [.complex .f32 x y] rfl rfl (cell_one_new _ _ _) (by intro u hu; simp at hu; subst hu; rfl) (by omega) (by unfold maxLen; omega) (by omega) (by simp; omega) _ rfl ?_; intro gN cap w5 hown5 hgrow5 hlies5 hlt5))
      go_roundw
      case rel =>
        have hgl := HSO.out.lt
        have hs2' : w1.heap.size ≤ w2.heap.size := hb2.size
        have hy : cn .f32 y = qz ((k2 : Int) - 8) := hy0.trans (by simp [qz])
        have hneq : ∀ q, q ≤ w.heap.size → some q ≠ Value.ownBlock _ := fun q hq e => by have := (hown2.lt _ e.symm).1; omega
        have hb5 : ∀ q, q ≤ w.heap.size → w5.heap[q]? = w2.heap[q]? := fun q hq => (hgrow5.block q (by simp; omega) (hneq q hq)).trans (((Below.refl w2.heap.size w2).alloc (Nat.le_refl _) _).block q (by omega))
        have hgr := ((Below.refl w.heap.size (w2.drewN cy)).alloc (show w.heap.size ≤ w2.heap.size by omega) (.cells #[.complex .f32 x y] 32)).grown hgrow5 (by simp; omega) (fun j hj => by have := (hown2.lt j hj).1; omega)
        refine ⟨m + 1, by omega, by go_num, MRow.snoc hown5 (by have := HOWN.out.1; omega) HXS.out HX.out hy ⟨by omega, by omega, by omega, by omega⟩, ?_, ?_⟩
        · rw [show 2 * (m + 1) = 2 * m + 1 + 1 by omega]
          exact hS2.keep hb5 (by have := hgrow5.size; simp at this; omega)
        · exact ((HBO.out.trans (HB1.out.mono (by omega))).trans (show Below w.heap.size w1 (w2.drewN cy) from ⟨hb2.os, hb2.tape, hb2.output, hb2.size, hb2.block⟩)).trans hgr
      case measure => first | (simp [intOf]; done) | (simp [intOf]; omega)
    · obtain rfl : m = n := by omega
      have hlt' : ¬ ((m : Int) < (m : Int)) := by omega
      go_wp2
      go_ret
      obtain ⟨a, b, h1, h2⟩ := MRow.carr ⟨xs, HOWN.out, HXS.out⟩
      exact ⟨_, a, b, rfl, h1, h2.lo (by omega), HBO.out⟩
end Go.Proofs.Ytnkfbinppikhkaa
