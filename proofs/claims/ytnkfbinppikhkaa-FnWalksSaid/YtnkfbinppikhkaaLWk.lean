/- The law of walks. No condition. -/
import Derived.Test.YtnkfbinppikhkaaWLA
namespace Go.Proofs.Ytnkfbinppikhkaa
open Go.RowKit Go.Deep
set_option linter.unusedSimpArgs false
theorem mk_of {n : Nat} {a b : Nat → Int} (h2 : 2 ≤ n) (h9 : n ≤ 9) (h : ∀ j, j < n → mkIn j (a j) (b j)) : Mk n a b :=
  ⟨h2, h9, fun j hj => (h j hj).1, fun j hj => (h j hj).2.1, fun j hj => (h j hj).2.2.1, fun j hj => (h j hj).2.2.2⟩
set_option maxRecDepth 100000 in
set_option maxHeartbeats 8000000 in
theorem lawWalks (A A' : Option Addr) (nb nb' c c' : Nat) (w : World) (hA : ByArg w A nb) (hA' : ByArg w A' nb') :
    Calls Try.prog 3 #[.slice A nb c, .slice A' nb' c'] w fun e w' => e = .returned (.bool true) ∧ Below w.heap.size w w' := by
  have HBL := Lib.hid (b10Long_c nb c nb' c' A A' w)
  by_cases hlong : (decide (1048576 < nb) || decide (1048576 < nb')) = true
  · rw [hlong] at HBL
    clear hA hA'
    go_enter Try.func3, Try.ntmps3
    go_wp2_with (go_at_call 4; ((with_reducible refine (HBL.out).mono ?_); rintro e w1 ⟨⟨v, rfl, rfl⟩, hb1⟩))
    go_ret
    exact ⟨rfl, hb1⟩
  · have hlf : (decide (1048576 < nb) || decide (1048576 < nb')) = false := by simpa using hlong
    rw [hlf] at HBL
    have hnb : nb ≤ 1048576 := by simp at hlf; omega
    clear hlong hlf
    have HA := Lib.hid hA
    have HA' := Lib.hid hA'
    have HAt := Lib.hid (fun (k m : Nat) (hk : k ≤ 10) (h1 : 1 ≤ m) (h2 : m ≤ 200) w' (hb : Below w.heap.size w w') => show Calls Try.prog 5 #[.slice A' nb' c', .int .i64 (k : Int), .int .i64 (m : Int)] w' _ from b10At_c nb' c' k m A' w' hk h1 h2 (hA'.below (g := w.heap.size) (fun a e h0 => by obtain ⟨a', k, e', h1, -⟩ := hA' 0 h0; rw [e] at e'; cases e'; exact h1) hb))
    have HA0 := Lib.hid (fun w' (hb : Below w.heap.size w w') => show Calls Try.prog 5 #[.slice A' nb' c', .int .i64 0, .int .i64 8] w' _ from HAt.out 0 8 (by omega) (by omega) (by omega) w' hb)
    clear hA hA'
    go_enter Try.func3, Try.ntmps3
    go_upto_region 4 with (first | (go_at_call 4; ((with_reducible refine (HBL.out).mono ?_); rintro e w1 ⟨⟨v, rfl, rfl⟩, hb1⟩)) | (go_at_call 5; ((with_reducible refine (HA0.out _ hb1).mono ?_); rintro e w2 ⟨r, hr, rfl, rfl⟩)))
    obtain ⟨n, hnE⟩ : ∃ n, 2 + r = n := ⟨_, rfl⟩
    have eN : (2 : Int) + (r : Int) = (n : Int) := by omega
    rw [eN]
    have h2 : 2 ≤ n := by omega
    have h9 : n ≤ 9 := by omega
    have hg : ∀ a, A = some a → 0 < nb → a.block < w.heap.size := fun a e h0 => by
      obtain ⟨a', k, e', h1, -⟩ := HA.out 0 h0
      rw [e] at e'
      cases e'
      exact h1
    have HMk := Lib.hid (marks_c nb c n A w1 hnb h9 (HA.out.below hg hb1))
    have HB1 := Lib.hid hb1
    clear hg hr hnE eN hb1
    go_upto_region 5 with (go_at_call 6; ((with_reducible refine (HMk.out).mono ?_); rintro e w3 ⟨vm, a, b, rfl, hin, hC, hb3⟩))
    have hM := mk_of h2 h9 hin
    obtain ⟨Am, cm, rfl, hX⟩ := hC.arg
    have HB3 := Lib.hid (HB1.out.trans (hb3.mono HB1.out.size))
    have HX := Lib.hid hX
    have HM := Lib.hid hM
    have HLs := Lib.hid (legsOf_c Am n cm a b w3 hM hX)
    clear hin hC hX hM hb3
    go_upto_region 6 with (go_at_call 7; ((with_reducible refine (HLs.out).mono ?_); rintro e w4 ⟨Al, cl, rfl, hL, hb4⟩))
    have HX4 := Lib.hid (HX.out.below hb4)
    have HL4 := Lib.hid hL
    have HB4 := Lib.hid (HB3.out.trans (hb4.mono HB3.out.size))
    obtain ⟨g, rfl, hg, p, q, c0, hp, hq⟩ := HX4.out 0 (by omega)
    have HWk := Lib.hid (walkLegs_c Al n cl p q a b w4 HM.out hp hq hL)
    have hn0 : (0 : Int) < (n : Int) := by omega
    have hgw := hg
    clear hL hb4 hp hq
    go_upto_region 7 with (go_at_call 8; ((with_reducible refine (HWk.out).mono ?_); rintro e w5 ⟨Aw, cw, rfl, hW, hb5⟩))
    have HX5 := Lib.hid (HX4.out.below hb5)
    have HL5 := Lib.hid (HL4.out.below hb5)
    have HW5 := Lib.hid hW
    have HB5 := Lib.hid (HB4.out.trans (hb5.mono HB4.out.size))
    have HAM := Lib.hid (areMarks_c (some ⟨g, 0, none⟩) n cm _ _ w5 (by omega) (by omega) HX5.out (mk_all HM.out))
    have HAL := Lib.hid (fun w' (hb : Below w5.heap.size w5 w') => areLegs_c Al (n - 1) cl _ _ w' (by omega) (by omega) (HL5.out.below hb) (fun j hj => leg_lgF HM.out (by omega)))
    have ew : (n : Int) - 1 = ((n - 1 : Nat) : Int) := by omega
    have hwr : IntKind.i64.wrap ((n : Int) - 1) = ((n - 1 : Nat) : Int) := by rw [IntKind.wrap_i64]; omega
    clear hW hb5 c0 hgw hg
    have HA1 := Lib.hid (fun w' (hb : Below w.heap.size w w') => HAt.out 1 33 (by omega) (by omega) (by omega) w' hb)
    have HA2 := Lib.hid (fun w' (hb : Below w.heap.size w w') => HAt.out 2 33 (by omega) (by omega) (by omega) w' hb)
    go_cut [69] (fun cv wx => cv = .bool false ∧ Below w5.heap.size w5 wx)
    case first =>
      go_wp2_with (first | (go_at_call 9; ((with_reducible refine (HAM.out).mono ?_); rintro e w6 ⟨⟨v, rfl, rfl⟩, hb6⟩)) | (go_at_call 10; ((with_reducible refine (HAL.out _ hb6).mono ?_); rintro e w7 ⟨⟨v, rfl, rfl⟩, hb7⟩)))
      go_meet
      case rel => exact ⟨rfl, hb6.trans (hb7.mono hb6.size)⟩
    case rest =>
    rename World => w7
    obtain ⟨rfl, hcut⟩ := hcut
    have hB7 := HB5.out.trans (hcut.mono HB5.out.size)
    rename (∀ (_ : Act) (_ : World), _) => hK8
    refine hK8 _ _ ?_
    clear hK8
    rename (∀ (a : Act) (w : World), Code.wp _ _ _ a w → _) => hK7
    refine wp_cond_false rfl (wp_skip ?_)
    refine hK7 _ _ ?_
    exact wlA hB7 (HX5.out.below hcut) (HL5.out.below hcut) (HW5.out.below hcut) HM.out HA1.out HA2.out
end Go.Proofs.Ytnkfbinppikhkaa
