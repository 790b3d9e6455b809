/- Contract of spec.ContourPieces. No condition. -/
import Derived.Test.YtbnnpeecajjipaaPcs
namespace Go.Proofs.Ytbnnpeecajjipaa
open Go.RowKit
set_option linter.unusedSimpArgs false
def cpP (W H : Int) (n : Nat) (X : Nat → Nat) (E : Nat) : List (Nat × Nat) := pre X W.toNat H.toNat E n
def cpX (W H : Int) (n : Nat) (X : Nat → Nat) (E j : Nat) : Nat := ((cpP W H n X E)[j]?.getD (0, 0)).1
def cpY (W H : Int) (n : Nat) (X : Nat → Nat) (E j : Nat) : Nat := ((cpP W H n X E)[j]?.getD (0, 0)).2
def cpQ (W H : Int) (n : Nat) (X : Nat → Nat) (E : Nat) : Bool := (gridOk W H n X && fin .f32 E) && allC (cpX W H n X E) (cpY W H n X E) (cpP W H n X E).length
def CPR (W H : Int) (n : Nat) (X : Nat → Nat) (E : Nat) : World → Ending → World → Prop := CRes (cpQ W H n X E) (if cpQ W H n X E then (cpP W H n X E).length else 0) (cpX W H n X E) (cpY W H n X E)
theorem CRes.nil {w w' : World} {X Y : Nat → Nat} (h : Below w.heap.size w w') : CRes false 0 X Y w (.returned (.tuple #[.slice none 0 0, .bool false])) w' := ⟨_, rfl, .inl ⟨rfl, rfl⟩, h⟩
theorem CArr.lo {w : World} {B B' n : Nat} {v : Value} {X Y : Nat → Nat} (h : CArr w B v n X Y) (hB : B' ≤ B) : CArr w B' v n X Y := h.imp id (fun ⟨g, cap, F, e, h1, h2⟩ => ⟨g, cap, F, e, Nat.le_trans hB h1, h2⟩)
theorem CPR.no {W H : Int} {n : Nat} {X : Nat → Nat} {E : Nat} {w : World} {e : Ending} {w' : World} (h : cpQ W H n X E = false) (hx : CRes false 0 (cpX W H n X E) (cpY W H n X E) w e w') : CPR W H n X E w e w' := by
  unfold CPR
  rw [h]
  exact hx
theorem CPR.yes {W H : Int} {n : Nat} {X : Nat → Nat} {E : Nat} {w : World} {e : Ending} {w' : World} (h : cpQ W H n X E = true) (hx : CRes true (cpP W H n X E).length (cpX W H n X E) (cpY W H n X E) w e w') : CPR W H n X E w e w' := by
  unfold CPR
  rw [h]
  exact hx
set_option maxRecDepth 100000 in
set_option maxHeartbeats 4000000 in
theorem sContour_c (W H : Int) (b n c : Nat) (X : Nat → Nat) (x E : Nat) (w : World) (hn : n ≤ 1048576) (hbl : b < w.heap.size) (hX : FlCells w b n X) (hx : cn .f32 x = E) :
    Calls Try.prog 10 #[.agg #[.int .i64 W, .int .i64 H, .slice (some ⟨b, 0, none⟩) n c], .float .f32 x] w (CPR W H n X E w) := by
  have hN := gtc.newAt (w := w) (p := w.heap.size) (u := .int .i64 W) (v := .int .i64 H) (z := .slice (some ⟨b, 0, none⟩) n c) rfl
  have hb0 : Below w.heap.size w (w.alloc (.cells #[.int .i64 W, .int .i64 H, .slice (some ⟨b, 0, none⟩) n c] 30)) := by (with_reducible repeat (first | exact Below.refl _ _ | apply below_alloc | apply below_dN | apply below_d | refine below_setCell ?_ (by dsimp only; omega) | refine below_call (by assumption) ?_))
  have hs0 : (w.alloc (.cells #[.int .i64 W, .int .i64 H, .slice (some ⟨b, 0, none⟩) n c] 30)).heap.size = w.heap.size + 1 := by simp
  have hI := l06Is_c w.heap.size b n c W H X _ hn hN.c0 hN.c1 hN.c2 (by omega) (hX.dn hbl hb0)
  have hF := fun w => sFinite_c x E hx w
  cases hq : gridOk W H n X
  · refine Calls.mono ?_ (fun e w' h => CPR.no (by unfold cpQ; rw [hq]; rfl) h)
    rw [hq] at hI
    have HI := Lib.hid hI
    clear hI hX hq hN hF
    go_enter Try.func10, Try.ntmps10
    go_wp2_with (go_at_call 35; ((with_reducible refine (HI.out).mono ?_); rintro e w1 ⟨⟨v, rfl, rfl⟩, hb1⟩))
    go_ret2
    exact CRes.nil (hb0.trans (hb1.mono (by omega)))
  · cases hf : fin .f32 E
    · refine Calls.mono ?_ (fun e w' h => CPR.no (by unfold cpQ; rw [hq, hf]; rfl) h)
      rw [hq] at hI
      rw [hf] at hF
      have HI := Lib.hid hI
      have HF := Lib.hid hF
      clear hI hX hq hN hF hf
      go_enter Try.func10, Try.ntmps10
      go_wp2_with (first | (go_at_call 35; ((with_reducible refine (HI.out).mono ?_); rintro e w1 ⟨⟨v, rfl, rfl⟩, hb1⟩)) | (go_at_call 36; ((with_reducible refine (HF.out _).mono ?_); rintro e w2 ⟨⟨v, rfl, rfl⟩, hb2⟩)))
      go_ret2
      have hB1 := hb0.trans (hb1.mono (by omega))
      exact CRes.nil (hB1.trans (hb2.mono hB1.size))
    · obtain ⟨a, d, e1, e2, h1, h2, h3, h4, hnn, -⟩ := gridOk_facts hq
      have hnb : n ≤ 256 := by rw [hnn]; exact Nat.mul_le_mul h2 h4
      have hP : ∀ w', Below (w.alloc (.cells #[.int .i64 W, .int .i64 H, .slice (some ⟨b, 0, none⟩) n c] 30)).heap.size (w.alloc (.cells #[.int .i64 W, .int .i64 H, .slice (some ⟨b, 0, none⟩) n c] 30)) w' → Calls Try.prog 37 #[.pointer (some ⟨w.heap.size, 0, none⟩), .float .f32 x] w' fun e w'' => ∃ v, e = .returned v ∧ PRow w'' w'.heap.size v (cpP W H n X E) ∧ Below w'.heap.size w' w'' := by
        intro w' hB
        subst e1 e2
        unfold cpP
        simp only [Int.toNat_natCast]
        have hB2 := hb0.trans (hB.mono (by omega))
        exact l06Pieces_c w.heap.size a d b n c x E X w' h1 h2 h3 h4 hnn (hN.below hB).c0 (hN.below hB).c1 (hN.below hB).c2 (Nat.lt_of_lt_of_le hbl hB2.size) (hX.dn hbl hB2) hx
      have hlen : (cpP W H n X E).length ≤ 1048576 := by
        have := pre_len X W.toNat H.toNat E n
        unfold cpP
        omega
      have hk : cpQ W H n X E = allC (cpX W H n X E) (cpY W H n X E) (cpP W H n X E).length := by unfold cpQ; rw [hq, hf]; rfl
      rw [hq] at hI
      rw [hf] at hF
      have HI := Lib.hid hI
      have HF := Lib.hid hF
      have HP := Lib.hid hP
      have HK := Lib.hid hk
      have HC := Lib.hid (fun A c' w' (hA : CxArg w' A (cpP W H n X E).length (cpX W H n X E) (cpY W H n X E)) => l02CFinite_c A (cpP W H n X E).length c' (cpX W H n X E) (cpY W H n X E) w' hlen hA)
      clear hI hX hq hN hF hf hP hk hnn e1 e2
      unfold CPR
      rw [HK.out]
      generalize allC (cpX W H n X E) (cpY W H n X E) (cpP W H n X E).length = K at HC
      have hca : ∀ {w' : World} {lo : Nat} {v : Value}, PRow w' lo v (cpP W H n X E) → CArr w' lo v (cpP W H n X E).length (cpX W H n X E) (cpY W H n X E) := fun h => h.carr
      generalize (cpP W H n X E).length = N at *
      generalize cpX W H n X E = X' at *
      generalize cpY W H n X E = Y' at *
      generalize cpP W H n X E = P at *
      go_enter Try.func10, Try.ntmps10
      go_upto_region 4 with (first | (go_at_call 35; ((with_reducible refine (HI.out).mono ?_); rintro e w1 ⟨⟨v, rfl, rfl⟩, hb1⟩)) | (go_at_call 36; ((with_reducible refine (HF.out _).mono ?_); rintro e w2 ⟨⟨v, rfl, rfl⟩, hb2⟩; have hb12 := hb1.trans (hb2.mono hb1.size))) | (go_at_call 37; ((with_reducible refine (HP.out _ hb12).mono ?_); rintro e w3 ⟨v, rfl, hR, hb3⟩)))
      have hB2 := hb0.trans (hb12.mono (by omega))
      have hB3 := hB2.trans (hb3.mono hB2.size)
      have hCA := hca hR
      obtain ⟨A, cp, rfl, hCX⟩ := hCA.arg
      have HCC := Lib.hid (HC.out A cp w3 hCX)
      have HCA := Lib.hid hCA
      have HB3 := Lib.hid hB3
      have hs3 := hB3.size
      have hs2 := hB2.size
      clear hb1 hb2 hb12 hb3 hB2 hB3 hR hCA hCX hca
      cases K
      · go_wp2_with (go_at_call 38; ((with_reducible refine (HCC.out).mono ?_); rintro e w4 ⟨⟨v, rfl, rfl⟩, hb4⟩))
        go_ret2
        exact CRes.nil (HB3.out.trans (hb4.mono hs3))
      · go_wp2_with (go_at_call 38; ((with_reducible refine (HCC.out).mono ?_); rintro e w4 ⟨⟨v, rfl, rfl⟩, hb4⟩))
        go_ret2
        exact ⟨_, rfl, (HCA.out.below hb4).lo hs2, HB3.out.trans (hb4.mono hs3)⟩
end Go.Proofs.Ytbnnpeecajjipaa
