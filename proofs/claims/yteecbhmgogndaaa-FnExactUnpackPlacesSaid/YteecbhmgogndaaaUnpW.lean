/- Contract of spec.l07Unpack. No condition. -/
import Derived.Test.YteecbhmgogndaaaUnpD
namespace Go.Proofs.Yteecbhmgogndaaa
open Go.RowKit
set_option linter.unusedSimpArgs false
theorem info_pl : (Try.prog.info? 29).map (fun i => (i.zero, i.size, i.bytes)) = some (some (.agg #[.float .f32 0, .float .f32 0]), 2, 8) := by kernel_rfl
/-- What reading packed places gives. -/
def unpR (s : ByteArray) (w : World) (e : Ending) (w' : World) : Prop := (∃ m v, good s m ∧ e = .returned (.tuple #[v, .bool true]) ∧ OwnPl w' w.heap.size v m (uX s) (uY s) ∧ Below w.heap.size w w') ∨ ((∀ m, ¬ good s m) ∧ e = .returned (.tuple #[.slice none 0 0, .bool false]) ∧ Below w.heap.size w w')
set_option maxRecDepth 100000 in
set_option maxHeartbeats 4000000 in
theorem l07Unpack_c (s : ByteArray) (hs : s.size ≤ 1048576) (w : World) : Calls Try.prog 49 #[.string s] w (unpR s w) := by
  obtain ⟨i0, hi, hI0, hI1, hI2⟩ := info_parts info_pl
  go_enter Try.func49, Try.ntmps49
  go_wp2
  go_loopw [4, 5, 6, 7] (fun v a b k wr => ∃ m : Nat, m ≤ 65 ∧ allU s m ∧ (m = 0 ∨ dP s (m - 1) < s.size) ∧ a = .int .i64 (dA s m) ∧ b = .int .i64 (dB s m) ∧ k = .int .i64 (dP s m : Int) ∧ (∃ g c, v = .slice (some ⟨g, 0, none⟩) m c) ∧ OwnPl wr w.heap.size v m (uX s) (uY s) ∧ Below w.heap.size w wr) (fun _ _ _ k _ => (s.size + 1) - (intOf k).toNat)
  case atStart => exact ⟨0, by omega, fun j hj => absurd hj (by omega), .inl rfl, rfl, rfl, rfl, ⟨_, _, rfl⟩, ⟨fun _ => 0, fun _ => 0, ⟨rfl, .inr ⟨w.heap.size, 0, #[], rfl, Nat.le_refl _, heap_alloc_new _ _, by omega, by simp [maxLen], rfl, rfl⟩⟩, fun j hj => absurd hj (by omega)⟩, by (with_reducible repeat (first | exact Below.refl _ _ | apply below_alloc | apply below_dN | apply below_d | refine below_setCell ?_ (by dsimp only; omega) | refine below_call (by assumption) ?_))⟩
  case round =>
    obtain ⟨m, hm, hU, hq, rfl, rfl, rfl, ⟨g, c, rfl⟩, hO, hB⟩ := hrel
    have HB := Lib.hid hB
    have hBs := hB.size
    have HO := Lib.hid hO
    have HU := Lib.hid hU
    have HQ := Lib.hid hq
    have hp0 := dP_le (s := s) m
    clear hB hO hq
    by_cases hlt : dP s m < s.size ∧ m ≤ 64
    · obtain ⟨hl, h64⟩ := hlt
      have HBD := Lib.hid (fun h => bad_at (s := s) (m := m) h (.inr ⟨hU, hl⟩))
      have HQ2 := Lib.hid (show m + 1 = 0 ∨ dP s (m + 1 - 1) < s.size from .inr hl)
      have e1 := n1_le s m
      have e2 := n2_le s m
      have bA := dA_bnd hU
      have bB := dB_bnd hU
      have b1 := nd_bnd (rs s (dP s m))
      have b2 := nd_bnd (rs s (dP s m + n1 s m))
      have hN1 := l07Number_c (rs s (dP s m))
      have hN2 := l07Number_c (rs s (dP s m + n1 s m))
      change ∀ w, Calls _ _ _ w (Ret (RV (.tuple #[.int .i64 (d1 s m), .int .i64 (n1 s m)])) w) at hN1
      change ∀ w, Calls _ _ _ w (Ret (RV (.tuple #[.int .i64 (d2 s m), .int .i64 (n2 s m)])) w) at hN2
      have hPos := sPos_c' (dA s (m + 1)) (dB s (m + 1))
      rw [dA_succ, dB_succ] at hPos
      have hF : okU s m ↔ (0 < n1 s m ∧ 0 < n2 s m ∧ stepsIn (dA s m + d1 s m) (dB s m + d2 s m) = true) := Iff.rfl
      have hS : dP s (m + 1) = dP s m + n1 s m + n2 s m ∧ dA s (m + 1) = dA s m + d1 s m ∧ dB s (m + 1) = dB s m + d2 s m := ⟨rfl, rfl, rfl⟩
      have hXY : uX s m = psF (dA s m + d1 s m) ∧ uY s m = psF (dB s m + d2 s m) := ⟨rfl, rfl⟩
      change -17179869184 ≤ d1 s m ∧ d1 s m ≤ 17179869184 at b1
      change -17179869184 ≤ d2 s m ∧ d2 s m ≤ 17179869184 at b2
      have HF := Lib.hid hF
      have HS := Lib.hid hS
      have HX := Lib.hid hXY
      clear hF hS hXY hU
      unfold rs at hN1 hN2
      generalize dP s m = P at *
      generalize dA s m = A at *
      generalize dB s m = B at *
      generalize n1 s m = k1 at *
      generalize n2 s m = k2 at *
      generalize d1 s m = x1 at *
      generalize d2 s m = x2 at *
      have HN1 := Lib.hid hN1
      have HN2 := Lib.hid hN2
      have HP := Lib.hid hPos
      clear hN1 hN2 hPos
      by_cases hk1 : k1 = 0
      · subst hk1
        have hB0 := HBD.out (fun h => by have := (HF.out.1 h).1; omega)
        have HB0 := Lib.hid hB0
        clear hB0
        go_wp2_with (first | (go_at_call 67; ((with_reducible refine (HN1.out _).mono ?_); rintro e w1 ⟨⟨v, rfl, rfl⟩, hb⟩); have hu2 : ∀ n : Nat, n < n + 1 + 1 := (fun n => by omega); have hu3 : ∀ n : Nat, n < n + 1 + 1 + 1 := (fun n => by omega); obtain ⟨hc, hfz⟩ := bcell hb; (try simp only [World.heap_drewN] at hc hfz); have hs_ := hb.size; (try simp at hs_); (try have hz0 : w.heap.size < w1.heap.size := (by omega)); (try have hz1 : w.heap.size + 1 < w1.heap.size := (by omega)); (try have hz2 : w.heap.size + 2 < w1.heap.size := (by omega)); (try have hz3 : w.heap.size + 3 < w1.heap.size := (by omega)); (try have hza : wa.heap.size < w1.heap.size := (by omega)); (try have hza1 : wa.heap.size + 1 < w1.heap.size := (by omega)); (try have hzb : wb.heap.size < w1.heap.size := (by omega)); (try have hzb1 : wb.heap.size + 1 < w1.heap.size := (by omega)); (try have hzc : wc.heap.size < w1.heap.size := (by omega)); (try have hzd : wd.heap.size < w1.heap.size := (by omega))) | (go_at_call 67; ((with_reducible refine (HN2.out _).mono ?_); rintro e w1 ⟨⟨v, rfl, rfl⟩, hb⟩); have hu2 : ∀ n : Nat, n < n + 1 + 1 := (fun n => by omega); have hu3 : ∀ n : Nat, n < n + 1 + 1 + 1 := (fun n => by omega); obtain ⟨hc, hfz⟩ := bcell hb; (try simp only [World.heap_drewN] at hc hfz); have hs_ := hb.size; (try simp at hs_); (try have hz0 : w.heap.size < w1.heap.size := (by omega)); (try have hz1 : w.heap.size + 1 < w1.heap.size := (by omega)); (try have hz2 : w.heap.size + 2 < w1.heap.size := (by omega)); (try have hz3 : w.heap.size + 3 < w1.heap.size := (by omega)); (try have hza : wa.heap.size < w1.heap.size := (by omega)); (try have hza1 : wa.heap.size + 1 < w1.heap.size := (by omega)); (try have hzb : wb.heap.size < w1.heap.size := (by omega)); (try have hzb1 : wb.heap.size + 1 < w1.heap.size := (by omega)); (try have hzc : wc.heap.size < w1.heap.size := (by omega)); (try have hzd : wd.heap.size < w1.heap.size := (by omega))))
        go_ret2
        exact .inr ⟨HB0.out, rfl, by have := HB.out; (with_reducible repeat (first | exact Below.refl _ _ | apply below_alloc | apply below_dN | apply below_d | refine below_setCell ?_ (by dsimp only; omega) | refine below_call (by assumption) ?_))⟩
      · by_cases hk2 : k2 = 0
        · subst hk2
          have hB0 := HBD.out (fun h => by have := (HF.out.1 h).2.1; omega)
          have HB0 := Lib.hid hB0
          clear hB0
          go_wp2_with (first | (go_at_call 67; ((with_reducible refine (HN1.out _).mono ?_); rintro e w1 ⟨⟨v, rfl, rfl⟩, hb⟩); have hu2 : ∀ n : Nat, n < n + 1 + 1 := (fun n => by omega); have hu3 : ∀ n : Nat, n < n + 1 + 1 + 1 := (fun n => by omega); obtain ⟨hc, hfz⟩ := bcell hb; (try simp only [World.heap_drewN] at hc hfz); have hs_ := hb.size; (try simp at hs_); (try have hz0 : w.heap.size < w1.heap.size := (by omega)); (try have hz1 : w.heap.size + 1 < w1.heap.size := (by omega)); (try have hz2 : w.heap.size + 2 < w1.heap.size := (by omega)); (try have hz3 : w.heap.size + 3 < w1.heap.size := (by omega)); (try have hza : wa.heap.size < w1.heap.size := (by omega)); (try have hza1 : wa.heap.size + 1 < w1.heap.size := (by omega)); (try have hzb : wb.heap.size < w1.heap.size := (by omega)); (try have hzb1 : wb.heap.size + 1 < w1.heap.size := (by omega)); (try have hzc : wc.heap.size < w1.heap.size := (by omega)); (try have hzd : wd.heap.size < w1.heap.size := (by omega))) | (go_at_call 67; ((with_reducible refine (HN2.out _).mono ?_); rintro e w1 ⟨⟨v, rfl, rfl⟩, hb⟩); have hu2 : ∀ n : Nat, n < n + 1 + 1 := (fun n => by omega); have hu3 : ∀ n : Nat, n < n + 1 + 1 + 1 := (fun n => by omega); obtain ⟨hc, hfz⟩ := bcell hb; (try simp only [World.heap_drewN] at hc hfz); have hs_ := hb.size; (try simp at hs_); (try have hz0 : w.heap.size < w1.heap.size := (by omega)); (try have hz1 : w.heap.size + 1 < w1.heap.size := (by omega)); (try have hz2 : w.heap.size + 2 < w1.heap.size := (by omega)); (try have hz3 : w.heap.size + 3 < w1.heap.size := (by omega)); (try have hza : wa.heap.size < w1.heap.size := (by omega)); (try have hza1 : wa.heap.size + 1 < w1.heap.size := (by omega)); (try have hzb : wb.heap.size < w1.heap.size := (by omega)); (try have hzb1 : wb.heap.size + 1 < w1.heap.size := (by omega)); (try have hzc : wc.heap.size < w1.heap.size := (by omega)); (try have hzd : wd.heap.size < w1.heap.size := (by omega))))
          go_ret2
          exact .inr ⟨HB0.out, rfl, by have := HB.out; (with_reducible repeat (first | exact Below.refl _ _ | apply below_alloc | apply below_dN | apply below_d | refine below_setCell ?_ (by dsimp only; omega) | refine below_call (by assumption) ?_))⟩
        · have g1 : ((k1 : Int) == 0) = false := by simpa using hk1
          have g2 : ((k2 : Int) == 0) = false := by simpa using hk2
          have g3 : ¬ (k1 : Int) = 0 := by omega
          have g4 : ¬ (k2 : Int) = 0 := by omega
          obtain ⟨K, hK⟩ : ∃ K, stepsIn (A + x1) (B + x2) = K := ⟨_, rfl⟩
          cases K
          · have hB0 := HBD.out (fun h => by have := (HF.out.1 h).2.2; rw [hK] at this; cases this)
            have HB0 := Lib.hid hB0
            have hPos := HP.out
            unfold posR at hPos
            rw [hK] at hPos
            have HP := Lib.hid hPos
            clear hB0 hPos hK
            go_wp2_with (first | (go_at_call 67; ((with_reducible refine (HN1.out _).mono ?_); rintro e w1 ⟨⟨v, rfl, rfl⟩, hb⟩); have hu2 : ∀ n : Nat, n < n + 1 + 1 := (fun n => by omega); have hu3 : ∀ n : Nat, n < n + 1 + 1 + 1 := (fun n => by omega); obtain ⟨hc, hfz⟩ := bcell hb; (try simp only [World.heap_drewN] at hc hfz); have hs_ := hb.size; (try simp at hs_); (try have hz0 : w.heap.size < w1.heap.size := (by omega)); (try have hz1 : w.heap.size + 1 < w1.heap.size := (by omega)); (try have hz2 : w.heap.size + 2 < w1.heap.size := (by omega)); (try have hz3 : w.heap.size + 3 < w1.heap.size := (by omega)); (try have hza : wa.heap.size < w1.heap.size := (by omega)); (try have hza1 : wa.heap.size + 1 < w1.heap.size := (by omega)); (try have hzb : wb.heap.size < w1.heap.size := (by omega)); (try have hzb1 : wb.heap.size + 1 < w1.heap.size := (by omega)); (try have hzc : wc.heap.size < w1.heap.size := (by omega)); (try have hzd : wd.heap.size < w1.heap.size := (by omega))) | (go_at_call 67; ((with_reducible refine (HN2.out _).mono ?_); rintro e w1 ⟨⟨v, rfl, rfl⟩, hb⟩); have hu2 : ∀ n : Nat, n < n + 1 + 1 := (fun n => by omega); have hu3 : ∀ n : Nat, n < n + 1 + 1 + 1 := (fun n => by omega); obtain ⟨hc, hfz⟩ := bcell hb; (try simp only [World.heap_drewN] at hc hfz); have hs_ := hb.size; (try simp at hs_); (try have hz0 : w.heap.size < w1.heap.size := (by omega)); (try have hz1 : w.heap.size + 1 < w1.heap.size := (by omega)); (try have hz2 : w.heap.size + 2 < w1.heap.size := (by omega)); (try have hz3 : w.heap.size + 3 < w1.heap.size := (by omega)); (try have hza : wa.heap.size < w1.heap.size := (by omega)); (try have hza1 : wa.heap.size + 1 < w1.heap.size := (by omega)); (try have hzb : wb.heap.size < w1.heap.size := (by omega)); (try have hzb1 : wb.heap.size + 1 < w1.heap.size := (by omega)); (try have hzc : wc.heap.size < w1.heap.size := (by omega)); (try have hzd : wd.heap.size < w1.heap.size := (by omega))) | (go_at_call 59; ((with_reducible refine (HP.out _).mono ?_); rintro e wa ⟨⟨v, rfl, ⟨p, q, rfl, ⟨u, v, rfl, ⟨hu, hv'⟩, wu, wv⟩, rfl⟩⟩, hb⟩); have hu2 : ∀ n : Nat, n < n + 1 + 1 := (fun n => by omega); have hu3 : ∀ n : Nat, n < n + 1 + 1 + 1 := (fun n => by omega); obtain ⟨hc, hfz⟩ := bcell hb; (try simp only [World.heap_drewN] at hc hfz); have hs_ := hb.size; (try simp at hs_); (try have hz0 : w.heap.size < wa.heap.size := (by omega)); (try have hz1 : w.heap.size + 1 < wa.heap.size := (by omega)); (try have hz2 : w.heap.size + 2 < wa.heap.size := (by omega)); (try have hz3 : w.heap.size + 3 < wa.heap.size := (by omega)); (try have hza : wa.heap.size < wa.heap.size := (by omega)); (try have hza1 : wa.heap.size + 1 < wa.heap.size := (by omega)); (try have hzb : wb.heap.size < wa.heap.size := (by omega)); (try have hzb1 : wb.heap.size + 1 < wa.heap.size := (by omega)); (try have hzc : wc.heap.size < wa.heap.size := (by omega)); (try have hzd : wd.heap.size < wa.heap.size := (by omega))))
            go_ret2
            exact .inr ⟨HB0.out, rfl, by have := HB.out; (with_reducible repeat (first | exact Below.refl _ _ | apply below_alloc | apply below_dN | apply below_d | refine below_setCell ?_ (by dsimp only; omega) | refine below_call (by assumption) ?_))⟩
          · have hO2 : okU s m := HF.out.2 ⟨by omega, by omega, hK⟩
            have HO2 := Lib.hid hO2
            have hPos := HP.out
            unfold posR at hPos
            rw [hK] at hPos
            simp only [if_true] at hPos
            rw [← HX.out.1, ← HX.out.2] at hPos
            have HP := Lib.hid hPos
            clear hO2 hPos hK
            obtain ⟨x, y, how, hxy⟩ := HO.out
            have HOW := Lib.hid how
            have HXY := Lib.hid hxy
            clear how hxy
            go_wp2_with (first | (go_at_call 67; ((with_reducible refine (HN1.out _).mono ?_); rintro e w1 ⟨⟨v, rfl, rfl⟩, hb⟩); have hu2 : ∀ n : Nat, n < n + 1 + 1 := (fun n => by omega); have hu3 : ∀ n : Nat, n < n + 1 + 1 + 1 := (fun n => by omega); obtain ⟨hc, hfz⟩ := bcell hb; (try simp only [World.heap_drewN] at hc hfz); have hs_ := hb.size; (try simp at hs_); (try have hz0 : w.heap.size < w1.heap.size := (by omega)); (try have hz1 : w.heap.size + 1 < w1.heap.size := (by omega)); (try have hz2 : w.heap.size + 2 < w1.heap.size := (by omega)); (try have hz3 : w.heap.size + 3 < w1.heap.size := (by omega)); (try have hza : wa.heap.size < w1.heap.size := (by omega)); (try have hza1 : wa.heap.size + 1 < w1.heap.size := (by omega)); (try have hzb : wb.heap.size < w1.heap.size := (by omega)); (try have hzb1 : wb.heap.size + 1 < w1.heap.size := (by omega)); (try have hzc : wc.heap.size < w1.heap.size := (by omega)); (try have hzd : wd.heap.size < w1.heap.size := (by omega))) | (go_at_call 67; ((with_reducible refine (HN2.out _).mono ?_); rintro e w1 ⟨⟨v, rfl, rfl⟩, hb⟩); have hu2 : ∀ n : Nat, n < n + 1 + 1 := (fun n => by omega); have hu3 : ∀ n : Nat, n < n + 1 + 1 + 1 := (fun n => by omega); obtain ⟨hc, hfz⟩ := bcell hb; (try simp only [World.heap_drewN] at hc hfz); have hs_ := hb.size; (try simp at hs_); (try have hz0 : w.heap.size < w1.heap.size := (by omega)); (try have hz1 : w.heap.size + 1 < w1.heap.size := (by omega)); (try have hz2 : w.heap.size + 2 < w1.heap.size := (by omega)); (try have hz3 : w.heap.size + 3 < w1.heap.size := (by omega)); (try have hza : wa.heap.size < w1.heap.size := (by omega)); (try have hza1 : wa.heap.size + 1 < w1.heap.size := (by omega)); (try have hzb : wb.heap.size < w1.heap.size := (by omega)); (try have hzb1 : wb.heap.size + 1 < w1.heap.size := (by omega)); (try have hzc : wc.heap.size < w1.heap.size := (by omega)); (try have hzd : wd.heap.size < w1.heap.size := (by omega))) | ((go_at_call 59; ((with_reducible refine (HP.out _).mono ?_); rintro e wa ⟨⟨v, rfl, ⟨p, q, rfl, ⟨u, v, rfl, ⟨hu, hv'⟩, wu, wv⟩, rfl⟩⟩, hb⟩); have hu2 : ∀ n : Nat, n < n + 1 + 1 := (fun n => by omega); have hu3 : ∀ n : Nat, n < n + 1 + 1 + 1 := (fun n => by omega); obtain ⟨hc, hfz⟩ := bcell hb; (try simp only [World.heap_drewN] at hc hfz); have hs_ := hb.size; (try simp at hs_); (try have hz0 : w.heap.size < wa.heap.size := (by omega)); (try have hz1 : w.heap.size + 1 < wa.heap.size := (by omega)); (try have hz2 : w.heap.size + 2 < wa.heap.size := (by omega)); (try have hz3 : w.heap.size + 3 < wa.heap.size := (by omega)); (try have hza : wa.heap.size < wa.heap.size := (by omega)); (try have hza1 : wa.heap.size + 1 < wa.heap.size := (by omega)); (try have hzb : wb.heap.size < wa.heap.size := (by omega)); (try have hzb1 : wb.heap.size + 1 < wa.heap.size := (by omega)); (try have hzc : wc.heap.size < wa.heap.size := (by omega)); (try have hzd : wd.heap.size < wa.heap.size := (by omega))); have hBr : Below wr.heap.size wr wa := (by (with_reducible repeat (first | exact Below.refl _ _ | apply below_alloc | apply below_dN | apply below_d | refine below_setCell ?_ (by dsimp only; omega) | refine below_call (by assumption) ?_)))) | (at_builtin; refine wpList_append_own _ rfl (.tmp 65) (.tmp 67) 41 rfl w.heap.size 29 i0 (.agg #[.float .f32 0, .float .f32 0]) 2 8 Try.underlying41 hi hI0 hI1 hI2 rfl (by decide) _ _ _ rfl (((own_below HOW.out hBr).alloc _).alloc _) ⟨wa.heap.size + 1, 0, none⟩ 1 1 [.float .f32 u, .float .f32 v] rfl rfl (cell_two_new _ _ (by simp) _ _ _) (by intro z hz; simp at hz; rcases hz with rfl | rfl <;> rfl) (by unfold maxLen; omega) (by omega) (by simp; omega) ?_; intro v1 w5 hown5 hgrow5 hnil5))
            go_roundw
            case rel =>
              obtain ⟨g', c', hv1, -⟩ := own_slice hown5 (by omega)
              have hBw : Below w.heap.size w ((wa.alloc (.cells #[.float .f32 u, .float .f32 v] 29)).alloc (.cells #[.float .f32 u, .float .f32 v] 29)) := by have := HB.out.trans (hBr.mono hBs); (with_reducible repeat (first | exact Below.refl _ _ | apply below_alloc | apply below_dN | apply below_d | refine below_setCell ?_ (by dsimp only; omega) | refine below_call (by assumption) ?_))
              have hfin : Below w.heap.size w w5 := hBw.grown hgrow5 (by simp; omega) (fun j hj => (HOW.out.lt j hj).1)
              exact ⟨m + 1, by omega, HU.out.succ HO2.out, HQ2.out, by rw [HS.out.2.1], by rw [HS.out.2.2], by rw [HS.out.1]; go_num, ⟨g', c', hv1⟩, OwnPl.push hown5 HXY.out (by rw [hu]) (by rw [hv']) wu wv, hfin⟩
            case measure => first | (simp [intOf]; done) | (simp [intOf]; omega)
    · have hg := HO.out.lt
      have hW := HO.out.plW
      have hmu : m ≤ 1048576 := by omega
      have hA := l07Packed_c g m c (uX s) (uY s) wr hg hmu hW
      by_cases hl : dP s m < s.size
      · have h64 : ¬ (m : Int) ≤ 64 := by omega
        have hpk : arePk m (uX s) (uY s) = false := by
          cases hh : arePk m (uX s) (uY s)
          · rfl
          · have := (arePk_ok hh).1.2; omega
        rw [hpk] at hA
        have HA := Lib.hid hA
        have HBM := Lib.hid (bad_more hU (show 64 < m by omega))
        clear hA hW hU hpk
        generalize dP s m = P at *
        generalize dA s m = A at *
        generalize dB s m = B at *
        go_wp2_with (first | (go_at_call 42; ((with_reducible refine (HA.out).mono ?_); rintro e w1 ⟨⟨v, rfl, rfl⟩, hb⟩); have hu2 : ∀ n : Nat, n < n + 1 + 1 := (fun n => by omega); have hu3 : ∀ n : Nat, n < n + 1 + 1 + 1 := (fun n => by omega); obtain ⟨hc, hfz⟩ := bcell hb; (try simp only [World.heap_drewN] at hc hfz); have hs_ := hb.size; (try simp at hs_); (try have hz0 : w.heap.size < w1.heap.size := (by omega)); (try have hz1 : w.heap.size + 1 < w1.heap.size := (by omega)); (try have hz2 : w.heap.size + 2 < w1.heap.size := (by omega)); (try have hz3 : w.heap.size + 3 < w1.heap.size := (by omega)); (try have hza : wa.heap.size < w1.heap.size := (by omega)); (try have hza1 : wa.heap.size + 1 < w1.heap.size := (by omega)); (try have hzb : wb.heap.size < w1.heap.size := (by omega)); (try have hzb1 : wb.heap.size + 1 < w1.heap.size := (by omega)); (try have hzc : wc.heap.size < w1.heap.size := (by omega)); (try have hzd : wd.heap.size < w1.heap.size := (by omega))))
        go_ret2
        exact .inr ⟨HBM.out, rfl, by have := HB.out; (with_reducible repeat (first | exact Below.refl _ _ | apply below_alloc | apply below_dN | apply below_d | refine below_setCell ?_ (by dsimp only; omega) | refine below_call (by assumption) ?_))⟩
      · have he : dP s m = s.size := by omega
        have hBE := bad_end hU he
        cases hpk : arePk m (uX s) (uY s)
        · rw [hpk] at hA
          have HA := Lib.hid hA
          have HBM := Lib.hid (hBE (fun h => by rw [hpk] at h; exact absurd h.2.2.1 (by decide)))
          clear hA hW hU hpk hBE
          generalize dP s m = P at *
          generalize dA s m = A at *
          generalize dB s m = B at *
          go_wp2_with (first | (go_at_call 42; ((with_reducible refine (HA.out).mono ?_); rintro e w1 ⟨⟨v, rfl, rfl⟩, hb⟩); have hu2 : ∀ n : Nat, n < n + 1 + 1 := (fun n => by omega); have hu3 : ∀ n : Nat, n < n + 1 + 1 + 1 := (fun n => by omega); obtain ⟨hc, hfz⟩ := bcell hb; (try simp only [World.heap_drewN] at hc hfz); have hs_ := hb.size; (try simp at hs_); (try have hz0 : w.heap.size < w1.heap.size := (by omega)); (try have hz1 : w.heap.size + 1 < w1.heap.size := (by omega)); (try have hz2 : w.heap.size + 2 < w1.heap.size := (by omega)); (try have hz3 : w.heap.size + 3 < w1.heap.size := (by omega)); (try have hza : wa.heap.size < w1.heap.size := (by omega)); (try have hza1 : wa.heap.size + 1 < w1.heap.size := (by omega)); (try have hzb : wb.heap.size < w1.heap.size := (by omega)); (try have hzb1 : wb.heap.size + 1 < w1.heap.size := (by omega)); (try have hzc : wc.heap.size < w1.heap.size := (by omega)); (try have hzd : wd.heap.size < w1.heap.size := (by omega))))
          go_ret2
          exact .inr ⟨HBM.out, rfl, by have := HB.out; (with_reducible repeat (first | exact Below.refl _ _ | apply below_alloc | apply below_dN | apply below_d | refine below_setCell ?_ (by dsimp only; omega) | refine below_call (by assumption) ?_))⟩
        · rw [hpk] at hA
          obtain ⟨⟨n1', n2'⟩, hv⟩ := arePk_ok hpk
          have HA := Lib.hid hA
          have hP := fun (w' : World) (hB' : Below wr.heap.size wr w') => l07Pack_c g m c (uX s) (uY s) w' (Nat.lt_of_lt_of_le hg hB'.size) n1' n2' hv (hW.below hB' hg).cells
          by_cases hS : strL (pkL (uX s) (uY s) m) = s
          · have HG := Lib.hid (show good s m from ⟨hU, he, n1', n2', hpk, hS⟩)
            rw [hS] at hP
            have HP := Lib.hid hP
            clear hA hW hU hpk hBE hP hv hS
            generalize dP s m = P at *
            generalize dA s m = A at *
            generalize dB s m = B at *
            go_wp2_with (first | ((go_at_call 42; ((with_reducible refine (HA.out).mono ?_); rintro e w1 ⟨⟨v, rfl, rfl⟩, hb⟩); have hu2 : ∀ n : Nat, n < n + 1 + 1 := (fun n => by omega); have hu3 : ∀ n : Nat, n < n + 1 + 1 + 1 := (fun n => by omega); obtain ⟨hc, hfz⟩ := bcell hb; (try simp only [World.heap_drewN] at hc hfz); have hs_ := hb.size; (try simp at hs_); (try have hz0 : w.heap.size < w1.heap.size := (by omega)); (try have hz1 : w.heap.size + 1 < w1.heap.size := (by omega)); (try have hz2 : w.heap.size + 2 < w1.heap.size := (by omega)); (try have hz3 : w.heap.size + 3 < w1.heap.size := (by omega)); (try have hza : wa.heap.size < w1.heap.size := (by omega)); (try have hza1 : wa.heap.size + 1 < w1.heap.size := (by omega)); (try have hzb : wb.heap.size < w1.heap.size := (by omega)); (try have hzb1 : wb.heap.size + 1 < w1.heap.size := (by omega)); (try have hzc : wc.heap.size < w1.heap.size := (by omega)); (try have hzd : wd.heap.size < w1.heap.size := (by omega))); have hBr : Below wr.heap.size wr w1 := (by (with_reducible repeat (first | exact Below.refl _ _ | apply below_alloc | apply below_dN | apply below_d | refine below_setCell ?_ (by dsimp only; omega) | refine below_call (by assumption) ?_)))) | (go_at_call 47; ((with_reducible refine (HP.out _ hBr).mono ?_); rintro e wk ⟨⟨v, rfl, rfl⟩, hb⟩); have hu2 : ∀ n : Nat, n < n + 1 + 1 := (fun n => by omega); have hu3 : ∀ n : Nat, n < n + 1 + 1 + 1 := (fun n => by omega); obtain ⟨hc, hfz⟩ := bcell hb; (try simp only [World.heap_drewN] at hc hfz); have hs_ := hb.size; (try simp at hs_); (try have hz0 : w.heap.size < wk.heap.size := (by omega)); (try have hz1 : w.heap.size + 1 < wk.heap.size := (by omega)); (try have hz2 : w.heap.size + 2 < wk.heap.size := (by omega)); (try have hz3 : w.heap.size + 3 < wk.heap.size := (by omega)); (try have hza : wa.heap.size < wk.heap.size := (by omega)); (try have hza1 : wa.heap.size + 1 < wk.heap.size := (by omega)); (try have hzb : wb.heap.size < wk.heap.size := (by omega)); (try have hzb1 : wb.heap.size + 1 < wk.heap.size := (by omega)); (try have hzc : wc.heap.size < wk.heap.size := (by omega)); (try have hzd : wd.heap.size < wk.heap.size := (by omega))))
            go_ret2
            have hbb := hBr.trans (hb.mono hBr.size)
            exact .inl ⟨m, _, HG.out, rfl, HO.out.below hbb, HB.out.trans (hbb.mono hBs)⟩
          · have HBM := Lib.hid (hBE (fun h => hS h.2.2.2))
            obtain ⟨S, hSS⟩ : ∃ S, strL (pkL (uX s) (uY s) m) = S := ⟨_, rfl⟩
            rw [hSS] at hP hS
            have hSL := str_ne hS
            have HP := Lib.hid hP
            clear hA hW hU hpk hBE hP hv hSS
            generalize dP s m = P at *
            generalize dA s m = A at *
            generalize dB s m = B at *
            go_wp2_with (first | ((go_at_call 42; ((with_reducible refine (HA.out).mono ?_); rintro e w1 ⟨⟨v, rfl, rfl⟩, hb⟩); have hu2 : ∀ n : Nat, n < n + 1 + 1 := (fun n => by omega); have hu3 : ∀ n : Nat, n < n + 1 + 1 + 1 := (fun n => by omega); obtain ⟨hc, hfz⟩ := bcell hb; (try simp only [World.heap_drewN] at hc hfz); have hs_ := hb.size; (try simp at hs_); (try have hz0 : w.heap.size < w1.heap.size := (by omega)); (try have hz1 : w.heap.size + 1 < w1.heap.size := (by omega)); (try have hz2 : w.heap.size + 2 < w1.heap.size := (by omega)); (try have hz3 : w.heap.size + 3 < w1.heap.size := (by omega)); (try have hza : wa.heap.size < w1.heap.size := (by omega)); (try have hza1 : wa.heap.size + 1 < w1.heap.size := (by omega)); (try have hzb : wb.heap.size < w1.heap.size := (by omega)); (try have hzb1 : wb.heap.size + 1 < w1.heap.size := (by omega)); (try have hzc : wc.heap.size < w1.heap.size := (by omega)); (try have hzd : wd.heap.size < w1.heap.size := (by omega))); have hBr : Below wr.heap.size wr w1 := (by (with_reducible repeat (first | exact Below.refl _ _ | apply below_alloc | apply below_dN | apply below_d | refine below_setCell ?_ (by dsimp only; omega) | refine below_call (by assumption) ?_)))) | (go_at_call 47; ((with_reducible refine (HP.out _ hBr).mono ?_); rintro e wk ⟨⟨v, rfl, rfl⟩, hb⟩); have hu2 : ∀ n : Nat, n < n + 1 + 1 := (fun n => by omega); have hu3 : ∀ n : Nat, n < n + 1 + 1 + 1 := (fun n => by omega); obtain ⟨hc, hfz⟩ := bcell hb; (try simp only [World.heap_drewN] at hc hfz); have hs_ := hb.size; (try simp at hs_); (try have hz0 : w.heap.size < wk.heap.size := (by omega)); (try have hz1 : w.heap.size + 1 < wk.heap.size := (by omega)); (try have hz2 : w.heap.size + 2 < wk.heap.size := (by omega)); (try have hz3 : w.heap.size + 3 < wk.heap.size := (by omega)); (try have hza : wa.heap.size < wk.heap.size := (by omega)); (try have hza1 : wa.heap.size + 1 < wk.heap.size := (by omega)); (try have hzb : wb.heap.size < wk.heap.size := (by omega)); (try have hzb1 : wb.heap.size + 1 < wk.heap.size := (by omega)); (try have hzc : wc.heap.size < wk.heap.size := (by omega)); (try have hzd : wd.heap.size < wk.heap.size := (by omega))))
            go_ret2
            exact .inr ⟨HBM.out, rfl, HB.out.trans ((hBr.trans (hb.mono hBr.size)).mono hBs)⟩
end Go.Proofs.Yteecbhmgogndaaa
