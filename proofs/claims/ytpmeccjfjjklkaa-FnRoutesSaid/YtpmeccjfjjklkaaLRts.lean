/- The law of Routes. No condition. -/
import Derived.Test.YtpmeccjfjjklkaaRtA4
import Derived.Deep.RegionHeld3
namespace Go.Proofs.Ytpmeccjfjjklkaa
open Go.RowKit Go.IntWalk
set_option linter.unusedSimpArgs false
theorem two_dr {w : World} {f p q : Nat} (hf : f = w.heap.size) : Dr (w.alloc (.cells #[.int .i64 (p : Int), .int .i64 (q : Int)] 2)) f 2 2 (Go.Proofs.Ytpmeccjfjjklkaa.two p q) := by
  subst hf
  refine ⟨fun j => .int .i64 (Go.Proofs.Ytpmeccjfjjklkaa.two p q j), World.rowIs_alloc w _ _ _ (fun i hi => by
    match i, hi with
    | 0, _ => rfl
    | 1, _ => rfl), Nat.le_refl _, fun _ _ => rfl⟩
/-- What is shared. -/
def SHR (n : Nat) (D E : Nat → Int) (w : World) (sh th : Value) (wx : World) : Prop := ∃ o co q0 d0 q1 d1, sh = .slice (some ⟨o, 0, none⟩) 2 co ∧ th = .bool true ∧ o < wx.heap.size ∧ wx.cell? ⟨o, 0, none⟩ = some (.slice (some ⟨q0, 0, none⟩) n d0) ∧ wx.cell? ⟨o, 1, none⟩ = some (.slice (some ⟨q1, 0, none⟩) n d1) ∧ Dr wx q0 n d0 D ∧ Dr wx q1 n d1 E ∧ Below w.heap.size w wx
set_option maxRecDepth 100000 in
set_option maxHeartbeats 16000000 in
theorem lawRoutes (A A' : Option Addr) (n0 k0 c c' : Nat) (w : World) (hA : ByArg w A n0) (hA' : ByArg w A' k0) :
    Calls Try.prog 9 #[.slice A n0 c, .slice A' k0 c'] w fun e w' => e = .returned (.bool true) ∧ Below w.heap.size w w' := by
  by_cases hlong : (1048576 < n0 ∨ 1048576 < k0)
  · have e : (decide (1048576 < n0) || decide (1048576 < k0)) = true := by simpa using hlong
    have HL := Lib.hid (fun w' => e ▸ b10Long_c n0 c k0 c' A A' w')
    clear hA hA' hlong e
    go_enter Try.func9, Try.ntmps9
    go_wp2_with (go_at_call 42; (with_reducible refine (HL.out _).mono ?_); rintro e w1 ⟨⟨v, rfl, rfl⟩, hb1⟩)
    go_ret
    exact ⟨rfl, hb1⟩
  · have e : (decide (1048576 < n0) || decide (1048576 < k0)) = false := by simp; omega
    have HL := Lib.hid (fun w' => e ▸ b10Long_c n0 c k0 c' A A' w')
    have HG := Lib.hid (fun w' (hB : Below w.heap.size w w') => B10Net_c n0 c A w' (by omega) (hA.dn hB))
    have HA := Lib.hid hA'
    clear hA hA' hlong e
    go_enter Try.func9, Try.ntmps9
    go_upto_region 4 with (first | (go_at_call 42; (with_reducible refine (HL.out _).mono ?_); rintro e w1 ⟨⟨v, rfl, rfl⟩, hb1⟩) | (go_at_call 43; (with_reducible refine (HG.out _ hb1).mono ?_); rintro e w2 ⟨g, n, cg, NA, m, ch, X, Y, a, b, l, rfl, hn, hm, hok, hg, hP, hR, hB2⟩))
    refine absw (fun V hV => ?_)
    obtain ⟨cN, hcN⟩ : ∃ cN, w2.heap.size = cN := ⟨_, rfl⟩
    have hBV2 : Below w2.heap.size w2 V := by rw [hV]; exact (Below.refl _ _).alloc (Nat.le_refl _) _
    have tN : ntc V cN (.slice (some ⟨g, 0, none⟩) n cg) (.slice NA m ch) := by rw [hV]; exact ntc.newAt hcN.symm
    rw [hcN]
    have hP' := hP.dn hg hBV2
    have hR' := hR.below hBV2
    have hgl : g < V.heap.size := Nat.lt_of_lt_of_le hg hBV2.size
    have hBV : Below w.heap.size w V := (hb1.trans (hB2.mono hb1.size)).trans (hBV2.mono (Nat.le_trans hb1.size hB2.size))
    have HBV := Lib.hid hBV
    have HTN := Lib.hid tN
    have HR := Lib.hid hR'
    have HOK := Lib.hid hok
    have hVs := hBV.size
    have HRL := Lib.hid (fun (p : Nat) (hp : p < n) w' (hB : Below V.heap.size V w') => (rl_any (cg := cg) (p : Int) (Nat.lt_of_lt_of_le hgl hB.size) (by omega) (by omega) (hP'.dn hgl hB) (hR'.below hB)).mono fun _ _ h => rl_law hok hp h)
    have HRS := Lib.hid (fun (p q f : Nat) (wk : Int) (hp : p < n) (hq : q < n) (h1 : 1 ≤ wk) (h8 : wk ≤ 8) w' (hB : Below V.heap.size V w') (hD : Dr w' f 2 2 (Go.Proofs.Ytpmeccjfjjklkaa.two p q)) => (rs_any (cg := cg) f 2 2 _ wk (Nat.lt_of_lt_of_le hgl hB.size) (by omega) (by omega) (by omega) (hP'.dn hgl hB) (hR'.below hB) hD).mono fun _ _ h => rs_law hok hp hq h1 h8 h)
    have HRP := Lib.hid (fun (p q : Nat) (B : Bool) (hp : p < n) (hq : q < n) (hD : decide (0 ≤ rt n m (eN a) (eN b) l p q) = B) w' (hB : Below V.heap.size V w') => (rp_any (cg := cg) (p : Int) (q : Int) (Nat.lt_of_lt_of_le hgl hB.size) (by omega) (by omega) (hP'.dn hgl hB) (hR'.below hB)).mono fun _ _ h => rp_law hok hp hq hD h)
    have HRO := Lib.hid (fun (p most : Nat) (hp : p < n) (hm : most ≤ 100) w' (hB : Below V.heap.size V w') => (ro_any (cg := cg) (p : Int) (most : Int) (Nat.lt_of_lt_of_le hgl hB.size) (by omega) (by omega) (hP'.dn hgl hB) (hR'.below hB)).mono fun _ _ h => ro_law hok hp (by omega) (by omega) h)
    have HVN := Lib.hid (fun w' (hB : Below V.heap.size V w') => hok ▸ vn_any (cg := cg) (Nat.lt_of_lt_of_le hgl hB.size) (by omega) (by omega) (hP'.dn hgl hB) (hR'.below hB))
    have HA0 := Lib.hid (fun w' (hB : Below w.heap.size w w') => (show Calls Try.prog 44 #[.slice A' k0 c', .int .i64 0, .int .i64 (n : Int)] w' (fun e w'' => ∃ r : Nat, r < n ∧ e = .returned (.int .i64 (r : Int)) ∧ w' = w'') from b10At_c k0 c' 0 n A' w' (by omega) (by omega) (by omega) (HA.out.dn hB)))
    have HA1 := Lib.hid (fun w' (hB : Below w.heap.size w w') => (show Calls Try.prog 44 #[.slice A' k0 c', .int .i64 1, .int .i64 (n : Int)] w' (fun e w'' => ∃ r : Nat, r < n ∧ e = .returned (.int .i64 (r : Int)) ∧ w' = w'') from b10At_c k0 c' 1 n A' w' (by omega) (by omega) (by omega) (HA.out.dn hB)))
    have HA2 := Lib.hid (fun w' (hB : Below w.heap.size w w') => (show Calls Try.prog 44 #[.slice A' k0 c', .int .i64 2, .int .i64 8] w' (fun e w'' => ∃ r : Nat, r < 8 ∧ e = .returned (.int .i64 (r : Int)) ∧ w' = w'') from b10At_c k0 c' 2 8 A' w' (by omega) (by omega) (by omega) (HA.out.dn hB)))
    have HA3 := Lib.hid (fun w' (hB : Below w.heap.size w w') => (show Calls Try.prog 44 #[.slice A' k0 c', .int .i64 3, .int .i64 20] w' (fun e w'' => ∃ r : Nat, r < 20 ∧ e = .returned (.int .i64 (r : Int)) ∧ w' = w'') from b10At_c k0 c' 3 20 A' w' (by omega) (by omega) (by omega) (HA.out.dn hB)))
    clear hV hP hR hP' hR' hg hgl hBV2 hb1 hB2 hBV HL HG tN hcN
    have g0 := HTN.out.c0
    have gl := HTN.out.lt
    go_upto_region 7 with (first | (go_at_call 44; (with_reducible refine (HA0.out _ HBV.out).mono ?_); rintro e w' ⟨p, hp, rfl, rfl⟩) | (go_at_call 44; (with_reducible refine (HA1.out _ HBV.out).mono ?_); rintro e w' ⟨q, hq, rfl, rfl⟩))
    obtain ⟨⟨hn1, hn64⟩, hm64, hRd, hab⟩ := netOk_facts HOK.out
    have hLD := rt_long hRd hn64 hp
    have hLE := rt_long hRd hn64 hq
    have hDE : rt n m (eN a) (eN b) l p q = rt n m (eN a) (eN b) l q p := long_symm hLD hLE
    have hz0 := hLD.zero
    have HRP := Lib.hid (fun B h => HRP.out p q B hp hq h)
    have HRLp := Lib.hid (HRL.out p hp)
    have HRLq := Lib.hid (HRL.out q hq)
    have HRS := Lib.hid (fun f wk => HRS.out p q f wk hp hq)
    have HRO := Lib.hid (fun most => HRO.out p most hp)
    obtain ⟨D, hD⟩ : ∃ D, rt n m (eN a) (eN b) l p = D := ⟨_, rfl⟩
    obtain ⟨E, hE⟩ : ∃ E, rt n m (eN a) (eN b) l q = E := ⟨_, rfl⟩
    simp only [hD, hE] at HRP HRLp HRLq HRS HRO hLD hDE hz0
    obtain ⟨B, hB⟩ : ∃ B, decide (0 ≤ D q) = B := ⟨_, rfl⟩
    have HRP := Lib.hid (HRP.out B hB)
    have HLD := Lib.hid hLD
    have HAB := Lib.hid hab
    clear hLE hD hE HRL hLD hRd hab g0 gl
    have g0 := HTN.out.c0
    have g1 := HTN.out.c1
    have gl := HTN.out.lt
    go_upto_region 8 with (go_at_call 28; (with_reducible refine (HRLp.out _ (Below.refl _ _)).mono ?_); rintro e w3 ⟨b1, c1, rfl, hD1, hb3⟩)
    have t3 := HTN.out.below hb3
    have HD1 := Lib.hid hD1
    have HB3 := Lib.hid hb3
    clear g0 g1 gl hD1 hb3
    have g0 := t3.c0
    have g1 := t3.c1
    have gl := t3.lt
    clear t3
    go_upto_region 9 with (go_at_call 28; (with_reducible refine (HRLq.out _ HB3.out).mono ?_); rintro e w4 ⟨b2, c2, rfl, hE2, hb4⟩)
    have HD1 := Lib.hid (HD1.out.below hb4)
    have HE2 := Lib.hid hE2
    have hB4 := HB3.out.trans (hb4.mono HB3.out.size)
    have t4 := HTN.out.below hB4
    have HB4 := Lib.hid hB4
    clear g0 g1 gl hE2 hb4 hB4
    have g0 := t4.c0
    have g1 := t4.c1
    have gl := t4.lt
    have HT4 := Lib.hid t4
    clear t4
    have HBw := Lib.hid (fun w' (h : Below w4.heap.size w4 w') => HBV.out.trans ((HB4.out.trans (h.mono HB4.out.size)).mono hVs))
    have HKS := Lib.hid (fun w' (h : Below w4.heap.size w4 w') => (⟨(h.cell (p := ⟨cN, 0, none⟩) gl).trans g0, (h.cell (p := ⟨cN, 1, none⟩) gl).trans g1, Nat.lt_of_lt_of_le gl h.size, h⟩ : w'.cell? ⟨cN, 0, none⟩ = some (.slice (some ⟨g, 0, none⟩) n cg) ∧ w'.cell? ⟨cN, 1, none⟩ = some (.slice NA m ch) ∧ cN < w'.heap.size ∧ Below w4.heap.size w4 w'))
    have HB4w := Lib.hid (fun w' (h : Below w4.heap.size w4 w') => HB4.out.trans (h.mono HB4.out.size))
    go_upto_region 9 with fail
    go_cut [13, 14] (fun sh th wx => SHR n D E w4 sh th wx)
    case first =>
      go_region_held3 (fun w' => w'.cell? ⟨cN, 0, none⟩ = some (.slice (some ⟨g, 0, none⟩) n cg) ∧ w'.cell? ⟨cN, 1, none⟩ = some (.slice NA m ch) ∧ cN < w'.heap.size ∧ Below w4.heap.size w4 w') (first | (exact HKS.out _ (by (with_reducible repeat (first | exact Below.refl _ _ | apply below_alloc | apply below_dN | apply below_d | refine below_setCell ?_ (by dsimp only; omega) | refine below_call (by assumption) ?_)))) | (exact HKS.out _ (by assumption)))
        (first | (go_at_call 44; (with_reducible refine (HA2.out _ (HBw.out _ (by (with_reducible repeat (first | exact Below.refl _ _ | apply below_alloc | apply below_dN | apply below_d | refine below_setCell ?_ (by dsimp only; omega) | refine below_call (by assumption) ?_))))).mono ?_); rintro e w' ⟨r8, hr8, rfl, rfl⟩) | (go_at_call 36; (with_reducible refine (HRS.out w4.heap.size (IntKind.i64.wrap ((1 : Int) + (r8 : Int))) (by rw [IntKind.wrap_i64]; omega) (by rw [IntKind.wrap_i64]; omega) _ (HB4w.out _ (by (with_reducible repeat (first | exact Below.refl _ _ | apply below_alloc | apply below_dN | apply below_d | refine below_setCell ?_ (by dsimp only; omega) | refine below_call (by assumption) ?_)))) (Dr.drew (two_dr rfl))).mono ?_); rintro e w5 ⟨o, co, q0, d0, q1, d1, rfl, ho, ho0, ho1, hD0, hE1, hb5⟩; have hb45 : Below w4.heap.size w4 w5 := by (with_reducible repeat (first | exact Below.refl _ _ | apply below_alloc | apply below_dN | apply below_d | refine below_setCell ?_ (by dsimp only; omega) | refine below_call (by assumption) ?_))))
      all_goals (go_wp2; go_meet; case rel => exact ⟨o, co, q0, d0, q1, d1, rfl, rfl, ho, ho0, ho1, hD0, hE1, hb45⟩)
    case rest =>
    obtain ⟨o, co, q0, d0, q1, d1, rfl, rfl, ho, ho0, ho1, hD0, hE1, hb45⟩ := hcut
    rename World => w5
    have hB5 := HB4.out.trans (hb45.mono HB4.out.size)
    rename (∀ (_ : Act) (_ : World), _) => hK9
    refine hK9 _ _ ?_
    exact chA (HBV.out.trans (hB5.mono hVs)) (HT4.out.below hb45) (HR.out.below hB5) (HD1.out.below hb45) hn.2 hm hp hq HLD.out HAB.out hDE hB (HE2.out.below hb45) ho ho0 ho1 hD0 hE1 (fun w' h => HRP.out w' (hB5.trans (h.mono hB5.size))) (fun w' h => HVN.out w' (hB5.trans (h.mono hB5.size))) (fun most hm w' h => HRO.out most hm w' (hB5.trans (h.mono hB5.size))) HA3.out
end Go.Proofs.Ytpmeccjfjjklkaa
