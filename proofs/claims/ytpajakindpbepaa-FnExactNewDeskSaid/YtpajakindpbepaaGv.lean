/- Grids: made, held against each other, marked; whether they are valid, in both spellings. No condition. -/
import Derived.Test.YtpajakindpbepaaGf
namespace Go.Proofs.Ytpajakindpbepaa
open Go.RowKit
set_option linter.unusedSimpArgs false
/-- Three cells of one block. -/
def gtc (w : World) (p : Nat) (u v z : Value) : Prop := w.rowIs p 30 3 (fun i => if i = 0 then u else if i = 1 then v else z)
namespace gtc
variable {w : World} {p : Nat} {u v z : Value}
theorem c0 (h : gtc w p u v z) : w.cell? ⟨p, 0, none⟩ = some u := World.rowIs.cell h (i := 0) (by omega)
theorem c1 (h : gtc w p u v z) : w.cell? ⟨p, 1, none⟩ = some v := World.rowIs.cell h (i := 1) (by omega)
theorem c2 (h : gtc w p u v z) : w.cell? ⟨p, 2, none⟩ = some z := World.rowIs.cell h (i := 2) (by omega)
theorem fr (h : gtc w p u v z) (i : Nat) : w.frozen? ⟨p, i, none⟩ = false := World.rowIs.frozen h i
theorem lt (h : gtc w p u v z) : p < w.heap.size := World.rowIs.lt h
theorem below {w' : World} (h : gtc w p u v z) (hb : Below w.heap.size w w') : gtc w' p u v z := World.rowIs.of_block h (hb.block p h.lt)
theorem other (h : gtc w p u v z) {c i : Nat} (hne : p ≠ c) (y : Value) : gtc (w.setCell ⟨c, i, none⟩ y) p u v z := World.rowIs.setOther h (a := ⟨c, i, none⟩) hne y
theorem alloc (h : gtc w p u v z) (o : Obj) : gtc (w.alloc o) p u v z := World.rowIs.alloc h o
theorem newAt (hp : p = w.heap.size) : gtc (w.alloc (.cells #[u, v, z] 30)) p u v z := by
  subst hp
  exact World.rowIs_alloc w _ _ _ (fun i hi => by
    match i, hi with
    | 0, _ => rfl
    | 1, _ => rfl
    | 2, _ => rfl)
theorem setC (h : gtc w p u v z) (y : Value) : gtc (w.setCell ⟨p, 2, none⟩ y) p u v y := (World.rowIs.set h 2 _).congr (fun i hi => by
  by_cases e : i = 2
  · simp [e]
  · simp only [if_neg e]
    by_cases e0 : i = 0
    · simp [e0]
    · simp only [if_neg e0]
      have : i = 1 := by omega
      simp [this])
theorem setA (h : gtc w p u v z) (y : Value) : gtc (w.setCell ⟨p, 0, none⟩ y) p y v z := (World.rowIs.set h 0 _).congr (fun i hi => by
  by_cases e : i = 0
  · simp [e]
  · simp [e])
theorem setB (h : gtc w p u v z) (y : Value) : gtc (w.setCell ⟨p, 1, none⟩ y) p u y z := (World.rowIs.set h 1 _).congr (fun i hi => by
  by_cases e : i = 1
  · simp [e]
  · by_cases e0 : i = 0
    · simp [e0]
    · simp [e, e0])
end gtc
set_option maxRecDepth 100000 in
set_option maxHeartbeats 2000000 in
theorem toGrid_c (W H : Int) (A : Option Addr) (n cap : Nat) (x : Nat → Nat) (w : World) (hn : n ≤ 1048576) (hA : FlArg w A n x) :
    Calls Try.prog 13 #[.agg #[.int .i64 W, .int .i64 H, .slice A n cap]] w fun e w' => ∃ b, e = .returned (.agg #[.int .i64 W, .int .i64 H, .slice (some ⟨b, 0, none⟩) n n]) ∧ w.heap.size ≤ b ∧ FlBlk w' b n x ∧ Below w.heap.size w w' := by
  have HA := Lib.hid (fun (w' : World) (hB : Below w.heap.size w w') => toF32S_c A n cap x w' hn (hA.below hB))
  clear hA
  go_enter Try.func13, Try.ntmps13
  go_upto_region 2 with fail
  obtain ⟨V, hV⟩ : ∃ V, (((w.alloc (.cells #[.int .i64 W, .int .i64 H, .slice A n cap] 24)).alloc (.cells #[.int .i64 0, .int .i64 0, .slice none 0 0] 30)).alloc (.cells #[.int .i64 0, .int .i64 0, .slice none 0 0] 30)) = V := ⟨_, rfl⟩
  have hVs : V.heap.size = w.heap.size + 1 + 1 + 1 := by rw [← hV]; simp
  have tO : gtc V (w.heap.size + 1 + 1) (.int .i64 0) (.int .i64 0) (.slice none 0 0) := by rw [← hV]; exact gtc.newAt (by simp)
  have tQ : gtc V (w.heap.size + 1) (.int .i64 0) (.int .i64 0) (.slice none 0 0) := by rw [← hV]; exact (gtc.newAt (by simp)).alloc _
  have tN : V.rowIs w.heap.size 24 3 (fun i => if i = 0 then .int .i64 W else if i = 1 then .int .i64 H else .slice A n cap) := by
    rw [← hV]
    exact ((World.rowIs_alloc w #[.int .i64 W, .int .i64 H, .slice A n cap] 24 (fun i => if i = 0 then .int .i64 W else if i = 1 then .int .i64 H else .slice A n cap) (fun i hi => by
    match i, hi with
    | 0, _ => rfl
    | 1, _ => rfl
    | 2, _ => rfl)).alloc _).alloc _
  have hBV : Below w.heap.size w V := by rw [← hV]; (with_reducible repeat (first | exact Below.refl _ _ | apply below_alloc | apply below_dN | apply below_d | refine below_setCell ?_ (by dsimp only; omega) | refine below_call (by assumption) ?_))
  rw [hV]
  clear hV
  have n0 := tN.cell (i := 0) (by simp)
  have o0 := tO.c0
  have of0 := tO.fr 0
  have ol := tO.lt
  have nl := tN.lt
  simp only [if_true] at n0
  have tO2 := Lib.hid ((tO.setA (.int .i64 W)))
  have tQ2 := Lib.hid (tQ.other (c := w.heap.size + 1 + 1) (i := 0) (by omega) (.int .i64 W))
  have tN2 := Lib.hid (tN.setOther (a := ⟨w.heap.size + 1 + 1, 0, none⟩) (show w.heap.size ≠ w.heap.size + 1 + 1 by omega) (.int .i64 W))
  have hB2 := hBV.setCell (p := ⟨w.heap.size + 1 + 1, 0, none⟩) (show w.heap.size ≤ w.heap.size + 1 + 1 by omega) (.int .i64 W)
  have hs2 : (V.setCell ⟨w.heap.size + 1 + 1, 0, none⟩ (.int .i64 W)).heap.size = V.heap.size := by simp [World.setCell]
  clear tO tQ tN
  go_upto_region 3 with fail
  obtain ⟨V2, hV2⟩ : ∃ V2, V.setCell ⟨w.heap.size + 1 + 1, 0, none⟩ (.int .i64 W) = V2 := ⟨_, rfl⟩
  rw [hV2] at tO2 tQ2 tN2 hB2 hs2 ⊢
  clear hV2 n0 o0 of0 ol nl
  have n0 := tN2.out.cell (i := 1) (by simp)
  have o0 := tO2.out.c1
  have of0 := tO2.out.fr 1
  have ol := tO2.out.lt
  have nl := tN2.out.lt
  simp only [if_neg (show ¬ (1 = 0) by decide), if_true] at n0
  have tO3 := Lib.hid (tO2.out.setB (.int .i64 H))
  have tQ3 := Lib.hid (tQ2.out.other (c := w.heap.size + 1 + 1) (i := 1) (by omega) (.int .i64 H))
  have tN3 := Lib.hid (tN2.out.setOther (a := ⟨w.heap.size + 1 + 1, 1, none⟩) (show w.heap.size ≠ w.heap.size + 1 + 1 by omega) (.int .i64 H))
  have hB3 := hB2.setCell (p := ⟨w.heap.size + 1 + 1, 1, none⟩) (show w.heap.size ≤ w.heap.size + 1 + 1 by omega) (.int .i64 H)
  have hs3 : (V2.setCell ⟨w.heap.size + 1 + 1, 1, none⟩ (.int .i64 H)).heap.size = V2.heap.size := by simp [World.setCell]
  clear tO2 tQ2 tN2
  go_upto_region 4 with fail
  obtain ⟨V3, hV3⟩ : ∃ V3, V2.setCell ⟨w.heap.size + 1 + 1, 1, none⟩ (.int .i64 H) = V3 := ⟨_, rfl⟩
  rw [hV3] at tO3 tQ3 tN3 hB3 hs3 ⊢
  clear hV3 n0 o0 of0 ol nl
  have n0 := tN3.out.cell (i := 2) (by simp)
  simp only [if_neg (show ¬ (2 = 0) by decide), if_neg (show ¬ (2 = 1) by decide)] at n0
  have nl := tN3.out.lt
  go_wp2_with (go_at_call 53; (with_reducible refine (HA.out _ hB3).mono ?_); rintro e w2 ⟨h, rfl, hh, hRd, hb2⟩; have hl2 := hb2.size; have tO4 := tO3.out.below hb2; have tQ4 := tQ3.out.below hb2; have o2 := tO4.c2; have of2 := tO4.fr 2; have olt := tO4.lt; have tO5 := tO4.setC (.slice (some ⟨h, 0, none⟩) n n); have tQ5 := tQ4.other (c := w.heap.size + 1 + 1) (i := 2) (by omega) (.slice (some ⟨h, 0, none⟩) n n); have p0 := tO5.c0; have p1 := tO5.c1; have p2 := tO5.c2; have q0 := tQ5.c0; have q1 := tQ5.c1; have q2 := tQ5.c2; have qf0 := tQ5.fr 0; have qf1 := tQ5.fr 1; have qf2 := tQ5.fr 2; have qlt := tQ5.lt)
  refine bodyPost_ret (v := .agg #[.int .i64 W, .int .i64 H, .slice (some ⟨h, 0, none⟩) n n]) (by simp [results, Try.results13, go_sem, *] <;> (first | rfl | exact ⟨rfl, rfl⟩ | exact ⟨rfl, rfl, rfl⟩ | exact ⟨rfl, rfl, rfl, rfl⟩)) rfl ?_
  have hB4 : Below w.heap.size w w2 := hB3.trans (hb2.mono (by omega))
  refine ⟨h, rfl, by omega, ?_, ?_⟩
  · exact (((hRd.other (by omega) _).other (by omega) _).other (by omega) _).other (by omega) _
  · exact (((hB4.setCell (p := ⟨w.heap.size + 1 + 1, 2, none⟩) (show w.heap.size ≤ w.heap.size + 1 + 1 by omega) _).setCell (p := ⟨w.heap.size + 1, 0, none⟩) (show w.heap.size ≤ w.heap.size + 1 by omega) _).setCell (p := ⟨w.heap.size + 1, 1, none⟩) (show w.heap.size ≤ w.heap.size + 1 by omega) _).setCell (p := ⟨w.heap.size + 1, 2, none⟩) (show w.heap.size ≤ w.heap.size + 1 by omega) _
set_option maxRecDepth 100000 in
set_option maxHeartbeats 1000000 in
theorem eqGrid_c (W H : Int) (b b' n c c' : Nat) (X : Nat → Nat) (w : World) (hn : n ≤ 1048576) (hb : b < w.heap.size) (hb' : b' < w.heap.size) (h : FlCells w b n X) (h' : FlCells w b' n X) :
    Calls Try.prog 16 #[.agg #[.int .i64 W, .int .i64 H, .slice (some ⟨b, 0, none⟩) n c], .agg #[.int .i64 W, .int .i64 H, .slice (some ⟨b', 0, none⟩) n c']] w (Ret (RV (.bool true)) w) := by
  have HE := Lib.hid (fun (w' : World) (hB : Below w.heap.size w w') => eqF32S_c b b' n c c' X w' hn (Nat.lt_of_lt_of_le hb hB.size) (Nat.lt_of_lt_of_le hb' hB.size) (h.dn hb hB) (h'.dn hb' hB))
  clear h h'
  go_enter Try.func16, Try.ntmps16
  go_wp2_with (go_at_call 60; ((with_reducible refine (HE.out _ (by (with_reducible repeat (first | exact Below.refl _ _ | apply below_alloc | apply below_dN | apply below_d | refine below_setCell ?_ (by dsimp only; omega) | refine below_call (by assumption) ?_)))).mono ?_); rintro e w1 ⟨⟨v, rfl, rfl⟩, hb⟩); have hu2 : ∀ n : Nat, n < n + 1 + 1 := (fun n => by omega); have hu3 : ∀ n : Nat, n < n + 1 + 1 + 1 := (fun n => by omega); obtain ⟨hc, hfz⟩ := bcell hb; (try simp only [World.heap_drewN] at hc hfz); have hs_ := hb.size; (try simp at hs_); (try have hz0 : w.heap.size < w1.heap.size := (by omega)); (try have hz1 : w.heap.size + 1 < w1.heap.size := (by omega)); (try have hz2 : w.heap.size + 2 < w1.heap.size := (by omega)); (try have hz3 : w.heap.size + 3 < w1.heap.size := (by omega)); (try have hza : wa.heap.size < w1.heap.size := (by omega)); (try have hza1 : wa.heap.size + 1 < w1.heap.size := (by omega)); (try have hzb : wb.heap.size < w1.heap.size := (by omega)); (try have hzb1 : wb.heap.size + 1 < w1.heap.size := (by omega)); (try have hzc : wc.heap.size < w1.heap.size := (by omega)); (try have hzd : wd.heap.size < w1.heap.size := (by omega)))
  go_ret
  exact ⟨⟨_, rfl, rfl⟩, by (with_reducible repeat (first | exact Below.refl _ _ | apply below_alloc | apply below_dN | apply below_d | refine below_setCell ?_ (by dsimp only; omega) | refine below_call (by assumption) ?_))⟩
theorem markF1_c (lo g n : Nat) (F : Nat → Value) (w : World) (hlo : lo ≤ g) (hn : n ≤ 1048576) (hrow : w.rowIs g 25 n F) :
    Calls Try.prog 61 #[.slice (some ⟨g, 0, none⟩) n n, .int .i64 1] w fun e w' => e = .returned (.int .i64 (1 + (n : Int))) ∧ Below lo w w' ∧ Keep1 g w w' := markF32S_c lo g n 1 F w hlo hn (by omega) hrow
set_option maxRecDepth 100000 in
set_option maxHeartbeats 1000000 in
theorem markGrid_c (lo : Nat) (W H : Int) (b n : Nat) (x : Nat → Nat) (w : World) (hlo : lo ≤ b) (hls : lo ≤ w.heap.size) (hn : n ≤ 1048576) (h : FlBlk w b n x) :
    Calls Try.prog 17 #[.agg #[.int .i64 W, .int .i64 H, .slice (some ⟨b, 0, none⟩) n n], .int .i64 1] w fun e w' => ∃ k : Int, e = .returned (.int .i64 k) ∧ ¬ k < 0 ∧ Below lo w w' ∧ Keep1 b w w' := by
  have hbl := h.lt
  have HM := Lib.hid (fun (w' : World) (hB : Below w.heap.size w w') => markF1_c lo b n _ w' hlo hn (h.dn hB))
  clear h
  go_enter Try.func17, Try.ntmps17
  go_wp2_with (go_at_call 61; (with_reducible refine (HM.out _ (by (with_reducible repeat (first | exact Below.refl _ _ | apply below_alloc | apply below_dN | apply below_d | refine below_setCell ?_ (by dsimp only; omega) | refine below_call (by assumption) ?_)))).mono ?_); rintro e w1 ⟨rfl, hb1, hk1⟩)
  go_ret
  refine ⟨_, rfl, by omega, ?_, fun c hc hne => ?_⟩
  · exact (((Below.refl lo w).alloc hls _).trans hb1)
  · have := hk1 c (by simp; omega) hne
    rw [this]
    exact Below.heap_alloc w _ c hc
/-- Whether a grid is valid. -/
def sidesOk (W H : Int) : Bool := (decide (2 ≤ W) && decide (W ≤ 16)) && (decide (2 ≤ H) && decide (H ≤ 16))
def gridOk (W H : Int) (n : Nat) (X : Nat → Nat) : Bool := (sidesOk W H && decide ((n : Int) = W * H)) && allF X n
theorem gridOk_facts {W H : Int} {n : Nat} {X : Nat → Nat} (h : gridOk W H n X = true) : ∃ a b : Nat, W = a ∧ H = b ∧ 2 ≤ a ∧ a ≤ 16 ∧ 2 ≤ b ∧ b ≤ 16 ∧ n = a * b ∧ ∀ j, j < n → fin .f32 (X j) = true := by
  unfold gridOk sidesOk at h
  simp only [Bool.and_eq_true, decide_eq_true_eq] at h
  obtain ⟨⟨⟨⟨h1, h2⟩, h3, h4⟩, h5⟩, h6⟩ := h
  refine ⟨W.toNat, H.toNat, by omega, by omega, by omega, by omega, by omega, by omega, ?_, ?_⟩
  · have : ((W.toNat * H.toNat : Nat) : Int) = W * H := by rw [Int.natCast_mul]; congr 1 <;> omega
    omega
  · unfold allF at h6
    intro j hj
    exact List.all_eq_true.1 h6 j (List.mem_range.2 hj)
theorem l06Sides_c (W H : Int) (w : World) : Calls Try.prog 91 #[.int .i64 W, .int .i64 H] w fun e w' => e = .returned (.bool (sidesOk W H)) ∧ w = w' := by
  have h1 := l00In_c W 2 16
  have h2 := l00In_c H 2 16
  unfold sidesOk
  generalize (decide (2 ≤ W) && decide (W ≤ 16)) = p at *
  generalize (decide (2 ≤ H) && decide (H ≤ 16)) = q at *
  have H1 := Lib.hid h1
  have H2 := Lib.hid h2
  clear h1 h2
  cases p
  · go_enter Try.func91, Try.ntmps91
    go_wp2_with (first | (go_at_call 106; ((with_reducible refine (H1.out _).mono ?_); rintro e w' ⟨rfl, rfl⟩)))
    go_ret
    exact ⟨rfl, rfl⟩
  · go_enter Try.func91, Try.ntmps91
    go_wp2_with (first | (go_at_call 106; ((with_reducible refine (H1.out _).mono ?_); clear H1; rintro e w' ⟨rfl, rfl⟩)) | (go_at_call 106; ((with_reducible refine (H2.out _).mono ?_); rintro e w' ⟨rfl, rfl⟩)))
    go_ret
    exact ⟨rfl, rfl⟩
theorem areSides_c (W H : Int) (w : World) : Calls Try.prog 75 #[.int .i64 W, .int .i64 H] w fun e w' => e = .returned (.bool (sidesOk W H)) ∧ w = w' := by
  have h1 := within_c W 2 16
  have h2 := within_c H 2 16
  unfold sidesOk
  generalize (decide (2 ≤ W) && decide (W ≤ 16)) = p at *
  generalize (decide (2 ≤ H) && decide (H ≤ 16)) = q at *
  have H1 := Lib.hid h1
  have H2 := Lib.hid h2
  clear h1 h2
  cases p
  · go_enter Try.func75, Try.ntmps75
    go_wp2_with (first | (go_at_call 109; ((with_reducible refine (H1.out _).mono ?_); rintro e w' ⟨rfl, rfl⟩)))
    go_ret
    exact ⟨rfl, rfl⟩
  · go_enter Try.func75, Try.ntmps75
    go_wp2_with (first | (go_at_call 109; ((with_reducible refine (H1.out _).mono ?_); clear H1; rintro e w' ⟨rfl, rfl⟩)) | (go_at_call 109; ((with_reducible refine (H2.out _).mono ?_); rintro e w' ⟨rfl, rfl⟩)))
    go_ret
    exact ⟨rfl, rfl⟩
set_option maxHeartbeats 1000000 in
theorem l02Finite_c (b n cap : Nat) (X : Nat → Nat) (w : World) (hb : b < w.heap.size) (hn : n ≤ 1048576) (hX : FlCells w b n X) :
    Calls Try.prog 92 #[.slice (some ⟨b, 0, none⟩) n cap] w (Ret (RV (.bool (allF X n))) w) := by
  go_enter Try.func92, Try.ntmps92
  go_wp2
  go_loopw [3] (fun k wr => ∃ m : Nat, m ≤ n ∧ k = .int .i64 m ∧ (∀ j, j < m → fin .f32 (X j) = true) ∧ Below w.heap.size w wr) (fun k _ => n - (intOf k).toNat)
  case atStart => exact ⟨0, by omega, rfl, by omega, by (with_reducible repeat (first | exact Below.refl _ _ | apply below_alloc | apply below_dN | apply below_d | refine below_setCell ?_ (by dsimp only; omega) | refine below_call (by assumption) ?_))⟩
  case round =>
    obtain ⟨m, hm, rfl, hall, hB⟩ := hrel
    have HA := Lib.hid hall
    clear hall
    by_cases hlt : m < n
    · obtain ⟨r0, hr0, hc0⟩ := hX m hlt
      have HX := Lib.hid hX
      clear hX
      rw [← hB.cell (p := ⟨b, m, none⟩) hb] at hr0
      cases c : fin .f32 (X m)
      · have HC := Lib.hid (fun w => c ▸ sFinite_c _ _ hc0 w)
        go_wp2_with (first | (go_at_call 50; ((with_reducible refine (HC.out _).mono ?_); rintro e w1 ⟨⟨v, rfl, rfl⟩, hb⟩)))
        go_ret
        exact ⟨⟨_, rfl, by simp [RV, allF_false hlt c]⟩, by (with_reducible repeat (first | exact Below.refl _ _ | apply below_alloc | apply below_dN | apply below_d | refine below_setCell ?_ (by dsimp only; omega) | refine below_call (by assumption) ?_))⟩
      · have HC := Lib.hid (fun w => c ▸ sFinite_c _ _ hc0 w)
        go_wp2_with (first | (go_at_call 50; ((with_reducible refine (HC.out _).mono ?_); rintro e w1 ⟨⟨v, rfl, rfl⟩, hb⟩)))
        go_roundw
        case rel => exact ⟨m + 1, by omega, by go_num, fun j hj => by
          by_cases h : j < m
          · exact HA.out j h
          · obtain rfl : j = m := by omega
            exact c, by (with_reducible repeat (first | exact Below.refl _ _ | apply below_alloc | apply below_dN | apply below_d | refine below_setCell ?_ (by dsimp only; omega) | refine below_call (by assumption) ?_))⟩
        case measure => first | (simp [intOf]; done) | (simp [intOf]; omega)
    · obtain rfl : m = n := by omega
      go_wp2
      go_ret
      exact ⟨⟨_, rfl, by simp [RV, allF_true HA.out]⟩, by (with_reducible repeat (first | exact Below.refl _ _ | apply below_alloc | apply below_dN | apply below_d | refine below_setCell ?_ (by dsimp only; omega) | refine below_call (by assumption) ?_))⟩
end Go.Proofs.Ytpajakindpbepaa
