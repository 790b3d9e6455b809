/- The law of PlainNet. No condition. -/
import Derived.Test.YtpmeccjfjjklkaaPNc
namespace Go.Proofs.Ytpmeccjfjjklkaa
open Go.RowKit
set_option linter.unusedSimpArgs false
theorem TRow.shape {t : TypeId} {s : Nat} {w : World} {lo : Nat} {v : Value} {n : Nat} {f : Nat → Value} (h : TRow t s w lo v n f) : ∃ A c, v = .slice A n c := by
  rcases h with ⟨rfl, rfl⟩ | ⟨g, cap, N, rfl, -⟩
  · exact ⟨_, _, rfl⟩
  · exact ⟨_, _, rfl⟩
theorem eqPlaceS_zero (A A' : Option Addr) (c c' : Nat) (w : World) : Calls Try.prog 21 #[.slice A 0 c, .slice A' 0 c'] w (Ret (RV (.bool true)) w) := by
  go_enter Try.func21, Try.ntmps21
  go_wp2
  go_loopw [5] (fun k wr => k = .int .i64 0 ∧ w = wr) (fun _ _ => 0)
  case atStart => exact ⟨rfl, rfl⟩
  case round =>
    obtain ⟨rfl, rfl⟩ := hrel
    go_wp2
    go_ret
    exact ⟨⟨_, rfl, rfl⟩, Below.refl _ _⟩
theorem eqRoadS_zero (A A' : Option Addr) (c c' : Nat) (w : World) : Calls Try.prog 22 #[.slice A 0 c, .slice A' 0 c'] w (Ret (RV (.bool true)) w) := by
  go_enter Try.func22, Try.ntmps22
  go_wp2
  go_loopw [5] (fun k wr => k = .int .i64 0 ∧ w = wr) (fun _ _ => 0)
  case atStart => exact ⟨rfl, rfl⟩
  case round =>
    obtain ⟨rfl, rfl⟩ := hrel
    go_wp2
    go_ret
    exact ⟨⟨_, rfl, rfl⟩, Below.refl _ _⟩
theorem eqPlV {w : World} {lo lo' n : Nat} {v v' : Value} {x y : Nat → Nat} (hn : n ≤ 1048576) (h : TRow 75 2 w lo v n (pc x y)) (h' : TRow 75 2 w lo' v' n (pc x y)) : Calls Try.prog 21 #[v, v'] w (Ret (RV (.bool true)) w) := by
  by_cases hz : n = 0
  · subst hz
    obtain ⟨A, c, rfl⟩ := h.shape
    obtain ⟨A', c', rfl⟩ := h'.shape
    exact eqPlaceS_zero A A' c c' w
  · obtain ⟨g, c, N, F, rfl, -, hN, hr, hF⟩ := h.slice (fun e => by subst e; rcases h with ⟨-, e⟩ | ⟨_, _, _, e, -⟩ <;> first | exact hz e | exact nomatch e)
    obtain ⟨g', c', N', F', rfl, -, hN', hr', hF'⟩ := h'.slice (fun e => by subst e; rcases h' with ⟨-, e⟩ | ⟨_, _, _, e, -⟩ <;> first | exact hz e | exact nomatch e)
    exact eqPlaceS_c g g' n c c' (canon x) (canon y) w hn hr.lt hr'.lt (plc_of hr hN hF) (plc_of hr' hN' hF')
theorem eqRdV {w : World} {lo lo' n : Nat} {v v' : Value} {a b l : Nat → Int} (hn : n ≤ 1048576) (h : TRow 69 3 w lo v n (rc a b l)) (h' : TRow 69 3 w lo' v' n (rc a b l)) : Calls Try.prog 22 #[v, v'] w (Ret (RV (.bool true)) w) := by
  by_cases hz : n = 0
  · subst hz
    obtain ⟨A, c, rfl⟩ := h.shape
    obtain ⟨A', c', rfl⟩ := h'.shape
    exact eqRoadS_zero A A' c c' w
  · obtain ⟨g, c, N, F, rfl, -, hN, hr, hF⟩ := h.slice (fun e => by subst e; rcases h with ⟨-, e⟩ | ⟨_, _, _, e, -⟩ <;> first | exact hz e | exact nomatch e)
    obtain ⟨g', c', N', F', rfl, -, hN', hr', hF'⟩ := h'.slice (fun e => by subst e; rcases h' with ⟨-, e⟩ | ⟨_, _, _, e, -⟩ <;> first | exact hz e | exact nomatch e)
    exact eqRoadS_c g g' n c c' a b l w hn ⟨N, F, hN, hF, hr⟩ ⟨N', F', hN', hF', hr'⟩
set_option maxRecDepth 100000 in
set_option maxHeartbeats 1000000 in
theorem eqNetV {w : World} {lo1 lo2 lo3 lo4 n m c1 c2 c3 c4 : Nat} {A1 A2 A3 A4 : Option Addr} {x y : Nat → Nat} {a b l : Nat → Int} (hn : n ≤ 1048576) (hm : m ≤ 1048576) (h1 : TRow 75 2 w lo1 (.slice A1 n c1) n (pc x y)) (h2 : TRow 69 3 w lo2 (.slice A2 m c2) m (rc a b l)) (h3 : TRow 75 2 w lo3 (.slice A3 n c3) n (pc x y)) (h4 : TRow 69 3 w lo4 (.slice A4 m c4) m (rc a b l)) :
    Calls Try.prog 14 #[.agg #[.slice A1 n c1, .slice A2 m c2], .agg #[.slice A3 n c3, .slice A4 m c4]] w (Ret (RV (.bool true)) w) := by
  have HP := Lib.hid (fun (w' : World) (hB : Below w.heap.size w w') => eqPlV hn (h1.below hB) (h3.below hB))
  have HR := Lib.hid (fun (w' : World) (hB : Below w.heap.size w w') => eqRdV hm (h2.below hB) (h4.below hB))
  clear h1 h2 h3 h4
  go_enter Try.func14, Try.ntmps14
  go_wp2_with (first | (go_at_call 21; ((with_reducible refine (HP.out _ (by (with_reducible repeat (first | exact Below.refl _ _ | apply below_alloc | apply below_dN | apply below_d | refine below_setCell ?_ (by dsimp only; omega) | refine below_call (by assumption) ?_)))).mono ?_); rintro e w1 ⟨⟨v, rfl, rfl⟩, hb⟩); have hu2 : ∀ n : Nat, n < n + 1 + 1 := (fun n => by omega); have hu3 : ∀ n : Nat, n < n + 1 + 1 + 1 := (fun n => by omega); obtain ⟨hc, hfz⟩ := bcell hb; (try simp only [World.heap_drewN] at hc hfz); have hs_ := hb.size; (try simp at hs_); (try have hz0 : w.heap.size < w1.heap.size := (by omega)); (try have hz1 : w.heap.size + 1 < w1.heap.size := (by omega)); (try have hz2 : w.heap.size + 2 < w1.heap.size := (by omega)); (try have hz3 : w.heap.size + 3 < w1.heap.size := (by omega)); (try have hza : wa.heap.size < w1.heap.size := (by omega)); (try have hza1 : wa.heap.size + 1 < w1.heap.size := (by omega)); (try have hzb : wb.heap.size < w1.heap.size := (by omega)); (try have hzb1 : wb.heap.size + 1 < w1.heap.size := (by omega)); (try have hzc : wc.heap.size < w1.heap.size := (by omega)); (try have hzd : wd.heap.size < w1.heap.size := (by omega))) | (go_at_call 22; ((with_reducible refine (HR.out _ (by (with_reducible repeat (first | exact Below.refl _ _ | apply below_alloc | apply below_dN | apply below_d | refine below_setCell ?_ (by dsimp only; omega) | refine below_call (by assumption) ?_)))).mono ?_); rintro e w1 ⟨⟨v, rfl, rfl⟩, hb⟩); have hu2 : ∀ n : Nat, n < n + 1 + 1 := (fun n => by omega); have hu3 : ∀ n : Nat, n < n + 1 + 1 + 1 := (fun n => by omega); obtain ⟨hc, hfz⟩ := bcell hb; (try simp only [World.heap_drewN] at hc hfz); have hs_ := hb.size; (try simp at hs_); (try have hz0 : w.heap.size < w1.heap.size := (by omega)); (try have hz1 : w.heap.size + 1 < w1.heap.size := (by omega)); (try have hz2 : w.heap.size + 2 < w1.heap.size := (by omega)); (try have hz3 : w.heap.size + 3 < w1.heap.size := (by omega)); (try have hza : wa.heap.size < w1.heap.size := (by omega)); (try have hza1 : wa.heap.size + 1 < w1.heap.size := (by omega)); (try have hzb : wb.heap.size < w1.heap.size := (by omega)); (try have hzb1 : wb.heap.size + 1 < w1.heap.size := (by omega)); (try have hzc : wc.heap.size < w1.heap.size := (by omega)); (try have hzd : wd.heap.size < w1.heap.size := (by omega))))
  go_ret
  exact ⟨⟨_, rfl, rfl⟩, by (with_reducible repeat (first | exact Below.refl _ _ | apply below_alloc | apply below_dN | apply below_d | refine below_setCell ?_ (by dsimp only; omega) | refine below_call (by assumption) ?_))⟩
set_option maxRecDepth 100000 in
set_option maxHeartbeats 1000000 in
theorem markNetV (lo n m c1 c2 : Nat) (A R : Option Addr) (f fr : Nat → Value) (w : World) (hlo : lo ≤ w.heap.size) (hn : n ≤ 1048576) (hm : m ≤ 1048576) (h1 : TRow 75 2 w lo (.slice A n c1) n f) (h2 : TRow 69 3 w lo (.slice R m c2) m fr) :
    Calls Try.prog 25 #[.agg #[.slice A n c1, .slice R m c2], .int .i64 1] w fun e w' => e = .returned (.int .i64 (1 + 2 * (n : Int) + 3 * (m : Int))) ∧ TRow 75 2 w' lo (.slice A n c1) n (mkp 1 n f) ∧ TRow 69 3 w' lo (.slice R m c2) m (mkr (1 + 2 * n) m fr) ∧ Below lo w w' ∧ ∀ b, b < w.heap.size → (Value.slice A n c1).ownBlock ≠ some b → (Value.slice R m c2).ownBlock ≠ some b → w'.heap[b]? = w.heap[b]? := by
  obtain ⟨V, hV⟩ : ∃ V, w.alloc (.cells #[.slice A n c1, .slice R m c2] 31) = V := ⟨_, rfl⟩
  have hVs : V.heap.size = w.heap.size + 1 := by rw [← hV]; simp
  have hBV : Below w.heap.size w V := by rw [← hV]; (with_reducible repeat (first | exact Below.refl _ _ | apply below_alloc | apply below_dN | apply below_d | refine below_setCell ?_ (by dsimp only; omega) | refine below_call (by assumption) ?_))
  have tV : ntc V w.heap.size (.slice A n c1) (.slice R m c2) := by rw [← hV]; exact ntc.newAt rfl
  have h1V := h1.below hBV
  have h2V := h2.below hBV
  have hne := h1V.ne h2V (by decide)
  have hl1 : (Value.slice A n c1).ownBlock ≠ some w.heap.size := fun e => by have := h1.lt e; omega
  have hmp := markPlV_c lo (.slice A n c1) n 1 f V (by omega) hn (by omega) h1V
  rw [show ((1 : Nat) : Int) = 1 from rfl] at hmp
  have HMP := Lib.hid hmp
  have m0 := tV.c0
  have m1 := tV.lt
  have HMR := Lib.hid (fun (w' : World) (hl : lo ≤ w'.heap.size) (hk : KeepV (.slice A n c1) V w') => markRdV_c lo (.slice R m c2) m (1 + 2 * n) fr w' hl hm (by omega) (h2V.keep (fun b hb _ hv => hk b hb (fun e => hne b e hv))))
  have e1 : ((1 + 2 * n : Nat) : Int) = 1 + 2 * (n : Int) := by omega
  have HNE := Lib.hid hne
  have HL := Lib.hid hl1
  clear h1 h2 h1V h2V hne hl1 hmp
  go_enter Try.func25, Try.ntmps25
  go_upto_region 2 with (go_at_call 23; (with_reducible refine (HMP.out).mono ?_); rintro e w1 ⟨rfl, hT1, hk1, hb1⟩)
  have HT1 := Lib.hid hT1
  have HK1 := Lib.hid hk1
  have hs1 := hb1.size
  have tV1 : ntc w1 w.heap.size (.slice A n c1) (.slice R m c2) := World.rowIs.of_block tV (hk1 _ (by omega) HL.out)
  have n1 := tV1.c1
  have n0 := tV1.c0
  have hMR := HMR.out w1 (by omega) hk1
  rw [e1] at hMR
  have HMR1 := Lib.hid hMR
  clear hT1 hk1 hMR
  go_wp2_with (go_at_call 24; (with_reducible refine (HMR1.out).mono ?_); rintro e w2 ⟨rfl, hT2, hk2, hb2⟩)
  go_ret
  refine ⟨rfl, HT1.out.keep (fun b hb _ hv => hk2 b hb (fun e => ?_)), hT2, (hBV.mono hlo).trans (hb1.trans hb2), fun b hb h1 h2 => ?_⟩
  · exact HNE.out b hv e
  · rw [hk2 b (by omega) h2, HK1.out b (by omega) h1, hBV.block b hb]
set_option maxRecDepth 100000 in
set_option maxHeartbeats 1000000 in
theorem heldNetV (lo lo' n m c1 c2 : Nat) (A R : Option Addr) (f fr : Nat → Value) (w : World) (hn : n ≤ 1048576) (hm : m ≤ 1048576) (h1 : TRow 75 2 w lo (.slice A n c1) n (mkp 1 n f)) (h2 : TRow 69 3 w lo' (.slice R m c2) m (mkr (1 + 2 * n) m fr)) :
    Calls Try.prog 26 #[.agg #[.slice A n c1, .slice R m c2], .int .i64 1] w (Ret (RV (.int .i64 (1 + 2 * (n : Int) + 3 * (m : Int)))) w) := by
  have HMP := Lib.hid (fun (w' : World) (hB : Below w.heap.size w w') => show Calls Try.prog 58 #[.slice A n c1, .int .i64 1] w' (Ret (RV (.int .i64 (1 + 2 * (n : Int)))) w') from heldPlV_c lo (.slice A n c1) n 1 f w' hn (by omega) (h1.below hB))
  have e1 : ((1 + 2 * n : Nat) : Int) = 1 + 2 * (n : Int) := by omega
  have hmr := fun (w' : World) (hB : Below w.heap.size w w') => heldRdV_c lo' (.slice R m c2) m (1 + 2 * n) fr w' hm (by omega) (h2.below hB)
  rw [e1] at hmr
  have HMR := Lib.hid hmr
  have q1 : ¬ (1 + 2 * (n : Int) < 0) := by omega
  have q2 : ¬ (1 + 2 * (n : Int) + 3 * (m : Int) < 0) := by omega
  clear h1 h2 hmr
  go_enter Try.func26, Try.ntmps26
  go_wp2_with (first | (go_at_call 58; ((with_reducible refine (HMP.out _ (by (with_reducible repeat (first | exact Below.refl _ _ | apply below_alloc | apply below_dN | apply below_d | refine below_setCell ?_ (by dsimp only; omega) | refine below_call (by assumption) ?_)))).mono ?_); rintro e w1 ⟨⟨v, rfl, rfl⟩, hb⟩); have hu2 : ∀ n : Nat, n < n + 1 + 1 := (fun n => by omega); have hu3 : ∀ n : Nat, n < n + 1 + 1 + 1 := (fun n => by omega); obtain ⟨hc, hfz⟩ := bcell hb; (try simp only [World.heap_drewN] at hc hfz); have hs_ := hb.size; (try simp at hs_); (try have hz0 : w.heap.size < w1.heap.size := (by omega)); (try have hz1 : w.heap.size + 1 < w1.heap.size := (by omega)); (try have hz2 : w.heap.size + 2 < w1.heap.size := (by omega)); (try have hz3 : w.heap.size + 3 < w1.heap.size := (by omega)); (try have hza : wa.heap.size < w1.heap.size := (by omega)); (try have hza1 : wa.heap.size + 1 < w1.heap.size := (by omega)); (try have hzb : wb.heap.size < w1.heap.size := (by omega)); (try have hzb1 : wb.heap.size + 1 < w1.heap.size := (by omega)); (try have hzc : wc.heap.size < w1.heap.size := (by omega)); (try have hzd : wd.heap.size < w1.heap.size := (by omega))) | (go_at_call 59; ((with_reducible refine (HMR.out _ (by (with_reducible repeat (first | exact Below.refl _ _ | apply below_alloc | apply below_dN | apply below_d | refine below_setCell ?_ (by dsimp only; omega) | refine below_call (by assumption) ?_)))).mono ?_); rintro e w1 ⟨⟨v, rfl, rfl⟩, hb⟩); have hu2 : ∀ n : Nat, n < n + 1 + 1 := (fun n => by omega); have hu3 : ∀ n : Nat, n < n + 1 + 1 + 1 := (fun n => by omega); obtain ⟨hc, hfz⟩ := bcell hb; (try simp only [World.heap_drewN] at hc hfz); have hs_ := hb.size; (try simp at hs_); (try have hz0 : w.heap.size < w1.heap.size := (by omega)); (try have hz1 : w.heap.size + 1 < w1.heap.size := (by omega)); (try have hz2 : w.heap.size + 2 < w1.heap.size := (by omega)); (try have hz3 : w.heap.size + 3 < w1.heap.size := (by omega)); (try have hza : wa.heap.size < w1.heap.size := (by omega)); (try have hza1 : wa.heap.size + 1 < w1.heap.size := (by omega)); (try have hzb : wb.heap.size < w1.heap.size := (by omega)); (try have hzb1 : wb.heap.size + 1 < w1.heap.size := (by omega)); (try have hzc : wc.heap.size < w1.heap.size := (by omega)); (try have hzd : wd.heap.size < w1.heap.size := (by omega))))
  go_ret
  exact ⟨⟨_, rfl, rfl⟩, by (with_reducible repeat (first | exact Below.refl _ _ | apply below_alloc | apply below_dN | apply below_d | refine below_setCell ?_ (by dsimp only; omega) | refine below_call (by assumption) ?_))⟩
theorem PlBlk.trow {w : World} {lo b n : Nat} {x y : Nat → Nat} (h : PlBlk w b n x y) (hl : lo ≤ b) : TRow 75 2 w lo (.slice (some ⟨b, 0, none⟩) n n) n (pc x y) := .inr ⟨b, n, n * 2, rfl, hl, Nat.le_refl _, _, h, fun _ _ => rfl⟩
theorem RdBlk.trow {w : World} {lo g n : Nat} {a b l : Nat → Int} (h : RdBlk w g n a b l) (hl : lo ≤ g) : TRow 69 3 w lo (.slice (some ⟨g, 0, none⟩) n n) n (rc a b l) := by
  obtain ⟨N, F, h1, h2, h3⟩ := h
  exact .inr ⟨g, n, N, rfl, hl, h1, F, h3, h2⟩
set_option maxRecDepth 100000 in
set_option maxHeartbeats 8000000 in
theorem lawPlainNet (A R : Option Addr) (n m cap cap' : Nat) (x y : Nat → Nat) (a b l : Nat → Int) (w : World) (hn0 : n ≤ 9223372036854775807) (hm0 : m ≤ 9223372036854775807) (hA : PlArg w A n x y) (hR : RdArg w R m a b l) :
    Calls Try.prog 4 #[.slice A n cap, .slice R m cap'] w fun e w' => e = .returned (.bool true) ∧ Below w.heap.size w w' := by
  have hz := szPlaceS_c A n cap 1048576 (by decide) (by decide) hn0
  by_cases hn : (1048576 : Int) < n
  · simp only [if_pos hn] at hz
    have HZ := Lib.hid hz
    clear hz hA hR
    go_enter Try.func4, Try.ntmps4
    go_wp2_with (go_at_call 15; (with_reducible refine (HZ.out _).mono ?_); rintro e w1 ⟨rfl, rfl⟩)
    go_ret
    exact ⟨rfl, by (with_reducible repeat (first | exact Below.refl _ _ | apply below_alloc | apply below_dN | apply below_d | refine below_setCell ?_ (by dsimp only; omega) | refine below_call (by assumption) ?_))⟩
  · simp only [if_neg hn] at hz
    have HZ := Lib.hid hz
    have hl1 : ¬ (1048576 - (n : Int) < 0) := by omega
    have hz2 := szRoadS_c R m cap' (1048576 - (n : Int)) (by omega) (by omega) hm0
    by_cases hm : (1048576 - (n : Int)) < m
    · simp only [if_pos hm] at hz2
      have HZ2 := Lib.hid hz2
      clear hz hA hR hz2
      go_enter Try.func4, Try.ntmps4
      go_wp2_with (first | (go_at_call 15; (with_reducible refine (HZ.out _).mono ?_); rintro e w1 ⟨rfl, rfl⟩) | (go_at_call 16; (with_reducible refine (HZ2.out _).mono ?_); rintro e w1 ⟨rfl, rfl⟩))
      go_ret
      exact ⟨rfl, by (with_reducible repeat (first | exact Below.refl _ _ | apply below_alloc | apply below_dN | apply below_d | refine below_setCell ?_ (by dsimp only; omega) | refine below_call (by assumption) ?_))⟩
    · simp only [if_neg hm] at hz2
      have HZ2 := Lib.hid hz2
      have hl2 : ¬ (1048576 - (n : Int) - (m : Int) < 0) := by omega
      have HTP := Lib.hid (fun (w' : World) (hB : Below w.heap.size w w') => toPlaceS_c A n cap x y w' (by omega) (hA.below hB))
      have HTR := Lib.hid (fun (w' : World) (hB : Below w.heap.size w w') => toRoadS_c R m cap' a b l w' (by omega) (hR.below hB))
      have hs := fun g h w' hP hR => sPN_c g h n m n m x y a b l w' (by omega) (by omega) hP hR
      have hi := fun g h w' hP hR => iPN_c g h n m n m x y a b l w' (by omega) (by omega) hP hR
      unfold PNR at hs hi
      have hN : (if netOk n m (canon x) (canon y) a b l then n else 0) ≤ 1048576 := by split <;> omega
      have hM : (if netOk n m (canon x) (canon y) a b l then m else 0) ≤ 1048576 := by split <;> omega
      generalize (if netOk n m (canon x) (canon y) a b l then n else 0) = N at hs hi hN
      generalize (if netOk n m (canon x) (canon y) a b l then m else 0) = M at hs hi hM
      generalize netOk n m (canon x) (canon y) a b l = K at hs hi
      have HS := Lib.hid hs
      have HI := Lib.hid hi
      have hrefl := Below.refl w.heap.size w
      clear hz hA hR hz2 hs hi
      go_enter Try.func4, Try.ntmps4
      go_upto_region 8 with (first | (go_at_call 15; (with_reducible refine (HZ.out _).mono ?_); rintro e w1 ⟨rfl, rfl⟩) | (go_at_call 16; (with_reducible refine (HZ2.out _).mono ?_); rintro e w1 ⟨rfl, rfl⟩))
      go_wp2_with fail
      (go_at_call 18; (with_reducible refine (HTP.out _ (by assumption)).mono ?_); rintro e w1 ⟨g1, rfl, hg_w1, hP_w1, hb_w1⟩)
      go_wp2_with fail
      (go_at_call 19; (with_reducible refine (HTR.out _ (by assumption)).mono ?_); rintro e w2 ⟨h2, rfl, hg_w2, hR_w2, hb_w2⟩)
      go_wp2_with fail
      have B2 : Below w.heap.size w w2 := hb_w1.trans (hb_w2.mono hb_w1.size)
      (go_at_call 17; (with_reducible refine (HS.out g1 h2 _ (hP_w1.arow.below hb_w2) hR_w2.arow).mono ?_); rintro e w3 ⟨v1, v2, rfl, hT1, hT2, hb3⟩)
      obtain ⟨A1, c1, rfl⟩ := hT1.shape
      obtain ⟨A2, c2, rfl⟩ := hT2.shape
      have B3 := B2.trans (hb3.mono B2.size)
      obtain ⟨U1, hU1⟩ : ∃ U, w3.alloc (.cells #[.slice A1 N c1, .slice A2 M c2] 31) = U := ⟨_, rfl⟩
      have hU1s : U1.heap.size = w3.heap.size + 1 := by rw [← hU1]; simp
      have bU1 : Below w3.heap.size w3 U1 := by rw [← hU1]; exact (Below.refl _ _).alloc (Nat.le_refl _) _
      have tX : ntc U1 w3.heap.size (.slice A1 N c1) (.slice A2 M c2) := by rw [← hU1]; exact ntc.newAt rfl
      have T1 := Lib.hid (hT1.below bU1)
      have T2 := Lib.hid (hT2.below bU1)
      have BU1 := B3.trans (bU1.mono B3.size)
      clear hT1 hT2
      go_wp2_with fail
      (go_at_call 18; (with_reducible refine (HTP.out _ (by assumption)).mono ?_); rintro e w4 ⟨g4, rfl, hg_w4, hP_w4, hb_w4⟩)
      have hs4 := hb_w4.size
      have B4 := BU1.trans (hb_w4.mono BU1.size)
      go_wp2_with fail
      (go_at_call 19; (with_reducible refine (HTR.out _ (by assumption)).mono ?_); rintro e w5 ⟨h5, rfl, hg_w5, hR_w5, hb_w5⟩)
      have hs5 := hb_w5.size
      have B5 := B4.trans (hb_w5.mono B4.size)
      have hg4 := PlBlk.in hP_w4
      have hh5 := hR_w5.lt
      go_wp2_with fail
      (go_at_call 20; (with_reducible refine (HI.out g4 h5 _ (hP_w4.arow.below hb_w5) hR_w5.arow).mono ?_); rintro e w6 ⟨v3, v4, rfl, hT3, hT4, hb6⟩)
      obtain ⟨A3, c3, rfl⟩ := hT3.shape
      obtain ⟨A4, c4, rfl⟩ := hT4.shape
      have hs6 := hb6.size
      have B6 := B5.trans (hb6.mono B5.size)
      obtain ⟨U2, hU2⟩ : ∃ U, w6.alloc (.cells #[.slice A3 N c3, .slice A4 M c4] 31) = U := ⟨_, rfl⟩
      have hU2s : U2.heap.size = w6.heap.size + 1 := by rw [← hU2]; simp
      have bU2 : Below w6.heap.size w6 U2 := by rw [← hU2]; exact (Below.refl _ _).alloc (Nat.le_refl _) _
      have tY : ntc U2 w6.heap.size (.slice A3 N c3) (.slice A4 M c4) := by rw [← hU2]; exact ntc.newAt rfl
      have T3 := Lib.hid (hT3.below bU2)
      have T4 := Lib.hid (hT4.below bU2)
      have BU2 := B6.trans (bU2.mono B6.size)
      have C2 : Below U1.heap.size U1 U2 := ((hb_w4.trans (hb_w5.mono (by omega))).trans (hb6.mono (by omega))).trans (bU2.mono (by omega))
      have L3 : (Value.slice A3 N c3).ownBlock ≠ some w6.heap.size := fun e => by have := hT3.lt e; omega
      have L4 : (Value.slice A4 M c4).ownBlock ≠ some w6.heap.size := fun e => by have := hT4.lt e; omega
      have D0 : Below w4.heap.size w4 U2 := (hb_w5.trans (hb6.mono (by omega))).trans (bU2.mono (by omega))
      have D1 : Below w5.heap.size w5 U2 := hb6.trans (bU2.mono (by omega))
      have P2 := Lib.hid (hP_w4.dn D0)
      have R2 := Lib.hid (hR_w5.dn D1)
      have tX2 := tX.below C2
      clear hT3 hT4
      have x0 := tX2.c0
      have x1 := tX2.c1
      have x2 := tX2.lt
      have y0 := tY.c0
      have y1 := tY.c1
      have y2 := tY.lt
      go_wp2_with fail
      clear x0 x1 x2 y0 y1 y2
      (go_at_call 14; (with_reducible refine (eqNetV hN hM T3.out T4.out (T1.out.below C2) (T2.out.below C2)).mono ?_); rintro e w7 ⟨⟨_, rfl, rfl⟩, hb7⟩)
      have hs7 := hb7.size
      have B7 := BU2.trans (hb7.mono BU2.size)
      go_wp2_with fail
      (go_at_call 18; (with_reducible refine (HTP.out _ (by assumption)).mono ?_); rintro e w8 ⟨g8, rfl, hg_w8, hP_w8, hb_w8⟩)
      have hs8 := hb_w8.size
      go_wp2_with fail
      have E8 : Below U2.heap.size U2 w8 := hb7.trans (hb_w8.mono (by omega))
      have B8 := BU2.trans (E8.mono BU2.size)
      (go_at_call 21; (with_reducible refine (eqPlV (by omega) ((P2.out.trow (lo := 0) (Nat.zero_le _)).below E8) (hP_w8.trow (lo := 0) (Nat.zero_le _))).mono ?_); rintro e w9 ⟨⟨_, rfl, rfl⟩, hb9⟩)
      have hs9 := hb9.size
      have E9 := E8.trans (hb9.mono E8.size)
      have B9 := BU2.trans (E9.mono BU2.size)
      go_wp2_with fail
      (go_at_call 19; (with_reducible refine (HTR.out _ (by assumption)).mono ?_); rintro e w10 ⟨h10, rfl, hg_w10, hR_w10, hb_w10⟩)
      have hs10 := hb_w10.size
      go_wp2_with fail
      have E10 := E9.trans (hb_w10.mono E9.size)
      (go_at_call 22; (with_reducible refine (eqRdV (by omega) ((R2.out.trow (lo := 0) (Nat.zero_le _)).below E10) (hR_w10.trow (lo := 0) (Nat.zero_le _))).mono ?_); rintro e w11 ⟨⟨_, rfl, rfl⟩, hb11⟩)
      have hs11 := hb11.size
      have E11 := E10.trans (hb11.mono E10.size)
      have C11 := C2.trans (E11.mono C2.size)
      go_wp2_with fail
      have P11 := (P2.out.trow (lo := U1.heap.size) hg_w4).below E11
      have R11 := (R2.out.trow (lo := U1.heap.size) (by omega)).below E11
      have hmk := markPlV_c U1.heap.size (.slice (some ⟨g4, 0, none⟩) n n) n 1 _ w11 C11.size (by omega) (by omega) P11
      rw [show ((1 : Nat) : Int) = 1 from rfl] at hmk
      (go_at_call 23; (with_reducible refine hmk.mono ?_); rintro e w12 ⟨rfl, -, hk12, hb12⟩)
      clear hmk
      have hs12 := hb12.size
      have R12 := R11.keep (w' := w12) (fun b hb _ hv => hk12 b hb (fun e => P11.ne R11 (by decide) b e hv))
      have hmk := markRdV_c U1.heap.size (.slice (some ⟨h5, 0, none⟩) m m) m (1 + 2 * n) _ w12 (by omega) (by omega) (by omega) R12
      rw [show ((1 + 2 * n : Nat) : Int) = 1 + 2 * (n : Int) by omega] at hmk
      go_wp2_with fail
      (go_at_call 24; (with_reducible refine hmk.mono ?_); rintro e w13 ⟨rfl, -, hk13, hb13⟩)
      clear hmk
      have hs13 := hb13.size
      have hh : ∀ b, b < w11.heap.size → b ≠ g4 → b ≠ h5 → w13.heap[b]? = w11.heap[b]? := fun b hb h1 h2 => by
        rw [hk13 b (by omega) (fun e => h2 (by injection e with e; exact e.symm)), hk12 b hb (fun e => h1 (by injection e with e; exact e.symm))]
      have C13 := (C11.trans hb12).trans hb13
      have tX13 := tX.below C13
      have tY13 : ntc w13 w6.heap.size (.slice A3 N c3) (.slice A4 M c4) := World.rowIs.of_block (tY.below E11) (hh _ (by omega) (by omega) (by omega))
      have T3x := Lib.hid ((T3.out.below E11).keep (w' := w13) (fun b hb hl _ => hh b hb (by omega) (by omega)))
      have T4x := Lib.hid ((T4.out.below E11).keep (w' := w13) (fun b hb hl _ => hh b hb (by omega) (by omega)))
      clear P11 R11 R12 hk12 hk13 hh
      have q1 : ¬ (1 + 2 * (n : Int) + 3 * (m : Int) < 0) := by omega
      have x0 := tX13.c0
      have x1 := tX13.c1
      have x2 := tX13.lt
      have y0 := tY13.c0
      have y1 := tY13.c1
      have y2 := tY13.lt
      go_wp2_with fail
      clear x0 x1 x2 y0 y1 y2
      (go_at_call 14; (with_reducible refine (eqNetV hN hM T3x.out T4x.out (T1.out.below C13) (T2.out.below C13)).mono ?_); rintro e w14 ⟨⟨_, rfl, rfl⟩, hb14⟩)
      have hs14 := hb14.size
      have tY14 := tY13.below hb14
      have y0 := tY14.c0
      have y1 := tY14.c1
      have y2 := tY14.lt
      have C14 := C13.trans (hb14.mono C13.size)
      go_wp2_with fail
      have T3y := T3x.out.below hb14
      have T4y := T4x.out.below hb14
      (go_at_call 25; (with_reducible refine (markNetV w5.heap.size N M c3 c4 A3 A4 _ _ w14 (by omega) hN hM T3y T4y).mono ?_); rintro e w15 ⟨rfl, hT3m, hT4m, hb15, hk15⟩)
      have hs15 := hb15.size
      have tY15 : ntc w15 w6.heap.size (.slice A3 N c3) (.slice A4 M c4) := World.rowIs.of_block tY14 (hk15 _ (by omega) L3 L4)
      have HT3 := Lib.hid hT3m
      have HT4 := Lib.hid hT4m
      have C15 := C14.trans (hb15.mono (by omega))
      clear T3y T4y hT3m hT4m hk15 y0 y1 y2
      have q2 : ¬ (1 + 2 * (N : Int) + 3 * (M : Int) < 0) := by omega
      have y0 := tY15.c0
      have y1 := tY15.c1
      have y2 := tY15.lt
      go_wp2_with fail
      (go_at_call 26; (with_reducible refine (heldNetV w5.heap.size w5.heap.size N M c3 c4 A3 A4 _ _ w15 hN hM HT3.out HT4.out).mono ?_); rintro e w16 ⟨⟨_, rfl, rfl⟩, hb16⟩)
      clear y0 y1 y2
      have hs16 := hb16.size
      have C16 := C15.trans (hb16.mono C15.size)
      have B16 := BU1.trans (C16.mono BU1.size)
      go_wp2_with fail
      (go_at_call 18; (with_reducible refine (HTP.out _ (by assumption)).mono ?_); rintro e w17 ⟨g17, rfl, hg_w17, hP_w17, hb_w17⟩)
      have hs17 := hb_w17.size
      have B17 := B16.trans (hb_w17.mono B16.size)
      go_wp2_with fail
      (go_at_call 19; (with_reducible refine (HTR.out _ (by assumption)).mono ?_); rintro e w18 ⟨h18, rfl, hg_w18, hR_w18, hb_w18⟩)
      have hs18 := hb_w18.size
      go_wp2_with fail
      (go_at_call 20; (with_reducible refine (HI.out g17 h18 _ (hP_w17.arow.below hb_w18) hR_w18.arow).mono ?_); rintro e w19 ⟨v5, v6, rfl, hT5, hT6, hb19⟩)
      obtain ⟨A5, c5, rfl⟩ := hT5.shape
      obtain ⟨A6, c6, rfl⟩ := hT6.shape
      have hs19 := hb19.size
      obtain ⟨U3, hU3⟩ : ∃ U, w19.alloc (.cells #[.slice A5 N c5, .slice A6 M c6] 31) = U := ⟨_, rfl⟩
      have hU3s : U3.heap.size = w19.heap.size + 1 := by rw [← hU3]; simp
      have bU3 : Below w19.heap.size w19 U3 := by rw [← hU3]; exact (Below.refl _ _).alloc (Nat.le_refl _) _
      have tZ : ntc U3 w19.heap.size (.slice A5 N c5) (.slice A6 M c6) := by rw [← hU3]; exact ntc.newAt rfl
      have T5 := Lib.hid (hT5.below bU3)
      have T6 := Lib.hid (hT6.below bU3)
      clear hT5 hT6
      have F3 : Below w15.heap.size w15 U3 := (((hb16.trans (hb_w17.mono (by omega))).trans (hb_w18.mono (by omega))).trans (hb19.mono (by omega))).trans (bU3.mono (by omega))
      have CU3 := C15.trans (F3.mono C15.size)
      have tX3 := tX.below CU3
      have tY3 := tY15.below F3
      have x0 := tX3.c0
      have x1 := tX3.c1
      have x2 := tX3.lt
      have z0 := tZ.c0
      have z1 := tZ.c1
      have z2 := tZ.lt
      go_wp2_with fail
      clear x0 x1 x2 z0 z1 z2
      (go_at_call 14; (with_reducible refine (eqNetV hN hM T5.out T6.out (T1.out.below CU3) (T2.out.below CU3)).mono ?_); rintro e w20 ⟨⟨_, rfl, rfl⟩, hb20⟩)
      have F20 := F3.trans (hb20.mono F3.size)
      have tY20 := tY15.below F20
      have y0 := tY20.c0
      have y1 := tY20.c1
      have y2 := tY20.lt
      go_wp2_with fail
      (go_at_call 26; (with_reducible refine (heldNetV w5.heap.size w5.heap.size N M c3 c4 A3 A4 _ _ w20 hN hM (HT3.out.below F20) (HT4.out.below F20)).mono ?_); rintro e w21 ⟨⟨_, rfl, rfl⟩, hb21⟩)
      clear y0 y1 y2
      go_wp2
      go_ret
      have F21 := F20.trans (hb21.mono F20.size)
      have C21 := C15.trans (F21.mono C15.size)
      exact ⟨rfl, BU1.trans (C21.mono BU1.size)⟩
end Go.Proofs.Ytpmeccjfjjklkaa
