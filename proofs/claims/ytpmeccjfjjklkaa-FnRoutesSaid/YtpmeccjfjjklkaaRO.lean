/- Contracts of ReachOf in both spellings. No condition. -/
import Derived.Test.YtpmeccjfjjklkaaRL
namespace Go.Proofs.Ytpmeccjfjjklkaa
open Go.RowKit
set_option linter.unusedSimpArgs false
/-- The places that are chosen, in their order. -/
def pkL (P : Nat → Bool) : Nat → List Nat
  | 0 => []
  | i + 1 => if P i then pkL P i ++ [i] else pkL P i
theorem pkL_len (P : Nat → Bool) : ∀ i, (pkL P i).length ≤ i
  | 0 => Nat.le_refl _
  | i + 1 => by
    have := pkL_len P i
    unfold pkL
    split
    · simp; omega
    · omega
theorem pkL_t {P : Nat → Bool} {i : Nat} (h : P i = true) : pkL P (i + 1) = pkL P i ++ [i] := by show (if P i then _ else _) = _; rw [h]; rfl
theorem pkL_f {P : Nat → Bool} {i : Nat} (h : P i = false) : pkL P (i + 1) = pkL P i := by show (if P i then _ else _) = _; rw [h]; rfl
def ivs (l : List Nat) : List Value := l.map (fun (i : Nat) => .int .i64 (i : Int))
theorem ivs_snoc (l : List Nat) (i : Nat) : ivs (l ++ [i]) = ivs l ++ [.int .i64 (i : Int)] := by simp [ivs]
def nthI (l : List Nat) (j : Nat) : Int := ((l[j]?).getD 0 : Nat)
theorem own_iarr {w : World} {B n : Nat} {v : Value} {xs : List Value} {d : Nat → Int} (h : w.ownsRow B 2 1 v n xs) (hx : ∀ j, j < n → xs[j]? = some (.int .i64 (d j))) : IArr w B v n d := by
  by_cases hn : 0 < n
  · obtain ⟨g, cap, rfl, h1, h2⟩ := own_dr h hn hx
    exact .inr ⟨g, cap, rfl, h1, h2⟩
  · obtain rfl : n = 0 := by omega
    rcases h.2 with ⟨rfl, e⟩ | ⟨g, cap, cur, rfl, h1, h2, h3, h4, h5, h6⟩
    · exact .inl ⟨rfl, rfl⟩
    · refine .inr ⟨g, cap, rfl, h1, fun i => (cur[i]?).getD undef, ⟨cur, h2, by omega, fun i hi => ?_⟩, Nat.zero_le _, fun i hi => absurd hi (by omega)⟩
      show cur[i]? = some ((cur[i]?).getD undef)
      rw [Array.getElem?_eq_getElem (by omega)]; rfl
theorem own_pk {w : World} {B : Nat} {v : Value} {l : List Nat} (h : w.ownsRow B 2 1 v l.length (ivs l)) : IArr w B v l.length (nthI l) :=
  own_iarr h (fun j hj => by simp [ivs, nthI, List.getElem?_eq_getElem hj])
theorem IArr.lo {w : World} {B B' n : Nat} {v : Value} {d : Nat → Int} (h : IArr w B v n d) (hB : B' ≤ B) : IArr w B' v n d := h.imp id (fun ⟨g, cap, e, h1, h2⟩ => ⟨g, cap, e, Nat.le_trans hB h1, h2⟩)
/-- What a slice of whole numbers and a word are returned as. -/
def IRes (K : Bool) (N : Nat) (D : Nat → Int) (w : World) (e : Ending) (w' : World) : Prop := ∃ v, e = .returned (.tuple #[v, .bool K]) ∧ IArr w' w.heap.size v N D ∧ Below w.heap.size w w'
def roP (D : Nat → Int) (most : Int) (i : Nat) : Bool := decide (0 ≤ D i) && decide (D i ≤ most)
def roOk (n m : Nat) (X Y : Nat → Nat) (a b l : Nat → Int) (fr most : Int) : Bool := rlOk n m X Y a b l fr && (decide (0 ≤ most) && decide (most ≤ 1000000000))
def roL (n m : Nat) (a b l : Nat → Int) (fr most : Int) : List Nat := pkL (roP (rt n m (eN a) (eN b) l fr.toNat) most) n
def ROR (n m : Nat) (X Y : Nat → Nat) (a b l : Nat → Int) (fr most : Int) : World → Ending → World → Prop := IRes (roOk n m X Y a b l fr most) (if roOk n m X Y a b l fr most then (roL n m a b l fr most).length else 0) (nthI (roL n m a b l fr most))
set_option maxRecDepth 100000 in
set_option maxHeartbeats 4000000 in
theorem sRO_c (g h n m cg ch : Nat) (X Y : Nat → Nat) (a b l : Nat → Int) (fr most : Int) (w : World) (hg : g < w.heap.size) (hn : n ≤ 1048576) (hm : m ≤ 1048576) (hP : PlCells w g n X Y) (hR : RdBlk w h m a b l) :
    Calls Try.prog 32 #[.agg #[.slice (some ⟨g, 0, none⟩) n cg, .slice (some ⟨h, 0, none⟩) m ch], .int .i64 fr, .int .i64 most] w (ROR n m X Y a b l fr most w) := by
  have HF := Lib.hid (fun (w' : World) (hB : Below w.heap.size w w') c0 c1 => l07From_c w.heap.size g h n m cg ch X Y a b l fr w' hn hm c0 c1 (hP.dn hg hB) (hR.below hB hR.lt))
  have hIn := l00In_c most 0 1000000000
  unfold ROR roOk
  generalize hp : (decide (0 ≤ most) && decide (most ≤ 1000000000)) = p at hIn
  have HI := Lib.hid hIn
  clear hIn
  cases hq : rlOk n m X Y a b l fr
  · rw [hq] at HF
    clear hP hR hq HI hp
    go_enter Try.func32, Try.ntmps32
    go_wp2_with (first | (go_at_call 60; ((with_reducible refine (HF.out _ (by (with_reducible repeat (first | exact Below.refl _ _ | apply below_alloc | apply below_dN | apply below_d | refine below_setCell ?_ (by dsimp only; omega) | refine below_call (by assumption) ?_))) (by simp) (by simp)).mono ?_); rintro e w1 ⟨⟨v, rfl, rfl⟩, hb⟩); have hu2 : ∀ n : Nat, n < n + 1 + 1 := (fun n => by omega); have hu3 : ∀ n : Nat, n < n + 1 + 1 + 1 := (fun n => by omega); obtain ⟨hc, hfz⟩ := bcell hb; (try simp only [World.heap_drewN] at hc hfz); have hs_ := hb.size; (try simp at hs_); (try have hz0 : w.heap.size < w1.heap.size := (by omega)); (try have hz1 : w.heap.size + 1 < w1.heap.size := (by omega)); (try have hz2 : w.heap.size + 2 < w1.heap.size := (by omega)); (try have hz3 : w.heap.size + 3 < w1.heap.size := (by omega)); (try have hza : wa.heap.size < w1.heap.size := (by omega)); (try have hza1 : wa.heap.size + 1 < w1.heap.size := (by omega)); (try have hzb : wb.heap.size < w1.heap.size := (by omega)); (try have hzb1 : wb.heap.size + 1 < w1.heap.size := (by omega)); (try have hzc : wc.heap.size < w1.heap.size := (by omega)); (try have hzd : wd.heap.size < w1.heap.size := (by omega))))
    go_ret2
    exact ⟨_, rfl, .inl ⟨rfl, rfl⟩, by (with_reducible repeat (first | exact Below.refl _ _ | apply below_alloc | apply below_dN | apply below_d | refine below_setCell ?_ (by dsimp only; omega) | refine below_call (by assumption) ?_))⟩
  · cases p
    · rw [hq] at HF
      clear hP hR hq hp
      go_enter Try.func32, Try.ntmps32
      go_wp2_with (first | (go_at_call 60; ((with_reducible refine (HF.out _ (by (with_reducible repeat (first | exact Below.refl _ _ | apply below_alloc | apply below_dN | apply below_d | refine below_setCell ?_ (by dsimp only; omega) | refine below_call (by assumption) ?_))) (by simp) (by simp)).mono ?_); rintro e w1 ⟨⟨v, rfl, rfl⟩, hb⟩); have hu2 : ∀ n : Nat, n < n + 1 + 1 := (fun n => by omega); have hu3 : ∀ n : Nat, n < n + 1 + 1 + 1 := (fun n => by omega); obtain ⟨hc, hfz⟩ := bcell hb; (try simp only [World.heap_drewN] at hc hfz); have hs_ := hb.size; (try simp at hs_); (try have hz0 : w.heap.size < w1.heap.size := (by omega)); (try have hz1 : w.heap.size + 1 < w1.heap.size := (by omega)); (try have hz2 : w.heap.size + 2 < w1.heap.size := (by omega)); (try have hz3 : w.heap.size + 3 < w1.heap.size := (by omega)); (try have hza : wa.heap.size < w1.heap.size := (by omega)); (try have hza1 : wa.heap.size + 1 < w1.heap.size := (by omega)); (try have hzb : wb.heap.size < w1.heap.size := (by omega)); (try have hzb1 : wb.heap.size + 1 < w1.heap.size := (by omega)); (try have hzc : wc.heap.size < w1.heap.size := (by omega)); (try have hzd : wd.heap.size < w1.heap.size := (by omega))) | (go_at_call 65; ((with_reducible refine (HI.out _).mono ?_); rintro e w' ⟨rfl, rfl⟩)))
      go_ret2
      exact ⟨_, rfl, .inl ⟨rfl, rfl⟩, by (with_reducible repeat (first | exact Below.refl _ _ | apply below_alloc | apply below_dN | apply below_d | refine below_setCell ?_ (by dsimp only; omega) | refine below_call (by assumption) ?_))⟩
    · obtain ⟨hk, f, rfl, hf⟩ := rlOk_facts hq
      obtain ⟨⟨hn1, hn64⟩, -, -, -⟩ := netOk_facts hk
      rw [hq] at HF
      have HL := Lib.hid (fun (w' : World) (hB : Below w.heap.size w w') c0 c1 => l07Longs_c w.heap.size g h n m cg ch X Y a b l f w' hf hk c0 c1 (hR.below hB hR.lt))
      unfold roL
      rw [Int.toNat_natCast]
      generalize rt n m (eN a) (eN b) l f = D at HL
      clear hP hR hq hk hp
      obtain ⟨i0, hi, hI0, hI1, hI2⟩ := info_parts info_i64
      have hb0 : Below w.heap.size w (w.alloc (.cells #[.slice (some ⟨g, 0, none⟩) n cg, .slice (some ⟨h, 0, none⟩) m ch] 31)) := by (with_reducible repeat (first | exact Below.refl _ _ | apply below_alloc | apply below_dN | apply below_d | refine below_setCell ?_ (by dsimp only; omega) | refine below_call (by assumption) ?_))
      have hs0 : (w.alloc (.cells #[.slice (some ⟨g, 0, none⟩) n cg, .slice (some ⟨h, 0, none⟩) m ch] 31)).heap.size = w.heap.size + 1 := by simp
      have hN := ntc.newAt (w := w) (p := w.heap.size) (u := .slice (some ⟨g, 0, none⟩) n cg) (v := .slice (some ⟨h, 0, none⟩) m ch) rfl
      go_enter Try.func32, Try.ntmps32
      go_upto_region 3 with (first | (go_at_call 60; ((with_reducible refine (HF.out _ hb0 hN.c0 hN.c1).mono ?_); rintro e w1 ⟨⟨v, rfl, rfl⟩, hb⟩)) | (go_at_call 65; ((with_reducible refine (HI.out _).mono ?_); rintro e w' ⟨rfl, rfl⟩)))
      have hN1 := hN.below hb
      have n0 := hN1.c0
      have n1 := hN1.c1
      have hB1 := hb0.trans (hb.mono (by omega))
      go_wp2_with (go_at_call 61; ((with_reducible refine (HL.out _ hB1 n0 n1).mono ?_); rintro e w2 ⟨q, cap, rfl, hq, hD, hb2⟩))
      have hs1 := hB1.size
      have hs2 := hb2.size
      have hB2 := hB1.trans (hb2.mono hs1)
      have HB2 := Lib.hid hB2
      have HD := Lib.hid hD
      have hqs := hD.lt
      clear hD hB2 hb2 hB1 hN1 n0 n1 hN hb0
      generalize hPP : roP D most = P
      go_loopw [9, 24] (fun v k wr => ∃ i : Nat, i ≤ n ∧ k = .int .i64 i ∧ wr.ownsRow w2.heap.size 2 1 v (pkL P i).length (ivs (pkL P i)) ∧ Below w2.heap.size w2 wr) (fun _ k _ => n - (intOf k).toNat)
      case atStart => exact ⟨0, by omega, rfl, ⟨rfl, .inr ⟨w2.heap.size, 0, #[], rfl, Nat.le_refl _, heap_alloc_new _ _, Nat.le_refl _, by simp [maxLen], rfl, rfl⟩⟩, by (with_reducible repeat (first | exact Below.refl _ _ | apply below_alloc | apply below_dN | apply below_d | refine below_setCell ?_ (by dsimp only; omega) | refine below_call (by assumption) ?_))⟩
      case round =>
        obtain ⟨i, hin, rfl, hown, hB⟩ := hrel
        have hBs := hB.size
        have hln := pkL_len P i
        by_cases hlt : i < n
        · have d0 := (HD.out.below hB).cell hlt
          have dl := (HD.out.below hB).lt
          have HB := Lib.hid hB
          clear hB
          have hPi : P i = (decide (0 ≤ D i) && decide (D i ≤ most)) := by rw [← hPP]; rfl
          generalize D i = z at *
          by_cases e0 : 0 ≤ z
          · by_cases e1 : z ≤ most
            · have hl := pkL_t (P := P) (i := i) (by rw [hPi, decide_eq_true e0, decide_eq_true e1]; rfl)
              have hll : (pkL P (i + 1)).length = (pkL P i).length + 1 := by rw [hl]; simp
              clear hPi
              go_wp2_with (at_builtin; refine wpList_append_own _ rfl (.tmp 40) (.tmp 42) 47 rfl w2.heap.size 2 i0 (.int .i64 0) 1 8 Try.underlying47 hi hI0 hI1 hI2 rfl (by decide) _ _ _ rfl (hown.alloc _) ⟨wr.heap.size, 0, none⟩ 1 1 [.int .i64 i] rfl rfl (cell_one_new _ _ _) (by intro u hu; simp at hu; subst hu; rfl) (by unfold maxLen; omega) (by omega) (by simp; omega) ?_; intro v1 w5 hown5 hgrow5 hnil5)
              go_roundw
              case rel => exact ⟨i + 1, by omega, by go_num, by rw [hll, hl, ivs_snoc]; exact hown5, (HB.out.alloc hBs _).grown hgrow5 (by simp; omega) (fun j hj => (hown.lt j hj).1)⟩
              case measure => first | (simp [intOf]; done) | (simp [intOf]; omega)
            · have hl := pkL_f (P := P) (i := i) (by rw [hPi, decide_eq_false e1, Bool.and_false])
              clear hPi
              go_wp2
              go_roundw
              case rel => exact ⟨i + 1, by omega, by go_num, by rw [hl]; exact hown, HB.out⟩
              case measure => first | (simp [intOf]; done) | (simp [intOf]; omega)
          · have hl := pkL_f (P := P) (i := i) (by rw [hPi, decide_eq_false e0, Bool.false_and])
            clear hPi
            go_wp2
            go_roundw
            case rel => exact ⟨i + 1, by omega, by go_num, by rw [hl]; exact hown, HB.out⟩
            case measure => first | (simp [intOf]; done) | (simp [intOf]; omega)
        · obtain rfl : i = n := by omega
          have HB := Lib.hid hB
          have HI0 := Lib.hid (own_pk hown)
          clear hown hB
          go_wp2
          go_ret2
          exact ⟨_, rfl, IArr.lo HI0.out (by omega), HB2.out.trans (HB.out.mono (by have := HB2.out.size; omega))⟩
set_option maxRecDepth 100000 in
set_option maxHeartbeats 4000000 in
theorem iRO_c (g h n m cg ch : Nat) (X Y : Nat → Nat) (a b l : Nat → Int) (fr most : Int) (w : World) (hg : g < w.heap.size) (hn : n ≤ 1048576) (hm : m ≤ 1048576) (hP : PlCells w g n X Y) (hR : RdBlk w h m a b l) :
    Calls Try.prog 33 #[.agg #[.slice (some ⟨g, 0, none⟩) n cg, .slice (some ⟨h, 0, none⟩) m ch], .int .i64 fr, .int .i64 most] w (ROR n m X Y a b l fr most w) := by
  have HF := Lib.hid (fun (w' : World) (hB : Below w.heap.size w w') => isStop_c g h n m cg ch X Y a b l fr w' (Nat.lt_of_lt_of_le hg hB.size) hn hm (hP.dn hg hB) (hR.below hB hR.lt))
  have hIn := within_c most 0 1000000000
  unfold ROR roOk
  generalize hp : (decide (0 ≤ most) && decide (most ≤ 1000000000)) = p at hIn
  have HI := Lib.hid hIn
  clear hIn
  cases hq : rlOk n m X Y a b l fr
  · rw [hq] at HF
    clear hP hR hq HI hp
    go_enter Try.func33, Try.ntmps33
    go_wp2_with (first | (go_at_call 62; ((with_reducible refine (HF.out _ (by (with_reducible repeat (first | exact Below.refl _ _ | apply below_alloc | apply below_dN | apply below_d | refine below_setCell ?_ (by dsimp only; omega) | refine below_call (by assumption) ?_)))).mono ?_); rintro e w1 ⟨⟨v, rfl, rfl⟩, hb⟩); have hu2 : ∀ n : Nat, n < n + 1 + 1 := (fun n => by omega); have hu3 : ∀ n : Nat, n < n + 1 + 1 + 1 := (fun n => by omega); obtain ⟨hc, hfz⟩ := bcell hb; (try simp only [World.heap_drewN] at hc hfz); have hs_ := hb.size; (try simp at hs_); (try have hz0 : w.heap.size < w1.heap.size := (by omega)); (try have hz1 : w.heap.size + 1 < w1.heap.size := (by omega)); (try have hz2 : w.heap.size + 2 < w1.heap.size := (by omega)); (try have hz3 : w.heap.size + 3 < w1.heap.size := (by omega)); (try have hza : wa.heap.size < w1.heap.size := (by omega)); (try have hza1 : wa.heap.size + 1 < w1.heap.size := (by omega)); (try have hzb : wb.heap.size < w1.heap.size := (by omega)); (try have hzb1 : wb.heap.size + 1 < w1.heap.size := (by omega)); (try have hzc : wc.heap.size < w1.heap.size := (by omega)); (try have hzd : wd.heap.size < w1.heap.size := (by omega))))
    go_ret2
    exact ⟨_, rfl, .inl ⟨rfl, rfl⟩, by (with_reducible repeat (first | exact Below.refl _ _ | apply below_alloc | apply below_dN | apply below_d | refine below_setCell ?_ (by dsimp only; omega) | refine below_call (by assumption) ?_))⟩
  · cases p
    · rw [hq] at HF
      clear hP hR hq hp
      go_enter Try.func33, Try.ntmps33
      go_wp2_with (first | (go_at_call 62; ((with_reducible refine (HF.out _ (by (with_reducible repeat (first | exact Below.refl _ _ | apply below_alloc | apply below_dN | apply below_d | refine below_setCell ?_ (by dsimp only; omega) | refine below_call (by assumption) ?_)))).mono ?_); rintro e w1 ⟨⟨v, rfl, rfl⟩, hb⟩); have hu2 : ∀ n : Nat, n < n + 1 + 1 := (fun n => by omega); have hu3 : ∀ n : Nat, n < n + 1 + 1 + 1 := (fun n => by omega); obtain ⟨hc, hfz⟩ := bcell hb; (try simp only [World.heap_drewN] at hc hfz); have hs_ := hb.size; (try simp at hs_); (try have hz0 : w.heap.size < w1.heap.size := (by omega)); (try have hz1 : w.heap.size + 1 < w1.heap.size := (by omega)); (try have hz2 : w.heap.size + 2 < w1.heap.size := (by omega)); (try have hz3 : w.heap.size + 3 < w1.heap.size := (by omega)); (try have hza : wa.heap.size < w1.heap.size := (by omega)); (try have hza1 : wa.heap.size + 1 < w1.heap.size := (by omega)); (try have hzb : wb.heap.size < w1.heap.size := (by omega)); (try have hzb1 : wb.heap.size + 1 < w1.heap.size := (by omega)); (try have hzc : wc.heap.size < w1.heap.size := (by omega)); (try have hzd : wd.heap.size < w1.heap.size := (by omega))) | (go_at_call 51; ((with_reducible refine (HI.out _).mono ?_); rintro e w' ⟨rfl, rfl⟩)))
      go_ret2
      exact ⟨_, rfl, .inl ⟨rfl, rfl⟩, by (with_reducible repeat (first | exact Below.refl _ _ | apply below_alloc | apply below_dN | apply below_d | refine below_setCell ?_ (by dsimp only; omega) | refine below_call (by assumption) ?_))⟩
    · obtain ⟨hk, f, rfl, hf⟩ := rlOk_facts hq
      obtain ⟨⟨hn1, hn64⟩, -, -, -⟩ := netOk_facts hk
      rw [hq] at HF
      have HL := Lib.hid (fun (w' : World) (hB : Below w.heap.size w w') => routes_c g h n m cg ch X Y a b l f w' hf hk (hR.below hB hR.lt))
      unfold roL
      rw [Int.toNat_natCast]
      generalize rt n m (eN a) (eN b) l f = D at HL
      clear hP hR hq hk hp
      obtain ⟨i0, hi, hI0, hI1, hI2⟩ := info_parts info_i64
      have hb0 : Below w.heap.size w (w.alloc (.cells #[.slice (some ⟨g, 0, none⟩) n cg, .slice (some ⟨h, 0, none⟩) m ch] 31)) := by (with_reducible repeat (first | exact Below.refl _ _ | apply below_alloc | apply below_dN | apply below_d | refine below_setCell ?_ (by dsimp only; omega) | refine below_call (by assumption) ?_))
      have hs0 : (w.alloc (.cells #[.slice (some ⟨g, 0, none⟩) n cg, .slice (some ⟨h, 0, none⟩) m ch] 31)).heap.size = w.heap.size + 1 := by simp
      have hN := ntc.newAt (w := w) (p := w.heap.size) (u := .slice (some ⟨g, 0, none⟩) n cg) (v := .slice (some ⟨h, 0, none⟩) m ch) rfl
      go_enter Try.func33, Try.ntmps33
      go_upto_region 3 with (first | (go_at_call 62; ((with_reducible refine (HF.out _ hb0).mono ?_); rintro e w1 ⟨⟨v, rfl, rfl⟩, hb⟩)) | (go_at_call 51; ((with_reducible refine (HI.out _).mono ?_); rintro e w' ⟨rfl, rfl⟩)))
      have hN1 := hN.below hb
      have n0 := hN1.c0
      have n1 := hN1.c1
      have n2 := hN1.lt
      have hB1 := hb0.trans (hb.mono (by omega))
      go_wp2_with (go_at_call 63; ((with_reducible refine (HL.out _ hB1).mono ?_); rintro e w2 ⟨q, cap, rfl, hq, hD, hb2⟩))
      have hs1 := hB1.size
      have hs2 := hb2.size
      have hB2 := hB1.trans (hb2.mono hs1)
      have HB2 := Lib.hid hB2
      have HD := Lib.hid hD
      have hqs := hD.lt
      clear hD hB2 hb2 hB1 hN1 n0 n1 hN hb0 n2
      generalize hPP : roP D most = P
      go_loopw [8, 24] (fun v k wr => ∃ i : Nat, i ≤ n ∧ k = .int .i64 i ∧ wr.ownsRow w2.heap.size 2 1 v (pkL P i).length (ivs (pkL P i)) ∧ Below w2.heap.size w2 wr) (fun _ k _ => n - (intOf k).toNat)
      case atStart => exact ⟨0, by omega, rfl, ⟨rfl, .inl ⟨rfl, rfl⟩⟩, by (with_reducible repeat (first | exact Below.refl _ _ | apply below_alloc | apply below_dN | apply below_d | refine below_setCell ?_ (by dsimp only; omega) | refine below_call (by assumption) ?_))⟩
      case round =>
        obtain ⟨i, hin, rfl, hown, hB⟩ := hrel
        have hBs := hB.size
        have hln := pkL_len P i
        by_cases hlt : i < n
        · have d0 := (HD.out.below hB).cell hlt
          have dl := (HD.out.below hB).lt
          have HB := Lib.hid hB
          clear hB
          have hPi : P i = (decide (0 ≤ D i) && decide (D i ≤ most)) := by rw [← hPP]; rfl
          have hW := within_c (D i) 0 most
          rw [← hPi] at hW
          have HW := Lib.hid hW
          clear hPi hW
          generalize D i = z at *
          cases hPi : P i
          · rw [hPi] at HW
            have hl := pkL_f hPi
            clear hPi
            go_wp2_with (go_at_call 51; ((with_reducible refine (HW.out _).mono ?_); rintro e w' ⟨rfl, rfl⟩))
            go_roundw
            case rel => exact ⟨i + 1, by omega, by go_num, by rw [hl]; exact hown, HB.out⟩
            case measure => first | (simp [intOf]; done) | (simp [intOf]; omega)
          · rw [hPi] at HW
            have hl := pkL_t hPi
            have hll : (pkL P (i + 1)).length = (pkL P i).length + 1 := by rw [hl]; simp
            clear hPi
            go_wp2_with (first | (go_at_call 51; ((with_reducible refine (HW.out _).mono ?_); rintro e w' ⟨rfl, rfl⟩)) | (at_builtin; refine wpList_append_own _ rfl (.tmp 32) (.tmp 34) 47 rfl w2.heap.size 2 i0 (.int .i64 0) 1 8 Try.underlying47 hi hI0 hI1 hI2 rfl (by decide) _ _ _ rfl (hown.alloc _) ⟨wr.heap.size, 0, none⟩ 1 1 [.int .i64 i] rfl rfl (cell_one_new _ _ _) (by intro u hu; simp at hu; subst hu; rfl) (by unfold maxLen; omega) (by omega) (by simp; omega) ?_; intro v1 w5 hown5 hgrow5 hnil5))
            go_roundw
            case rel => exact ⟨i + 1, by omega, by go_num, by rw [hll, hl, ivs_snoc]; exact hown5, (HB.out.alloc hBs _).grown hgrow5 (by simp; omega) (fun j hj => (hown.lt j hj).1)⟩
            case measure => first | (simp [intOf]; done) | (simp [intOf]; omega)
        · obtain rfl : i = n := by omega
          have HB := Lib.hid hB
          have HI0 := Lib.hid (own_pk hown)
          clear hown hB
          go_wp2
          go_ret2
          exact ⟨_, rfl, IArr.lo HI0.out (by omega), HB2.out.trans (HB.out.mono (by have := HB2.out.size; omega))⟩
end Go.Proofs.Ytpmeccjfjjklkaa
