/- The legs of a walk. No condition. -/
import Derived.Test.YtnkfbinppikhkaaWkS
import Derived.Test.YtnkfbinppikhkaaWkD
import Derived.Test.YtnkfbinppikhkaaWkQ
namespace Go.Proofs.Ytnkfbinppikhkaa
open Go.RowKit Go.Deep
set_option linter.unusedSimpArgs false
theorem info_leg : (Try.prog.info? 39).map (fun i => (i.zero, i.size, i.bytes)) = some (some (.agg #[.float .f32 0, .float .f32 0]), 2, 8) := by kernel_rfl
def lgV (T L : Nat → Nat) (xs : List Value) (m : Nat) : Prop := ∀ j, j < m → ∃ r s, xs[j * 2]? = some (.float .f32 r) ∧ xs[j * 2 + 1]? = some (.float .f32 s) ∧ cn .f32 r = T j ∧ cn .f32 s = L j ∧ okf .f32 r ∧ okf .f32 s
theorem lgV.snoc {T L : Nat → Nat} {xs : List Value} {m r s : Nat} (h : lgV T L xs m) (hl : xs.length = m * 2) (h1 : cn .f32 r = T m) (h2 : cn .f32 s = L m) (h3 : okf .f32 r) (h4 : okf .f32 s) : lgV T L (xs ++ [.float .f32 r, .float .f32 s]) (m + 1) := fun j hj => by
  by_cases e : j = m
  · subst e
    exact ⟨r, s, by rw [List.getElem?_append_right (by omega), hl, Nat.sub_self]; rfl, by rw [List.getElem?_append_right (by omega), hl, show j * 2 + 1 - j * 2 = 1 by omega]; rfl, h1, h2, h3, h4⟩
  · obtain ⟨r', s', e1, e2, e3⟩ := h j (by omega)
    exact ⟨r', s', by rw [List.getElem?_append_left (by omega)]; exact e1, by rw [List.getElem?_append_left (by omega)]; exact e2, e3⟩
theorem lgV.arg {w : World} {lo n : Nat} {v : Value} {xs : List Value} {T L : Nat → Nat} (h : w.ownsRow lo 39 2 v n xs) (hx : lgV T L xs n) : ∃ A c, v = .slice A n c ∧ LgArg w A n T L := by
  rcases h.2 with ⟨rfl, rfl⟩ | ⟨g, cap, cur, rfl, h1, h2, h3, h4, h5, h6⟩
  · exact ⟨none, 0, rfl, fun j hj => absurd hj (by omega)⟩
  · have hc := h.cells (g := g) rfl
    refine ⟨_, _, rfl, fun j hj => ?_⟩
    obtain ⟨r, s, e1, e2, e3⟩ := hx j hj
    have q1 := hc _ _ e1
    have q2 := hc _ _ e2
    have ha : ∀ i, (⟨g, 0, none⟩ : Addr).add i = ⟨g, i, none⟩ := fun i => by unfold Addr.add; split <;> simp_all
    rw [ha] at q1 q2
    exact ⟨g, rfl, (Array.getElem?_eq_some_iff.1 h2).1, r, s, q1, q2, e3⟩
/-- What the legs of a walk are returned as. -/
def LgRes (n : Nat) (T L : Nat → Nat) (w : World) (e : Ending) (w' : World) : Prop := ∃ A c, e = .returned (.tuple #[.slice A n c, .bool true]) ∧ LgArg w' A n T L ∧ Below w.heap.size w w'
theorem mk_all {n : Nat} {a b : Nat → Int} (h : Mk n a b) : allC (fun j => qz (a j)) (fun j => qz (b j)) n = true := allB_true fun j hj => by
  have h1 := h.a0 j hj
  have h2 := h.a1 j hj
  have h3 := h.b0 j hj
  have h4 := h.b1 j hj
  have h9 := h.n9
  unfold finC
  rw [(fin_num _).2 (qz_val (z := a j) (by omega) (by omega)).1, (fin_num _).2 (qz_val (z := b j) (by omega) (by omega)).1]
  rfl
/-- What is known of a leg's number in the walk. -/
theorem leg_facts {n : Nat} {a b : Nat → Int} (h : Mk n a b) {j : Nat} (hj : j + 1 < n) :
    fop .sub .f32 (qz (a (j + 1))) (qz (a j)) = qz (Mk.dx a j) ∧ fop .sub .f32 (qz (b (j + 1))) (qz (b j)) = qz (Mk.dx b j) ∧ fits .f64 .f32 (fsq (pww (qz (Mk.dx a j)) (qz (Mk.dx b j)))) ∧ LgOk (Mk.dx a j) (Mk.dx b j) (lT a b j) (lL a b j) (stX (lT a b j) (lL a b j)) (stY (lT a b j) (lL a b j)) := by
  have h1 := h.a0 j (by omega)
  have h2 := h.a1 j (by omega)
  have h3 := h.b0 j (by omega)
  have h4 := h.b1 j (by omega)
  have g1 := h.a0 (j + 1) hj
  have g2 := h.a1 (j + 1) hj
  have g3 := h.b0 (j + 1) hj
  have g4 := h.b1 (j + 1) hj
  have h9 := h.n9
  obtain ⟨s1, s2, s3, s4⟩ := h.step hj
  exact ⟨qz_sub (by omega) (by omega) (by omega) (by omega), qz_sub (by omega) (by omega) (by omega) (by omega), (lg_ok s1 s2 s3 s4).1, (lg_ok s1 s2 s3 s4).2⟩
theorem leg_lgF {n : Nat} {a b : Nat → Int} (h : Mk n a b) {j : Nat} (hj : j + 1 < n) : lgF (lT a b j) (lL a b j) = true := by
  obtain ⟨-, -, -, k⟩ := leg_facts h hj
  have l0 := k.l0
  unfold lgF
  rw [(fin_num _).2 k.ft, (fin_num _).2 k.fl, fgt_val k.fl v0.1, v0.2]
  simp
  grind
set_option maxRecDepth 100000 in
set_option maxHeartbeats 8000000 in
theorem legsOf_c (A : Option Addr) (n c : Nat) (a b : Nat → Int) (w : World) (hM : Mk n a b) (hA : CxArg w A n (fun j => qz (a j)) (fun j => qz (b j))) :
    Calls Try.prog 7 #[.slice A n c] w (LgRes (n - 1) (lT a b) (lL a b) w) := by
  have h2 := hM.n2
  have h9 := hM.n9
  obtain ⟨i0, hi0, hI0, hI1, hI2⟩ := info_parts info_leg
  have HMk := Lib.hid (areMarks_c A n c _ _ w (by omega) (by omega) hA (mk_all hM))
  have HPc := Lib.hid (fun w' (hb : Below w.heap.size w w') => piecesOf_c A n c _ _ w' (by omega) (by omega) (hA.below hb))
  have hn2 : ¬ ((n : Int) < 2) := by omega
  have HM := Lib.hid hM
  clear hA hM
  go_enter Try.func7, Try.ntmps7
  go_wp2_with (first | (go_at_call 9; ((with_reducible refine (HMk.out).mono ?_); rintro e w1 ⟨⟨v, rfl, rfl⟩, hb1⟩)) | (go_at_call 15; ((with_reducible refine (HPc.out _ hb1).mono ?_); rintro e w2 ⟨A', c', rfl, hP, hb2⟩; have hB2 := hb1.trans (hb2.mono hb1.size); have HP := Lib.hid hP; have HB2 := Lib.hid hB2; clear hP hb2 hB2)))
  have hs2 := HB2.out.size
  go_loopw [4, 20] (fun v k wr => ∃ (m : Nat) (xs : List Value), m ≤ n - 1 ∧ k = .int .i64 (m : Int) ∧ wr.ownsRow w2.heap.size 39 2 v m xs ∧ lgV (lT a b) (lL a b) xs m ∧ Below w2.heap.size w2 wr) (fun _ k _ => n - (intOf k).toNat)
  case atStart => exact ⟨0, [], by omega, rfl, World.ownsRow_nil _ _ _ _, fun j hj => absurd hj (by omega), Below.refl _ _⟩
  case round =>
    rename World => wO
    obtain ⟨m, xs, hm, rfl, hown, hxs, hB⟩ := hrel
    have hsO := hB.size
    have HXS := Lib.hid hxs
    have HB := Lib.hid hB
    have HOWN := Lib.hid hown
    have hl := hown.1
    by_cases hlt : m < n - 1
    · have hlt' : (m : Int) < ((n - 1 : Nat) : Int) := by omega
      obtain ⟨g, rfl, hg, p, q, p', q', c0, c1, hp, hq, hp', hq'⟩ := HP.out.below hB m hlt
      obtain ⟨e1, e2, e3, k⟩ := leg_facts HM.out (show m + 1 < n by omega)
      have HLs := Lib.hid (fun w => show Calls Try.prog 16 #[.complex .f32 p' q', .complex .f32 p q] w (Ret (RC (qz (Mk.dx a m)) (qz (Mk.dx b m))) w) by rw [← e1, ← e2]; exact less_c p' q' p q _ _ _ _ hp' hq' hp hq w)
      have HE3 := Lib.hid e3
      have HK := Lib.hid k
      clear hown hxs hB hp hq hp' hq' e1 e2 e3 k
      go_upto_region 8 with (go_at_call 16; ((with_reducible refine (HLs.out _).mono ?_); rintro e w3 ⟨⟨v, rfl, dx', dy', rfl, hdx, hdy, o1, o2⟩, hb3⟩))
      have HAn := Lib.hid (fun w => angleOf_c dx' dy' _ _ hdx hdy w)
      have HLo := Lib.hid (fun w => longOf_c dx' dy' _ _ hdx hdy HE3.out w)
      have hb3' := hb3
      have HB3 := Lib.hid hb3
      clear hdx hdy hb3 hb3'
      go_upto_region 9 with (first | (go_at_call 18; ((with_reducible refine (HAn.out _).mono ?_); rintro e w4 ⟨⟨v, rfl, an, rfl, han, oan⟩, hb4⟩)) | (refine wpL_farith rfl _ _ _ _ _ rfl rfl _ _ _ rfl rfl ?_; intro an2 nn han2 han3) | (go_at_call 17; ((with_reducible refine (iPos_c _ _ rfl (okf_of (by assumption)) _).mono ?_); rintro e w5 ⟨⟨v, rfl, tu, rfl, htu, otu⟩, hb5⟩)) | (go_at_call 19; ((with_reducible refine (HLo.out _).mono ?_); rintro e w6 ⟨⟨v, rfl, lo, rfl, hlo, olo⟩, hb6⟩)))
      have hT : cn .f32 tu = lT a b m := by rw [htu, han2, cnc_f32_1048576000, han]; rfl
      have hL : cn .f32 lo = lL a b m := hlo
      have hfT : fin .f32 (lT a b m) = true := (fin_num _).2 HK.out.ft
      have hfL : fin .f32 (lL a b m) = true := (fin_num _).2 HK.out.fl
      refine absw (fun V hV => ?_)
      have z0 : V.cell? ⟨w6.heap.size, 0, none⟩ = some (.float .f32 tu) := by rw [hV]; simp
      have z1 : V.cell? ⟨w6.heap.size, 1, none⟩ = some (.float .f32 lo) := by rw [hV]; simp
      have hsV : V.heap.size = w6.heap.size + 1 := by rw [hV]; simp
      have B3 : Below wO.heap.size wO w3 := ((Below.refl _ _).alloc (Nat.le_refl _) _).trans (HB3.out.mono (by simp))
      have B4 := B3.trans (hb4.mono B3.size)
      have B5 : Below wO.heap.size wO w5 := B4.trans ((show Below w4.heap.size w4 w5 from ⟨hb5.os, hb5.tape, hb5.output, hb5.size, hb5.block⟩).mono B4.size)
      have B6 := B5.trans (hb6.mono B5.size)
      have BV : Below wO.heap.size wO V := by rw [hV]; exact B6.alloc B6.size _
      have hB2V := Lib.hid (HB.out.trans (BV.mono hsO))
      have hsV2 := BV.size
      have HOV := Lib.hid (own_below HOWN.out BV)
      have zl : w6.heap.size < V.heap.size := by omega
      clear hsV hV han han2 han3 htu hlo hb4 hb5 hb6 B3 B4 B5 B6 BV c0 c1
      go_wp2_with (first | (go_at_call 20; ((with_reducible refine (areFinite2_c _ _ _ _ _ _ _ (by simp) (by simp) (by simp) hT hL).mono ?_); rintro e w7 ⟨⟨v, rfl, rfl⟩, hb7⟩); have B7 : Below V.heap.size V w7 := ((Below.refl _ _).alloc (Nat.le_refl _) _).trans (hb7.mono (by simp)); have f0 := (B7.cell (p := ⟨w6.heap.size, 0, none⟩) zl).trans z0; have f1 := (B7.cell (p := ⟨w6.heap.size, 1, none⟩) zl).trans z1; have own7 := own_below HOV.out B7; have fl : w6.heap.size < w7.heap.size := Nat.lt_of_lt_of_le zl B7.size; have hs7 := B7.size) | (at_builtin; refine wpList_append_lies _ rfl (.tmp 43) (.tmp 45) 27 rfl w2.heap.size 39 i0 (.agg #[.float .f32 0, .float .f32 0]) 2 8 Try.underlying27 hi0 hI0 hI1 hI2 rfl (by decide) _ _ _ rfl (own7.alloc _) _ 1 1 [.float .f32 tu, .float .f32 lo] rfl rfl (two_newD _ _ rfl _ _ _) (by intro u hu; simp at hu; rcases hu with rfl | rfl <;> rfl) (by omega) (by unfold maxLen; omega) (by omega) (by simp; omega) _ rfl ?_; intro gN cap w8 hown8 hgrow8 hlies8 hlt8))
      go_roundw
      case rel => exact ⟨m + 1, _, by omega, by go_num, hown8, HXS.out.snoc hl hT hL otu olo, hB2V.out.trans (((B7.mono (by omega)).alloc (by omega) _).grown hgrow8 (by simp; omega) (fun j hj => (own7.lt j hj).1))⟩
      case measure => first | (simp [intOf]; done) | (simp [intOf]; omega)
    · obtain rfl : m = n - 1 := by omega
      have hlt' : ¬ (((n - 1 : Nat) : Int) < ((n - 1 : Nat) : Int)) := by omega
      obtain ⟨A2, c2, rfl, hL⟩ := lgV.arg hown hxs
      have HL := Lib.hid hL
      clear hL hown hxs hB
      go_wp2
      go_ret2
      exact ⟨A2, c2, rfl, HL.out, HB2.out.trans (HB.out.mono hs2)⟩
end Go.Proofs.Ytnkfbinppikhkaa
