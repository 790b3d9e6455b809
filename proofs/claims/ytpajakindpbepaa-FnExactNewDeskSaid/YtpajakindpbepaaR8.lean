/- A drawn grid; numbers out of bytes. No condition. -/
import Derived.Test.YtpajakindpbepaaSrc
import Derived.Test.YtpajakindpbepaaSiP
import Derived.Deep.AppendLies
import Derived.Deep.RegionLaw
namespace Go.Proofs.Ytpajakindpbepaa
open Go.RowKit Go.IntWalk
set_option linter.unusedSimpArgs false
theorem info_f32 : (Try.prog.info? 25).map (fun i => (i.zero, i.size, i.bytes)) = some (some (.float .f32 0), 1, 4) := by kernel_rfl
theorem q4_ok : ∀ u : Fin 33, fopO .quo .f32 (fofI .f32 (u.val : Int)) 1082130432 = some (q4 u.val) := by decide +kernel
theorem q4_cn_all : ∀ u : Fin 33, cn .f32 (q4 u.val) = q4 u.val := by decide +kernel
theorem q4_cn {h : Nat} (hh : h ≤ 32) : cn .f32 (q4 h) = q4 h := q4_cn_all ⟨h, by omega⟩
/-- A quarter is reckoned with no draw. -/
theorem q4_run {P : Program} {h : Nat} (hh : h < 33) (t : TypeId) (w : World) : (binOp .quo t (.float .f32 (fofI .f32 (h : Int))) (.float .f32 1082130432)).run P w = .ok (.float .f32 (q4 h)) w := by
  have e := q4_ok ⟨h, hh⟩
  simp only [fopO] at e
  simp [binOp, Op.floatArith, e]
theorem World.ownsRow.keep1 {w w' : World} {lo g : Nat} {e : TypeId} {size : Nat} {v : Value} {n : Nat} {xs : List Value} (h : w.ownsRow lo e size v n xs) (hk : Keep1 g w w') (hg : g < lo) (_hs : w.heap.size ≤ w'.heap.size) : w'.ownsRow lo e size v n xs := by
  refine ⟨h.1, h.2.imp id ?_⟩
  rintro ⟨q, cap, cur, rfl, h1, h2, h3⟩
  exact ⟨q, cap, cur, rfl, h1, (hk q (Array.getElem?_eq_some_iff.1 h2).1 (by omega)).trans h2, h3⟩
theorem FlCells.keep1 {w w' : World} {g b n : Nat} {X : Nat → Nat} (h : FlCells w b n X) (hb : b < w.heap.size) (hk : Keep1 g w w') (hne : b ≠ g) : FlCells w' b n X := fun j hj => by
  obtain ⟨r, h1, h2⟩ := h j hj
  exact ⟨r, (World.cell?_of_block (a := ⟨b, j, none⟩) (hk b hb hne)).trans h1, h2⟩
theorem own_fl {w : World} {B n : Nat} {v : Value} {xs : List Value} {X : Nat → Nat} (h : w.ownsRow B 25 1 v n xs) (hn : 0 < n) (hx : ∀ j, j < n → ∃ r, xs[j]? = some (.float .f32 r) ∧ cn .f32 r = X j) : ∃ g cap, v = .slice (some ⟨g, 0, none⟩) n cap ∧ B ≤ g ∧ g < w.heap.size ∧ FlCells w g n X := by
  rcases h.2 with ⟨rfl, e⟩ | ⟨g, cap, cur, rfl, h1, h2, h3, h4, h5, h6⟩
  · omega
  · have hrow : w.rowIs g 25 cap (fun i => (cur[i]?).getD undef) := ⟨cur, h2, by omega, fun i hi => by
      show cur[i]? = some ((cur[i]?).getD undef)
      rw [Array.getElem?_eq_getElem (by omega)]; rfl⟩
    refine ⟨g, cap, rfl, h1, hrow.lt, fun i hi => ?_⟩
    obtain ⟨r, e, hr⟩ := hx i hi
    rw [← h6, List.getElem?_take, if_pos (by omega), Array.getElem?_toList] at e
    exact ⟨r, by rw [hrow.cell (i := i) (by omega), e]; rfl, hr⟩
theorem ByArg.mono' {w w' : World} {A : Option Addr} {n g : Nat} (h : ByArg w A n) (hg : ∀ a, A = some a → 0 < n → a.block < g) (hk : Keep1 g w w') (hs : w.heap.size ≤ w'.heap.size) : ByArg w' A n := fun j hj => by
  obtain ⟨a, k, e, h0, h1, h2⟩ := h j hj
  have hb := hk a.block h0 (by have := hg a e (by omega); omega)
  refine ⟨a, k, e, Nat.lt_of_lt_of_le h0 hs, ?_, h2⟩
  rw [← h1]
  exact World.cell?_of_block (by rw [block_add]; exact hb)
/-- What is drawn: a small grid of quarters. -/
def DG (g : Nat) (w : World) (e : Ending) (w' : World) : Prop := ∃ (W D b cap : Nat) (hs : Nat → Nat), 2 ≤ W ∧ W ≤ 5 ∧ 2 ≤ D ∧ D ≤ 5 ∧ e = .returned (.agg #[.int .i64 (W : Int), .int .i64 (D : Int), .slice (some ⟨b, 0, none⟩) (W * D) cap]) ∧ (g < b ∧ b < w'.heap.size) ∧ (∀ j, hs j ≤ 32) ∧ FlCells w' b (W * D) (fun j => q4 (hs j)) ∧ Below g w w'
/-- What the drawing of heights keeps. -/
def DR (g n c : Nat) (A : Option Addr) (w : World) (p q lo W D i : Nat) (wr : World) : Prop := ∃ (V' : Value) (sd' : Int) (xs : List Value) (hs : Nat → Nat), gtc wr p (.int .i64 W) (.int .i64 D) V' ∧ gtc wr q (.int .i64 0) (.int .i64 0) (.slice none 0 0) ∧ wr.ownsRow lo 25 1 V' i xs ∧ (∀ j, j < i → ∃ r, xs[j]? = some (.float .f32 r) ∧ cn .f32 r = q4 (hs j)) ∧ (∀ j, hs j ≤ 32) ∧ tri 131 wr g (.slice A n c) (.int .i64 ((2 + i : Nat) : Int)) (.int .u64 sd') ∧ ByArg wr A n ∧ Below g w wr ∧ lo ≤ wr.heap.size
set_option maxRecDepth 100000 in
set_option maxHeartbeats 8000000 in
theorem l06DrawOk_c (g n c : Nat) (A : Option Addr) (sd : Int) (w : World) (hn : n ≤ 1000000) (hA : ByArg w A n) (hg : ∀ a, A = some a → 0 < n → a.block < g) (h : tri 131 w g (.slice A n c) (.int .i64 0) (.int .u64 sd)) :
    Calls Try.prog 74 #[.pointer (some ⟨g, 0, none⟩)] w (DG g w) := by
  have hgl := h.lt
  have hb0 : Below g w (w.alloc (.cells #[.int .i64 0, .int .i64 0, .slice none 0 0] 30)) := (Below.refl _ _).alloc (Nat.le_of_lt hgl) _
  have HP0 := Lib.hid (show Calls Try.prog 111 #[.pointer (some ⟨g, 0, none⟩), .int .i64 4] (w.alloc (.cells #[.int .i64 0, .int .i64 0, .slice none 0 0] 30)) _ from pick_c g n c 0 4 A sd (w.alloc (.cells #[.int .i64 0, .int .i64 0, .slice none 0 0] 30)) (by omega) (by omega) (by omega) hn (hA.below hg hb0) hg (h.alloc _))
  have HPK := Lib.hid (fun (at' m : Nat) (sd : Int) (w' : World) hm hm2 hat hA h => pick_c g n c at' m A sd w' hm hm2 hat hn hA hg h)
  obtain ⟨i0, hi0, hI0, hI1, hI2⟩ := info_parts info_f32
  clear h
  go_enter Try.func74, Try.ntmps74
  go_upto_region 2 with (go_at_call 111; ((with_reducible refine (HP0.out).mono ?_); rintro e w1 ⟨k, hk, rfl, ⟨sd1, hT⟩, hK, hB⟩))
  have KQ : ∀ {v v' : World} {x : Nat} {a b z : Value}, gtc v x a b z → x ≠ g → Keep1 g v v' → gtc v' x a b z := fun h hne hk => World.rowIs.of_block h (hk _ h.lt hne)
  have tQ0 : gtc (w.alloc (.cells #[.int .i64 0, .int .i64 0, .slice none 0 0] 30)) w.heap.size (.int .i64 0) (.int .i64 0) (.slice none 0 0) := gtc.newAt rfl
  have hs0 : (w.alloc (.cells #[.int .i64 0, .int .i64 0, .slice none 0 0] 30)).heap.size = w.heap.size + 1 := by simp
  have tQ1 := KQ tQ0 (by omega) hK
  have hA1 := (hA.below hg hb0).mono' hg hK hB.size
  have hB1 : Below g w w1 := hb0.trans hB
  have hqp : w.heap.size < w1.heap.size := by have := hB.size; omega
  have hgp : g < w1.heap.size := by omega
  have eW : ((2 : Int) + (k : Int)) = ((2 + k : Nat) : Int) := by omega
  obtain ⟨wB, hwB⟩ : ∃ wB, w1.alloc (.cells #[.int .i64 ((2 : Int) + (k : Int)), .int .i64 0, .slice none 0 0] 30) = wB := ⟨_, rfl⟩
  have hsB : wB.heap.size = w1.heap.size + 1 := by rw [← hwB]; simp
  have tPB : gtc wB w1.heap.size (.int .i64 ((2 : Int) + (k : Int))) (.int .i64 0) (.slice none 0 0) := by rw [← hwB]; exact gtc.newAt rfl
  have tQB : gtc wB w.heap.size (.int .i64 0) (.int .i64 0) (.slice none 0 0) := by rw [← hwB]; exact tQ1.alloc _
  have tSB : tri 131 wB g (.slice A n c) (.int .i64 ((0 + 1 : Nat) : Int)) (.int .u64 sd1) := by rw [← hwB]; exact hT.alloc _
  have hBB : Below g w1 wB := by rw [← hwB]; exact (Below.refl _ _).alloc (by omega) _
  have hAB := hA1.below hg hBB
  have hBw := hB1.trans hBB
  rw [hwB]
  have HP1 := Lib.hid (show Calls Try.prog 111 #[.pointer (some ⟨g, 0, none⟩), .int .i64 4] wB _ from HPK.out (0 + 1) 4 sd1 wB (by omega) (by omega) (by omega) hAB tSB)
  clear hwB hK hT hB tQ1 hA1 hb0 tQ0 hs0 hA tSB HP0
  go_upto_region 3 with (go_at_call 111; ((with_reducible refine (HP1.out).mono ?_); rintro e w2 ⟨k2, hk2, rfl, ⟨sd2, hT2⟩, hK2, hB2⟩); have tP2 := KQ tPB (by omega) hK2; have o1 := tP2.c1; have of1 := tP2.fr 1; have ol := tP2.lt; dsimp only)
  refine absw (fun V hV => ?_)
  have tP3 : gtc V w1.heap.size (.int .i64 ((2 : Int) + (k : Int))) (.int .i64 ((2 : Int) + (k2 : Int))) (.slice none 0 0) := by rw [hV]; exact tP2.setB _
  have tQ3 : gtc V w.heap.size (.int .i64 0) (.int .i64 0) (.slice none 0 0) := by rw [hV]; exact (KQ tQB (by omega) hK2).other (by omega) _
  have tS3 : tri 131 V g (.slice A n c) (.int .i64 ((0 + 1 + 1 : Nat) : Int)) (.int .u64 sd2) := by rw [hV]; exact hT2.other (by omega) _
  have hB3 : Below g w V := by rw [hV]; exact (hBw.trans hB2).setCell (p := ⟨w1.heap.size, 1, none⟩) (by simp only; omega) _
  have hA3 : ByArg V A n := by rw [hV]; exact (hAB.mono' hg hK2 hB2.size).below hg ((Below.refl _ _).setCell (p := ⟨w1.heap.size, 1, none⟩) (by simp only; omega) _)
  have eD : ((2 : Int) + (k2 : Int)) = ((2 + k2 : Nat) : Int) := by omega
  rw [eW, eD] at tP3
  obtain ⟨W, hW⟩ : ∃ W, 2 + k = W := ⟨_, rfl⟩
  obtain ⟨D, hD⟩ : ∃ D, 2 + k2 = D := ⟨_, rfl⟩
  rw [hW, hD] at tP3
  have hwm : IntKind.i64.wrap ((W : Int) * (D : Int)) = ((W * D : Nat) : Int) := by
    have e : (W : Int) * (D : Int) = ((W * D : Nat) : Int) := by rw [Int.natCast_mul]
    have : W * D ≤ 5 * 5 := Nat.mul_le_mul (by omega) (by omega)
    rw [e, IntKind.wrap_i64]
    omega
  have hN25 : W * D ≤ 5 * 5 := Nat.mul_le_mul (by omega) (by omega)
  have hN4 : 2 * 2 ≤ W * D := Nat.mul_le_mul (by omega) (by omega)
  have hWD : (2 ≤ W ∧ W ≤ 5) ∧ (2 ≤ D ∧ D ≤ 5) := by omega
  have HWD := Lib.hid hWD
  clear eW eD hW hD hWD hk hk2
  have hVp := tP3.lt
  have hVq := tQ3.lt
  have hVg : g < V.heap.size := by omega
  clear hV tP2 o1 of1 ol tPB tQB hT2 hK2 hB2 hAB hBw HP1 hBB
  have c0 := tP3.c0
  have c1 := tP3.c1
  obtain ⟨N, hN⟩ : ∃ N, W * D = N := ⟨_, rfl⟩
  rw [hN] at hwm hN25 hN4
  have HTP := Lib.hid tP3
  have HTQ := Lib.hid tQ3
  have HTS := Lib.hid tS3
  have HA3 := Lib.hid hA3
  have HB3 := Lib.hid hB3
  clear tP3 tQ3 tS3 hA3 hB3
  go_wp2
  clear c0 c1
  go_loopw [4] (fun iv wr => ∃ (i : Nat), i ≤ N ∧ iv = .int .i64 ((N : Int) - (i : Int)) ∧ DR g n c A w w1.heap.size w.heap.size V.heap.size W D i wr) (fun iv _ => (intOf iv).toNat)
  case atStart => exact ⟨0, by omega, by simp, _, sd2, [], fun _ => 0, HTP.out, HTQ.out, ⟨rfl, .inl ⟨rfl, rfl⟩⟩, by omega, fun _ => Nat.zero_le _, HTS.out, HA3.out, HB3.out, Nat.le_refl _⟩
  case round =>
    rename World => wO
    obtain ⟨i, hi, rfl, V', sd', xs, hs, tP, tQ, hown, hxs, hhs, tS, hAO, hBO, hsO⟩ := hrel
    have HXS := Lib.hid hxs
    have HHS := Lib.hid hhs
    have HTQ' := Lib.hid tQ
    have HTP' := Lib.hid tP
    have HOWN := Lib.hid hown
    have HBO := Lib.hid hBO
    have HAO := Lib.hid hAO
    have HTS' := Lib.hid tS
    have c0 := tP.c0
    have c1 := tP.c1
    have c2 := tP.c2
    have pl := tP.lt
    have pf := tP.fr
    clear hxs hhs tQ tP hown hBO hAO tS
    by_cases hlt : i < N
    · have hlt' : (0 : Int) < (N : Int) - (i : Int) := by omega
      go_upto_region 6 with fail
      have HPO := Lib.hid (fun w' hA h => (show Calls Try.prog 111 #[.pointer (some ⟨g, 0, none⟩), .int .i64 33] w' _ from HPK.out (2 + i) 33 sd' w' (by omega) (by omega) (by omega) hA h))
      go_region_law (first
        | (go_simp; go_at_call 111; refine (HPO.out wO.drew HAO.out HTS'.out).mono ?_; rintro e w5 ⟨hh, hhl, rfl, ⟨sd5, hT5⟩, hK5, hB5⟩; have tP5 := KQ HTP'.out (by omega) hK5; have c2' := tP5.c2; have pl' := tP5.lt; have pf' := tP5.fr 2; have hq5 := fun t w' => q4_run (P := Try.prog) hhl t w'; have hown5 := World.ownsRow.keep1 HOWN.out hK5 hVg hB5.size; have hs5 : wO.heap.size ≤ w5.heap.size := hB5.size; dsimp only)
        | (refine step_append_lies _ rfl (.tmp 23) (.tmp 28) 22 rfl V.heap.size 25 i0 (.float .f32 0) 1 4 Try.underlying22 hi0 hI0 hI1 hI2 rfl (by decide) _ _ _ rfl (hown5.alloc _) _ _ _ [.float .f32 (q4 hh)] rfl rfl (cell_one_new _ _ _) (by intro u hu; simp at hu; subst hu; rfl) (by omega) (by unfold maxLen; omega) (by omega) (by simp; omega) _ rfl ?_; intro gN cap w6 hown6 hgrow6 hlies6 hlt6; have hneq : ∀ q, q < V.heap.size → some q ≠ V'.ownBlock := (fun q hq e => by have := (hown5.lt _ e.symm).1; omega); have hb6 : ∀ q, q < V.heap.size → w6.heap[q]? = w5.heap[q]? := (fun q hq => (hgrow6.block q (by simp; omega) (hneq q hq)).trans (((Below.refl w5.heap.size w5).alloc (Nat.le_refl _) _).block q (by omega))); have tP6 : gtc w6 w1.heap.size (.int .i64 W) (.int .i64 D) V' := World.rowIs.of_block tP5 (hb6 _ hVp); have c2'' := gtc.c2 tP6; have pl'' := gtc.lt tP6; have pf'' := gtc.fr tP6 2))
      all_goals
        go_wp2
        go_roundw
        case rel =>
          have hgr := ((Below.refl g w5).alloc (by omega) _).grown hgrow6 (by simp; omega) (fun j hj => by have := (hown5.lt j hj).1; omega)
          refine ⟨i + 1, by omega, by go_num, _, sd5, xs ++ [.float .f32 (q4 hh)], fun j => if j = i then hh else hs j, gtc.setC tP6 _, ?_, ?_, fun j hj => ?_, fun j => ?_, ?_, ?_, ?_, ?_⟩
          · exact gtc.other (World.rowIs.of_block (KQ HTQ'.out (by omega) hK5) (hb6 _ hVq)) (by omega) _
          · exact World.ownsRow.keep1 hown6 (Keep1.set (Keep1.refl w1.heap.size _) _) hVp (by simp [World.setCell])
          · have hl : xs.length = i := by have := HOWN.out.1; omega
            by_cases e : j = i
            · subst e
              exact ⟨q4 hh, by rw [List.getElem?_append_right (by omega), hl]; simp, by (show cn .f32 (q4 hh) = q4 (if j = j then hh else hs j)); rw [if_pos rfl]; exact q4_cn (by omega)⟩
            · obtain ⟨r, e1, e2⟩ := HXS.out j (by omega)
              exact ⟨r, by rw [List.getElem?_append_left (by omega)]; exact e1, by (show cn .f32 r = q4 (if j = i then hh else hs j)); rw [if_neg e]; exact e2⟩
          · show (if j = i then hh else hs j) ≤ 32
            split
            · omega
            · exact HHS.out j
          · exact (hT5.blk (hb6 _ hVg)).other (by omega) _
          · exact ((HAO.out.mono' (w := wO) hg hK5 hs5).below hg hgr).below hg ((Below.refl _ _).setCell (p := ⟨w1.heap.size, 2, none⟩) (by simp only; omega) _)
          · exact ((HBO.out.drew.trans hB5).trans hgr).setCell (p := ⟨w1.heap.size, 2, none⟩) (by simp only; omega) _
          · have := hgr.size
            have e : (w6.setCell ⟨w1.heap.size, 2, none⟩ (.slice (some ⟨gN, 0, none⟩) (i + 1) cap)).heap.size = w6.heap.size := by simp [World.setCell]
            omega
        case measure => first | (simp [intOf]; done) | (simp [intOf]; omega)
    · obtain rfl : i = N := by omega
      have hlt' : ¬ ((0 : Int) < (i : Int) - (i : Int)) := by omega
      obtain ⟨gN, cap, rfl, hg1, hg2, hF⟩ := own_fl HOWN.out (by omega) HXS.out
      have q0 := HTQ'.out.c0
      have q1 := HTQ'.out.c1
      have q2 := HTQ'.out.c2
      have ql := HTQ'.out.lt
      have qf0 := HTQ'.out.fr 0
      have qf1 := HTQ'.out.fr 1
      have qf2 := HTQ'.out.fr 2
      go_wp2
      refine bodyPost_ret (v := .agg #[.int .i64 W, .int .i64 D, .slice (some ⟨gN, 0, none⟩) i cap]) (by simp [results, Try.results74, go_sem, *] <;> (first | rfl | exact ⟨rfl, rfl⟩ | exact ⟨rfl, rfl, rfl⟩ | exact ⟨rfl, rfl, rfl, rfl⟩)) rfl ?_
      obtain ⟨⟨w1, w2⟩, d1, d2⟩ := HWD.out
      have kq : Keep1 w.heap.size wO (((wO.setCell ⟨w.heap.size, 0, none⟩ (.int .i64 W)).setCell ⟨w.heap.size, 1, none⟩ (.int .i64 D)).setCell ⟨w.heap.size, 2, none⟩ (.slice (some ⟨gN, 0, none⟩) i cap)) := Keep1.set (Keep1.set (Keep1.set (Keep1.refl _ _) _) _) _
      exact ⟨W, D, gN, cap, hs, w1, w2, d1, d2, by rw [hN], ⟨by omega, by simpa [World.setCell] using hg2⟩, HHS.out, by rw [hN]; exact hF.keep1 hg2 kq (by omega), ((HBO.out.setCell (p := ⟨w.heap.size, 0, none⟩) (by simp only; omega) _).setCell (p := ⟨w.heap.size, 1, none⟩) (by simp only; omega) _).setCell (p := ⟨w.heap.size, 2, none⟩) (by simp only; omega) _⟩
end Go.Proofs.Ytpajakindpbepaa
