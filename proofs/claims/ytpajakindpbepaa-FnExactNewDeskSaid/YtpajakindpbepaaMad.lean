/- Grids made of a function: flat ones, cones. No condition. -/
import Derived.Test.YtpajakindpbepaaR8
namespace Go.Proofs.Ytpajakindpbepaa
open Go.RowKit Go.IntWalk
set_option linter.unusedSimpArgs false
/-- What a new grid is returned as. -/
def MG (W D n : Nat) (X : Nat → Nat) (w : World) (e : Ending) (w' : World) : Prop := ∃ b cap, e = .returned (.tuple #[.agg #[.int .i64 (W : Int), .int .i64 (D : Int), .slice (some ⟨b, 0, none⟩) n cap], .bool true]) ∧ (w.heap.size < b ∧ b < w'.heap.size) ∧ FlCells w' b n X ∧ Below w.heap.size w w'
/-- What the making keeps. -/
def MR (X : Nat → Nat) (w : World) (p q lo W D i : Nat) (wr : World) : Prop := ∃ (V' : Value) (xs : List Value), gtc wr p (.int .i64 W) (.int .i64 D) V' ∧ gtc wr q (.int .i64 0) (.int .i64 0) (.slice none 0 0) ∧ wr.ownsRow lo 25 1 V' i xs ∧ (∀ j, j < i → ∃ r, xs[j]? = some (.float .f32 r) ∧ cn .f32 r = X j) ∧ Below w.heap.size w wr ∧ lo ≤ wr.heap.size
set_option maxRecDepth 100000 in
set_option maxHeartbeats 8000000 in
theorem madeGrid_c (fid : Nat) (caps : Array Value) (W D n : Nat) (X : Nat → Nat) (w : World) (h1 : 2 ≤ W) (h2 : W ≤ 16) (h3 : 2 ≤ D) (h4 : D ≤ 16) (hn : W * D = n) (hX : ∀ j, j < n → fin .f32 (X j) = true)
    (hF : ∀ i, i < n → ∀ w', Below w.heap.size w w' → Calls Try.prog fid (#[.int .i64 (i : Nat)] ++ caps) w' (Ret (RV (.float .f32 (X i))) w')) (hcn : ∀ j, j < n → cn .f32 (X j) = X j)
    (hcf : ∀ (a : Array Value) (w' : World), (callFunc fid a).run Try.prog w' = .ok (.enter fid a) w') :
    Calls Try.prog 76 #[.int .i64 (W : Int), .int .i64 (D : Int), .func (.func fid) #[] caps] w (MG W D n X w) := by
  have hn4 : 2 * 2 ≤ n := by rw [← hn]; exact Nat.mul_le_mul h1 h3
  have hnb : n ≤ 16 * 16 := by rw [← hn]; exact Nat.mul_le_mul h2 h4
  have hwm : IntKind.i64.wrap ((W : Int) * (D : Int)) = (n : Int) := by
    have e : (W : Int) * (D : Int) = (n : Int) := by rw [← hn, Int.natCast_mul]
    rw [e, IntKind.wrap_i64]
    omega
  have hgk : gridOk (W : Int) (D : Int) n X = true := by
    unfold gridOk sidesOk
    simp only [Bool.and_eq_true, decide_eq_true_eq]
    exact ⟨⟨⟨⟨by omega, by omega⟩, by omega, by omega⟩, by rw [← hn, Int.natCast_mul]⟩, by simpa [allF] using hX⟩
  have HV := Lib.hid (fun b cap w' hb hF => (hgk ▸ iValidGrid_c b n cap (W : Int) (D : Int) X w' (by omega) hb hF : Calls Try.prog 54 #[.agg #[.int .i64 (W : Int), .int .i64 (D : Int), .slice (some ⟨b, 0, none⟩) n cap]] w' (Ret (RV (.bool true)) w')))
  obtain ⟨i0, hi0, hI0, hI1, hI2⟩ := info_parts info_f32
  have HF := Lib.hid hF
  have HN := Lib.hid hn
  have HCN := Lib.hid hcn
  clear hX hF hn hgk hcn
  go_enter Try.func76, Try.ntmps76
  go_upto_region 2 with fail
  refine absw (fun V hV => ?_)
  have hs1 : V.heap.size = w.heap.size + 1 + 1 := by rw [hV]; simp
  have tP1 : gtc V (w.heap.size + 1) (.int .i64 (W : Int)) (.int .i64 (D : Int)) (.slice none 0 0) := by rw [hV]; exact gtc.newAt (by simp)
  have tQ1 : gtc V w.heap.size (.int .i64 0) (.int .i64 0) (.slice none 0 0) := by rw [hV]; exact (gtc.newAt rfl).alloc _
  have hB1 : Below w.heap.size w V := by rw [hV]; (with_reducible repeat (first | exact Below.refl _ _ | apply below_alloc | apply below_dN | apply below_d | refine below_setCell ?_ (by dsimp only; omega) | refine below_call (by assumption) ?_))
  have HTP := Lib.hid tP1
  have HTQ := Lib.hid tQ1
  have HB1 := Lib.hid hB1
  clear hV tP1 tQ1 hB1
  go_wp2
  go_loopw [16] (fun iv wr => ∃ (i : Nat), i ≤ n ∧ iv = .int .i64 (i : Int) ∧ MR X w (w.heap.size + 1) w.heap.size (w.heap.size + 1 + 1) W D i wr) (fun iv _ => n - (intOf iv).toNat)
  case atStart => exact ⟨0, by omega, rfl, _, [], HTP.out, HTQ.out, ⟨rfl, .inl ⟨rfl, rfl⟩⟩, by omega, HB1.out, by omega⟩
  case round =>
    rename World => wO
    obtain ⟨i, hi, rfl, V', xs, tP, tQ, hown, hxs, hBO, hsO⟩ := hrel
    have HXS := Lib.hid hxs
    have HTQ' := Lib.hid tQ
    have HTP' := Lib.hid tP
    have HOWN := Lib.hid hown
    have HBO := Lib.hid hBO
    have hBs := hBO.size
    have c2 := tP.c2
    have pl := tP.lt
    clear hxs tQ tP hown hBO
    by_cases hlt : i < n
    · have hlt' : (i : Int) < (n : Int) := by omega
      go_upto_region 5 with fail
      (apply region_looseK (k := 6); (kernel_rfl); (kernel_rfl); intro opsL KL hopsL hKL; (dsimp only [List.take]))
      iterate 4 (apply rel_val; (rfl); (intro wq hbq; have hcq := (bcell hbq).1; (go_simp; first | done | rfl | exact ⟨rfl, rfl⟩)); (try go_simp))
      apply rel_call (RV (.float .f32 (X i)))
      · rfl
      · intro wq hbq
        go_simp
        exact ⟨rfl, rfl⟩
      · intro wq hbq
        exact HF.out i hlt _ (HBO.out.trans (hbq.mono hBs))
      rintro v rfl
      (try go_simp)
      (apply rel_new (RV undef) 2; (rfl); (intro wq hbq; have hcq := (bcell hbq).1; go_simp; (first | done | rfl | exact ⟨rfl, rfl⟩)))
      intro bn hbn
      dsimp only [nv]
      (refine wpRel_nil ?_; refine hKL _ _ ?_; clear hKL hopsL opsL KL; intro w1 hb hnews; obtain ⟨hc, hfz⟩ := bcell hb; (try simp only [World.heap_drewN] at hc hfz); have hz := hb.size; (dsimp only [List.drop]))
      obtain ⟨⟨bn', e1, e2⟩, -⟩ := hnews
      obtain rfl : bn = bn' := by simpa [nv] using e1
      have hown1 := own_below HOWN.out hb
      have tP5 := HTP'.out.below hb
      have hBw := HBO.out.trans (hb.mono hBs)
      have HBw := Lib.hid hBw
      have hs1' := hb.size
      clear hc hfz e1 hBw
      go_wp2_with (at_builtin; refine wpList_append_lies _ rfl (.tmp 20) (.tmp 24) 22 rfl (w.heap.size + 1 + 1) 25 i0 (.float .f32 0) 1 4 Try.underlying22 hi0 hI0 hI1 hI2 rfl (by decide) _ _ _ rfl hown1 ⟨bn, 0, none⟩ 1 1 [.float .f32 (X i)] rfl rfl (World.news_of_block e2) (by intro u hu; simp at hu; subst hu; rfl) (by omega) (by unfold maxLen; omega) (by omega) (by omega) _ rfl ?_; intro gN cap w5 hown5 hgrow5 hlies5 hlt5; have hneq : ∀ q, q < w.heap.size + 1 + 1 → some q ≠ V'.ownBlock := (fun q hq e => by have := (hown1.lt _ e.symm).1; omega); have hb6 : ∀ q, q < w.heap.size + 1 + 1 → w5.heap[q]? = w1.heap[q]? := (fun q hq => hgrow5.block q (by omega) (hneq q hq)); have tP6 : gtc w5 (w.heap.size + 1) (.int .i64 W) (.int .i64 D) V' := World.rowIs.of_block tP5 (hb6 _ (by omega)); have c2'' := gtc.c2 tP6; have pl'' := gtc.lt tP6; have pf'' := gtc.fr tP6 2)
      go_roundw
      case rel =>
        have hgr := HBw.out.grown hgrow5 (by omega) (fun j hj => by have := (hown1.lt j hj).1; omega)
        refine ⟨i + 1, by omega, by go_num, _, xs ++ [.float .f32 (X i)], gtc.setC tP6 _, ?_, ?_, fun j hj => ?_, ?_, ?_⟩
        · exact gtc.other (World.rowIs.of_block (HTQ'.out.below hb) (hb6 _ (by omega))) (by omega) _
        · exact World.ownsRow.keep1 hown5 (Keep1.set (Keep1.refl (w.heap.size + 1) _) _) (by omega) (by simp [World.setCell])
        · have hl : xs.length = i := by have := HOWN.out.1; omega
          by_cases e : j = i
          · subst e
            exact ⟨X j, by rw [List.getElem?_append_right (by omega), hl]; simp, HCN.out j hlt⟩
          · obtain ⟨r, e1, e2⟩ := HXS.out j (by omega)
            exact ⟨r, by rw [List.getElem?_append_left (by omega)]; exact e1, e2⟩
        · exact hgr.setCell (p := ⟨w.heap.size + 1, 2, none⟩) (by simp only; omega) _
        · have := hgrow5.size
          have e : (w5.setCell ⟨w.heap.size + 1, 2, none⟩ (.slice (some ⟨gN, 0, none⟩) (i + 1) cap)).heap.size = w5.heap.size := by simp [World.setCell]
          omega
      case measure => first | (simp [intOf]; done) | (simp [intOf]; omega)
    · obtain rfl : i = n := by omega
      have hlt' : ¬ ((i : Int) < (i : Int)) := by omega
      obtain ⟨gN, cap, rfl, hg1, hg2, hF⟩ := own_fl HOWN.out (by omega) HXS.out
      have HVC := Lib.hid (HV.out gN cap wO hg2 hF)
      have c0 := HTP'.out.c0
      have c1 := HTP'.out.c1
      have HTQ2 := HTQ'
      go_upto_region 9 with (go_at_call 54; ((with_reducible refine (HVC.out).mono ?_); rintro e w2 ⟨⟨v, rfl, rfl⟩, hb2⟩))
      have tP2 := HTP'.out.below hb2
      have tQ2 := HTQ'.out.below hb2
      clear c0 c1 c2 pl
      have c0 := tP2.c0
      have c1 := tP2.c1
      have c2 := tP2.c2
      have pl := tP2.lt
      have q0 := tQ2.c0
      have q1 := tQ2.c1
      have q2 := tQ2.c2
      have ql := tQ2.lt
      have qf0 := tQ2.fr 0
      have qf1 := tQ2.fr 1
      have qf2 := tQ2.fr 2
      go_wp2
      refine bodyPost_ret (v := .tuple #[.agg #[.int .i64 W, .int .i64 D, .slice (some ⟨gN, 0, none⟩) i cap], .bool true]) (by simp [results, Try.results76, go_sem, *] <;> (first | rfl | exact ⟨rfl, rfl⟩ | exact ⟨rfl, rfl, rfl⟩ | exact ⟨rfl, rfl, rfl, rfl⟩)) rfl ?_
      have kq : Keep1 w.heap.size w2 (((w2.setCell ⟨w.heap.size, 0, none⟩ (.int .i64 W)).setCell ⟨w.heap.size, 1, none⟩ (.int .i64 D)).setCell ⟨w.heap.size, 2, none⟩ (.slice (some ⟨gN, 0, none⟩) i cap)) := Keep1.set (Keep1.set (Keep1.set (Keep1.refl _ _) _) _) _
      have hBe := HBO.out.trans (hb2.mono hBs)
      have hgl := Nat.lt_of_lt_of_le hg2 hb2.size
      exact ⟨gN, cap, rfl, ⟨by omega, by simpa [World.setCell] using hgl⟩, (hF.dn hg2 hb2).keep1 hgl kq (by omega), ((hBe.setCell (p := ⟨w.heap.size, 0, none⟩) (Nat.le_refl _) _).setCell (p := ⟨w.heap.size, 1, none⟩) (Nat.le_refl _) _).setCell (p := ⟨w.heap.size, 2, none⟩) (Nat.le_refl _) _⟩
end Go.Proofs.Ytpajakindpbepaa
