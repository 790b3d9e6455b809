/- The reference's cone. No condition. -/
import Derived.Test.YtpajakindpbepaaConW
import Derived.Test.YtpajakindpbepaaSees
import Derived.Test.YtpajakindpbepaaLoof
namespace Go.Proofs.Ytpajakindpbepaa
open Go.RowKit Go.IntWalk
set_option linter.unusedSimpArgs false
/-- What a new cone is returned as. -/
def CSp (W D n : Nat) (X : Nat → Nat) (w : World) (e : Ending) (w' : World) : Prop := ∃ b cap, e = .returned (.agg #[.int .i64 (W : Int), .int .i64 (D : Int), .slice (some ⟨b, 0, none⟩) n cap]) ∧ (w.heap.size < b ∧ b < w'.heap.size) ∧ FlW w' b n cap X ∧ Below w.heap.size w w'
set_option maxRecDepth 100000 in
set_option maxHeartbeats 8000000 in
theorem l06Cone_c (W D n M N : Nat) (w : World) (h1 : 2 ≤ W) (h2 : W ≤ 16) (h3 : 2 ≤ D) (h4 : D ≤ 16) (hn : W * D = n) (hM : cn .f32 M = M) (hN : cn .f32 N = N) (hok : ∀ j, j < n → coneOkB M N (j % W) (j / W) = true) :
    Calls Try.prog 85 #[.int .i64 (W : Int), .int .i64 (D : Int), .complex .f32 M N, .float .f32 1082130432, .float .f32 1065353216] w (CSp W D n (fun j => coneM M N (j % W) (j / W)) w) := by
  have hn4 : 2 * 2 ≤ n := by rw [← hn]; exact Nat.mul_le_mul h1 h3
  have hnb : n ≤ 16 * 16 := by rw [← hn]; exact Nat.mul_le_mul h2 h4
  have hwm : IntKind.i64.wrap ((W : Int) * (D : Int)) = (n : Int) := by
    have e : (W : Int) * (D : Int) = (n : Int) := by rw [← hn, Int.natCast_mul]
    rw [e, IntKind.wrap_i64]
    omega
  obtain ⟨i0, hi0, hI0, hI1, hI2⟩ := info_parts info_f32
  have HOK := Lib.hid hok
  have HN := Lib.hid hn
  clear hok hn
  go_enter Try.func85, Try.ntmps85
  go_upto_region 2 with fail
  refine absw (fun V hV => ?_)
  have hs1 : V.heap.size = w.heap.size + 1 + 1 := by rw [hV]; simp
  have tP1 : gtc V (w.heap.size + 1) (.int .i64 (W : Int)) (.int .i64 (D : Int)) (.slice none 0 0) := by rw [hV]; exact gtc.newAt (by simp)
  have tQ1 : gtc V w.heap.size (.int .i64 0) (.int .i64 0) (.slice none 0 0) := by rw [hV]; exact (gtc.newAt rfl).alloc _
  have hB1 : Below w.heap.size w V := by rw [hV]; (with_reducible repeat (first | exact Below.refl _ _ | apply below_alloc | apply below_dN | apply below_d | refine below_setCell ?_ (by dsimp only; omega) | refine below_call (by assumption) ?_))
  have HTP := Lib.hid tP1
  have HTQ := Lib.hid tQ1
  have HB1 := Lib.hid hB1
  clear hV tP1 tQ1 hB1
  go_wp2
  go_loopw [12] (fun iv wr => ∃ (i : Nat), i ≤ n ∧ iv = .int .i64 (i : Int) ∧ MRw (fun j => coneM M N (j % W) (j / W)) w (w.heap.size + 1) w.heap.size (w.heap.size + 1 + 1) W D i wr) (fun iv _ => n - (intOf iv).toNat)
  case atStart => exact ⟨0, by omega, rfl, _, [], HTP.out, HTQ.out, ⟨rfl, .inl ⟨rfl, rfl⟩⟩, by omega, HB1.out, by omega⟩
  case round =>
    rename World => wO
    obtain ⟨i, hi, rfl, V', xs, tP, tQ, hown, hxs, hBO, hsO⟩ := hrel
    have HXS := Lib.hid hxs
    have HTQ' := Lib.hid tQ
    have HTP' := Lib.hid tP
    have HOWN := Lib.hid hown
    have HBO := Lib.hid hBO
    have hBs := hBO.size
    have c0 := tP.c0
    have c2 := tP.c2
    have pl := tP.lt
    clear hxs tQ tP hown hBO
    by_cases hlt : i < n
    · have hlt' : (i : Int) < (n : Int) := by omega
      have hok := HOK.out i hlt
      unfold coneOkB at hok
      simp only [Bool.and_eq_true, Bool.not_eq_true', beq_iff_eq] at hok
      obtain ⟨⟨⟨k1, k2⟩, k3⟩, k4⟩ := hok
      have e1 : ((i % W : Nat) : Int) = (i : Int) % (W : Int) := by omega
      have e2 : ((i / W : Nat) : Int) = (i : Int) / (W : Int) := by simp
      rw [e1, e2] at k1
      have HK1 := Lib.hid (fits_ofB k1)
      have hX : coneM M N (i % W) (i / W) = fop .sub .f32 1082130432 (fop .mul .f32 1065353216 (lng (fop .sub .f32 (fofI .f32 ((i : Int) % (W : Int))) M) (fop .sub .f32 (fofI .f32 ((i : Int) / (W : Int))) N))) := by unfold coneM; rw [e1, e2]
      have HX := Lib.hid hX
      have HK2 := Lib.hid k2
      have HK4 := Lib.hid k4
      have HM' := Lib.hid hM
      have HN' := Lib.hid hN
      clear k1 k2 k3 k4 e1 e2 hX
      have f4 : cn .f32 1082130432 = 1082130432 := by decide +kernel
      have f1 : cn .f32 1065353216 = 1065353216 := by decide +kernel
      have HPi := Lib.hid (fun (w' : World) (hb' : Below wO.heap.size wO w') => (show Calls Try.prog 101 #[.pointer (some ⟨w.heap.size + 1, 0, none⟩), .int .i64 i] w' (Ret (RV (.complex .f32 (fofI .f32 ((i : Int) % (W : Int))) (fofI .f32 ((i : Int) / (W : Int))))) w') from Ret.of_below (l06Place_c (w.heap.size + 1) W i (by omega) (by omega) (by omega) w' ((hb'.cell (p := ⟨w.heap.size + 1, 0, none⟩) (by simp only; omega)).trans c0)) rfl))
      go_upto_region 5 with fail
      (apply Loof.region_looseK (k := 12); (kernel_rfl); (kernel_rfl); intro opsL KL hopsL hKL; (dsimp only [List.take]))
      iterate 5 (apply rel_val; (rfl); (intro wq hbq; have hcq := (bcell hbq).1; (go_simp; first | done | rfl | exact ⟨rfl, rfl⟩)); (try go_simp))
      (apply rel_call (RV (.complex .f32 (fofI .f32 ((i : Int) % (W : Int))) (fofI .f32 ((i : Int) / (W : Int))))); (rfl); (intro wq hbq; (go_simp; first | done | rfl | exact ⟨rfl, rfl⟩)); (intro wq hbq; exact HPi.out _ (by assumption)); (try go_simp))
      rintro v rfl
      (apply rel_val; (rfl); (intro wq hbq; have hcq := (bcell hbq).1; (go_simp; first | done | rfl | exact ⟨rfl, rfl⟩)); (try go_simp))
      (apply rel_csub; (rfl); (rfl); (rfl); (rfl); (exact cn_fofI _ _); (exact cn_fofI _ _); (exact HM'.out); (exact HN'.out); intro cx cy hcx hcy hox hoy; (try go_simp))
      (apply rel_call (RF .f32 (lng (fop .sub .f32 (fofI .f32 ((i : Int) % (W : Int))) M) (fop .sub .f32 (fofI .f32 ((i : Int) / (W : Int))) N))); (rfl); (intro wq hbq; (go_simp; first | done | rfl | exact ⟨rfl, rfl⟩)); (intro wq hbq; exact l01Long_c _ _ _ _ hcx hcy HK1.out _); (try go_simp))
      rintro v ⟨lr, rfl, hlr, hlo⟩
      (apply rel_farith; (rfl); (rfl); (rfl); (rfl); (rfl); (assumption); (assumption); intro r hr hw; (try go_simp))
      (apply rel_farith; (rfl); (rfl); (rfl); (rfl); (rfl); (assumption); (assumption); intro r hr hw; (try go_simp))
      have hr' := hr.trans HX.out.symm
      obtain rfl := raw_of HK2.out hr'
      (apply rel_new (RV undef) 2; (rfl); (intro wq hbq; have hcq := (bcell hbq).1; go_simp; (first | done | rfl | exact ⟨rfl, rfl⟩)))
      intro bn hbn
      dsimp only [nv]
      (refine wpRel_nil ?_; refine hKL _ _ ?_; clear hKL hopsL opsL KL; intro w1 hb hnews; obtain ⟨hc, hfz⟩ := bcell hb; (try simp only [World.heap_drewN] at hc hfz); have hz := hb.size; (dsimp only [List.drop]))
      obtain ⟨⟨bn', e1, e2⟩, -⟩ := hnews
      obtain rfl : bn = bn' := by simpa [nv] using e1
      have hown1 := own_below HOWN.out hb
      have tP5 := HTP'.out.below hb
      have hBw := HBO.out.trans (hb.mono hBs)
      have HBw := Lib.hid hBw
      have hs1' := hb.size
      clear hc hfz e1 hBw
      have f1 := tP5.c2
      go_wp2_with (at_builtin; refine wpList_append_lies _ rfl (.tmp 24) (.tmp 34) 22 rfl (w.heap.size + 1 + 1) 25 i0 (.float .f32 0) 1 4 Try.underlying22 hi0 hI0 hI1 hI2 rfl (by decide) _ _ _ rfl hown1 ⟨bn, 0, none⟩ 1 1 [.float .f32 (coneM M N (i % W) (i / W))] rfl rfl (World.news_of_block e2) (by intro u hu; simp at hu; subst hu; rfl) (by omega) (by unfold maxLen; omega) (by omega) (by omega) _ rfl ?_; intro gN cap w5 hown5 hgrow5 hlies5 hlt5; have hneq : ∀ q, q < w.heap.size + 1 + 1 → some q ≠ V'.ownBlock := (fun q hq e => by have := (hown1.lt _ e.symm).1; omega); have hb6 : ∀ q, q < w.heap.size + 1 + 1 → w5.heap[q]? = w1.heap[q]? := (fun q hq => hgrow5.block q (by omega) (hneq q hq)); have tP6 : gtc w5 (w.heap.size + 1) (.int .i64 W) (.int .i64 D) V' := World.rowIs.of_block tP5 (hb6 _ (by omega)); have c2'' := gtc.c2 tP6; have pl'' := gtc.lt tP6; have pf'' := gtc.fr tP6 2)
      go_roundw
      case rel =>
        have hgr := HBw.out.grown hgrow5 (by omega) (fun j hj => by have := (hown1.lt j hj).1; omega)
        refine ⟨i + 1, by omega, by go_num, _, xs ++ [.float .f32 (coneM M N (i % W) (i / W))], gtc.setC tP6 _, ?_, ?_, fun j hj => ?_, ?_, ?_⟩
        · exact gtc.other (World.rowIs.of_block (HTQ'.out.below hb) (hb6 _ (by omega))) (by omega) _
        · exact World.ownsRow.keep1 hown5 (Keep1.set (Keep1.refl (w.heap.size + 1) _) _) (by omega) (by simp [World.setCell])
        · have hl : xs.length = i := by have := HOWN.out.1; omega
          by_cases e : j = i
          · subst e
            exact ⟨_, by rw [List.getElem?_append_right (by omega), hl]; simp, HK4.out⟩
          · obtain ⟨r, e1, e2⟩ := HXS.out j (by omega)
            exact ⟨r, by rw [List.getElem?_append_left (by omega)]; exact e1, e2⟩
        · exact hgr.setCell (p := ⟨w.heap.size + 1, 2, none⟩) (by simp only; omega) _
        · have := hgrow5.size
          have e : (w5.setCell ⟨w.heap.size + 1, 2, none⟩ (.slice (some ⟨gN, 0, none⟩) (i + 1) cap)).heap.size = w5.heap.size := by simp [World.setCell]
          omega
      case measure => first | (simp [intOf]; done) | (simp [intOf]; omega)
    · obtain rfl : i = n := by omega
      have hlt' : ¬ ((i : Int) < (i : Int)) := by omega
      obtain ⟨gN, cap, rfl, hg1, hg2, hF⟩ := own_flw HOWN.out (by omega) HXS.out
      have tP2 := HTP'.out
      have tQ2 := HTQ'.out
      clear c0 c2 pl
      have c0 := tP2.c0
      have c1 := tP2.c1
      have c2 := tP2.c2
      have pl := tP2.lt
      have q0 := tQ2.c0
      have q1 := tQ2.c1
      have q2 := tQ2.c2
      have ql := tQ2.lt
      have qf0 := tQ2.fr 0
      have qf1 := tQ2.fr 1
      have qf2 := tQ2.fr 2
      go_wp2
      refine bodyPost_ret (v := .agg #[.int .i64 W, .int .i64 D, .slice (some ⟨gN, 0, none⟩) i cap]) (by simp [results, Try.results85, go_sem, *] <;> (first | rfl | exact ⟨rfl, rfl⟩ | exact ⟨rfl, rfl, rfl⟩ | exact ⟨rfl, rfl, rfl, rfl⟩)) rfl ?_
      have kq : Keep1 w.heap.size wO (((wO.setCell ⟨w.heap.size, 0, none⟩ (.int .i64 W)).setCell ⟨w.heap.size, 1, none⟩ (.int .i64 D)).setCell ⟨w.heap.size, 2, none⟩ (.slice (some ⟨gN, 0, none⟩) i cap)) := Keep1.set (Keep1.set (Keep1.set (Keep1.refl _ _) _) _) _
      exact ⟨gN, cap, rfl, ⟨by omega, by simpa [World.setCell] using hg2⟩, hF.keep1 hg2 kq (by omega), ((HBO.out.setCell (p := ⟨w.heap.size, 0, none⟩) (Nat.le_refl _) _).setCell (p := ⟨w.heap.size, 1, none⟩) (Nat.le_refl _) _).setCell (p := ⟨w.heap.size, 2, none⟩) (Nat.le_refl _) _⟩
end Go.Proofs.Ytpajakindpbepaa
