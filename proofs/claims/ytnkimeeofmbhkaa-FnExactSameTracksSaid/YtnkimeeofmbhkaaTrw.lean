/- Contracts of SameTracks in both spellings. No condition. -/
import Derived.Test.YtnkimeeofmbhkaaTrs
namespace Go.Proofs.Ytnkimeeofmbhkaa
open Go.RowKit
set_option linter.unusedSimpArgs false
def allB (f : Nat → Bool) (n : Nat) : Bool := (List.range n).all f
theorem allB_true {f : Nat → Bool} {n : Nat} (h : ∀ j, j < n → f j = true) : allB f n = true := by simpa [allB] using h
theorem allB_false {f : Nat → Bool} {n m : Nat} (hm : m < n) (h : f m = false) : allB f n = false := by
  unfold allB
  rw [Bool.eq_false_iff]
  intro e
  rw [List.all_eq_true] at e
  rw [e m (List.mem_range.2 hm)] at h
  exact absurd h (by decide)
theorem ba_ne {a b : ByteArray} (h : ¬ a = b) : (a.toList == b.toList) = false := by
  rw [beq_eq_false_iff_ne]
  intro e
  rw [ByteArray.toList_eq, ByteArray.toList_eq] at e
  cases a with
  | mk a =>
    cases b with
    | mk b => exact h (congrArg ByteArray.mk (Array.toList_inj.1 e))
/-- Whether two rows of places are the same. -/
def plEq (m m' : Nat) (x y x' y' : Nat → Nat) : Bool := decide (m = m') && allB (fun k => fsm (x k) (x' k) && fsm (y k) (y' k)) m
def trEq (s s' : Nat → ByteArray) (m m' : Nat → Nat) (x y x' y' : Nat → Nat → Nat) (j : Nat) : Bool := decide (s j = s' j) && plEq (m j) (m' j) (x j) (y j) (x' j) (y' j)
def trsEq (n n' : Nat) (s s' : Nat → ByteArray) (m m' : Nat → Nat) (x y x' y' : Nat → Nat → Nat) : Bool := decide (n = n') && allB (trEq s s' m m' x y x' y') n
def WfP (m : Nat) (x y : Nat → Nat) : Prop := ∀ k, k < m → (Lit.float .f32 (x k)).wf = true ∧ (Lit.float .f32 (y k)).wf = true
theorem PlBlk.at {w : World} {q m k : Nat} {x y : Nat → Nat} (h : PlBlk w q m x y) (hk : k < m) : w.cell? ⟨q, k * 2, none⟩ = some (.float .f32 (x k)) ∧ w.cell? ⟨q, k * 2 + 1, none⟩ = some (.float .f32 (y k)) := by
  have c0 := World.rowIs.cell h (i := k * 2) (by omega)
  have c1 := World.rowIs.cell h (i := k * 2 + 1) (by omega)
  unfold pc at c0 c1
  rw [if_pos (by omega), show k * 2 / 2 = k by omega] at c0
  rw [if_neg (by omega), show (k * 2 + 1) / 2 = k by omega] at c1
  exact ⟨c0, c1⟩
theorem l02Same_r (q q' k m m' : Nat) (x y x' y' : Nat → Nat) (w : World) (hk : k < m) (hk' : k < m') (hP : PlBlk w q m x y) (hP' : PlBlk w q' m' x' y') (hw : WfP m x y) (hw' : WfP m' x' y') :
    Calls Try.prog 47 #[.pointer (some ⟨q, k * 2, none⟩), .pointer (some ⟨q', k * 2, none⟩)] w (Ret (RV (.bool (fsm (x k) (x' k) && fsm (y k) (y' k)))) w) :=
  (l02Same_any (x k) (y k) (x' k) (y' k) q (k * 2) q' (k * 2) w (hP.at hk).1 (hP.at hk).2 (hP'.at hk').1 (hP'.at hk').2 hP.lt' hP'.lt' (hw k hk).1 (hw k hk).2 (hw' k hk').1 (hw' k hk').2).mono fun e w' h => ⟨⟨_, h.1, rfl⟩, h.2⟩
set_option maxRecDepth 100000 in
set_option maxHeartbeats 2000000 in
theorem sSameTracks_c (lo lo' b b' n n' : Nat) (s s' : Nat → ByteArray) (m m' : Nat → Nat) (x y x' y' : Nat → Nat → Nat) (w : World) (hn : n ≤ 1048576) (hm : ∀ j, j < n → m j ≤ 1048576)
    (h : TrIn w lo b n s m x y) (h' : TrIn w lo' b' n' s' m' x' y') (hw : ∀ j, j < n → WfP (m j) (x j) (y j)) (hw' : ∀ j, j < n' → WfP (m' j) (x' j) (y' j)) :
    Calls Try.prog 22 #[.slice (some ⟨b, 0, none⟩) n n, .slice (some ⟨b', 0, none⟩) n' n'] w (Ret (RV (.bool (trsEq n n' s s' m m' x y x' y'))) w) := by
  by_cases en : n = n'
  · subst en
    have hT : trsEq n n s s' m m' x y x' y' = allB (trEq s s' m m' x y x' y') n := by unfold trsEq; rw [decide_eq_true rfl]; rfl
    rw [hT]
    obtain ⟨K, hK⟩ : ∃ K, allB (trEq s s' m m' x y x' y') n = K := ⟨_, rfl⟩
    rw [hK]
    have HK := Lib.hid hK
    clear hK hT
    go_enter Try.func22, Try.ntmps22
    go_wp2
    go_loopw [14] (fun k wr => ∃ i : Nat, i ≤ n ∧ k = .int .i64 i ∧ (∀ j, j < i → trEq s s' m m' x y x' y' j = true) ∧ Below w.heap.size w wr) (fun k _ => n - (intOf k).toNat)
    case atStart => exact ⟨0, by omega, rfl, by omega, Below.refl _ _⟩
    case round =>
      obtain ⟨i, hi, rfl, hall, hB⟩ := hrel
      have HALL := Lib.hid hall
      clear hall
      by_cases hlt : i < n
      · obtain ⟨q, c0, c1, hP⟩ := (h.below hB).at hlt
        obtain ⟨q', c0', c1', hP'⟩ := (h'.below hB).at hlt
        have hlb := (h.below hB).lt
        have hlb' := (h'.below hB).lt
        have HB := Lib.hid hB
        have HH := Lib.hid h
        have HH' := Lib.hid h'
        have HM := Lib.hid (hm i hlt)
        have HM0 := Lib.hid hm
        have HW := Lib.hid (hw i hlt)
        have HW' := Lib.hid (hw' i hlt)
        have HW0 := Lib.hid hw
        have HW0' := Lib.hid hw'
        have hE : trEq s s' m m' x y x' y' i = (decide (s i = s' i) && plEq (m i) (m' i) (x i) (y i) (x' i) (y' i)) := rfl
        have HE := Lib.hid hE
        have HP := Lib.hid hP
        have HP' := Lib.hid hP'
        clear hB h h' hm hE hw hw' hP hP'
        generalize s i = S at *
        generalize s' i = S' at *
        generalize m i = M at *
        generalize m' i = M' at *
        by_cases es : S = S'
        · by_cases em : M = M'
          · subst es em
            go_wp2
            (refine region_below (by kernel_rfl) (by kernel_rfl) ?_; (repeat (first | go_big_quiet_step (fail) | quiet_step (fail))); refine wpQuiet_nil ?_; intro w1 hb; obtain ⟨hc, hfz⟩ := bcell hb; (try simp only [World.heap_drewN] at hc hfz); have hz := hb.size)
            have hP1 := HP.out.dn hb
            have hP1' := HP'.out.dn hb
            have hB1 := HB.out.trans (hb.mono HB.out.size)
            have HB1 := Lib.hid hB1
            have hlb1 : b < w1.heap.size := by omega
            have hlb1' : b' < w1.heap.size := by omega
            have k1 := (hb.cell (p := ⟨b, i * 2 + 1, none⟩) hlb).trans c1
            have k1' := (hb.cell (p := ⟨b', i * 2 + 1, none⟩) hlb').trans c1'
            have HP1 := Lib.hid hP1
            have HP1' := Lib.hid hP1'
            have HK1 := Lib.hid k1
            have HK1' := Lib.hid k1'
            clear hP1 hP1' hB1 k1 k1' hb
            have hM := HM.out
            go_wp2
            go_loopw [49] (fun kk wx => ∃ k : Nat, k ≤ M ∧ kk = .int .i64 k ∧ (∀ j, j < k → (fsm (x i j) (x' i j) && fsm (y i j) (y' i j)) = true) ∧ Below w1.heap.size w1 wx) (fun kk _ => M - (intOf kk).toNat)
            case atStart => exact ⟨0, by omega, rfl, by omega, Below.refl _ _⟩
            case round =>
              obtain ⟨k, hk, rfl, hall2, hBx⟩ := hrel
              have HALL2 := Lib.hid hall2
              clear hall2
              by_cases hlt2 : k < M
              · have z1 := (hBx.cell (p := ⟨b, i * 2 + 1, none⟩) hlb1).trans HK1.out
                have z1' := (hBx.cell (p := ⟨b', i * 2 + 1, none⟩) hlb1').trans HK1'.out
                have hP2 := HP1.out.dn hBx
                have hP2' := HP1'.out.dn hBx
                have hbl := Nat.lt_of_lt_of_le hlb1 hBx.size
                have hbl' := Nat.lt_of_lt_of_le hlb1' hBx.size
                have ql := hP2.lt'
                have ql' := hP2'.lt'
                have HC := Lib.hid (fun (w' : World) (hb : Below wr.heap.size wr w') => l02Same_r q q' k M M (x i) (y i) (x' i) (y' i) w' hlt2 hlt2 (hP2.dn hb) (hP2'.dn hb) HW.out HW'.out)
                have HBx := Lib.hid hBx
                clear hBx hP2 hP2' c0 c0' c1 c1'
                obtain ⟨B, hBv⟩ : ∃ B, (fsm (x i k) (x' i k) && fsm (y i k) (y' i k)) = B := ⟨_, rfl⟩
                rw [hBv] at HC
                have HBV := Lib.hid hBv
                clear hBv
                cases B
                · go_wp2
                  (apply region_looseK (k := 16); (kernel_rfl); (kernel_rfl); intro opsL KL hopsL hKL; (dsimp only [List.take]))
                  iterate 14 (apply rel_val; (rfl); (intro wq hbq; have hcq := (bcell hbq).1; (go_simp; first | done | rfl | exact ⟨rfl, rfl⟩)); (try go_simp))
                  (apply rel_call (RV (.bool false)); (rfl); (intro wq hbq; (go_simp; first | done | rfl | exact ⟨rfl, rfl⟩)); (intro wq hbq; exact HC.out _ (by assumption)); (try go_simp))
                  rintro v rfl
                  (apply rel_val; (rfl); (intro wq hbq; have hcq := (bcell hbq).1; (go_simp; first | done | rfl | exact ⟨rfl, rfl⟩)); (try go_simp))
                  (refine wpRel_nil ?_; refine hKL _ _ ?_; clear hKL hopsL opsL KL; intro w1 hb hnews; obtain ⟨hc, hfz⟩ := bcell hb; (try simp only [World.heap_drewN] at hc hfz); have hz := hb.size; (dsimp only [List.drop]))
                  go_wp2
                  go_ret
                  have hf : trEq s s' m m' x y x' y' i = false := by
                    rw [HE.out]
                    unfold plEq
                    rw [allB_false hlt2 HBV.out]
                    simp
                  refine ⟨⟨_, rfl, ?_⟩, HB1.out.trans ((HBx.out.trans (hb.mono HBx.out.size)).mono HB1.out.size)⟩
                  show _ = _
                  rw [← HK.out, allB_false hlt hf]
                  rfl
                · go_wp2
                  (apply region_looseK (k := 16); (kernel_rfl); (kernel_rfl); intro opsL KL hopsL hKL; (dsimp only [List.take]))
                  iterate 14 (apply rel_val; (rfl); (intro wq hbq; have hcq := (bcell hbq).1; (go_simp; first | done | rfl | exact ⟨rfl, rfl⟩)); (try go_simp))
                  (apply rel_call (RV (.bool true)); (rfl); (intro wq hbq; (go_simp; first | done | rfl | exact ⟨rfl, rfl⟩)); (intro wq hbq; exact HC.out _ (by assumption)); (try go_simp))
                  rintro v rfl
                  (apply rel_val; (rfl); (intro wq hbq; have hcq := (bcell hbq).1; (go_simp; first | done | rfl | exact ⟨rfl, rfl⟩)); (try go_simp))
                  (refine wpRel_nil ?_; refine hKL _ _ ?_; clear hKL hopsL opsL KL; intro w1 hb hnews; obtain ⟨hc, hfz⟩ := bcell hb; (try simp only [World.heap_drewN] at hc hfz); have hz := hb.size; (dsimp only [List.drop]))
                  go_wp2
                  go_roundw
                  case rel => exact ⟨k + 1, by omega, by go_num, fun j hj => by
                    by_cases ej : j = k
                    · rw [ej]; exact HBV.out
                    · exact HALL2.out j (by omega), HBx.out.trans (hb.mono HBx.out.size)⟩
                  case measure => first | (simp [intOf]; done) | (simp [intOf]; omega)
              · obtain rfl : k = M := by omega
                have HBx := Lib.hid hBx
                clear hBx
                have hf : trEq s s' m m' x y x' y' i = true := by
                  rw [HE.out]
                  unfold plEq
                  rw [allB_true HALL2.out]
                  simp
                have HF := Lib.hid hf
                clear hf
                go_wp2
                go_roundw
                case rel => exact ⟨i + 1, by omega, by go_num, fun j hj => by
                  by_cases ej : j = i
                  · rw [ej]; exact HF.out
                  · exact HALL.out j (by omega), HB1.out.trans (HBx.out.mono HB1.out.size)⟩
                case measure => first | (simp [intOf]; done) | (simp [intOf]; omega)
          · have em' : ¬ ((M : Int) = (M' : Int)) := by omega
            have hf : trEq s s' m m' x y x' y' i = false := by
              rw [HE.out]
              unfold plEq
              rw [decide_eq_false em]
              simp
            have HF := Lib.hid hf
            clear hf
            subst es
            go_wp2
            (refine region_below (by kernel_rfl) (by kernel_rfl) ?_; (repeat (first | go_big_quiet_step (fail) | quiet_step (fail))); refine wpQuiet_nil ?_; intro w1 hb; obtain ⟨hc, hfz⟩ := bcell hb; (try simp only [World.heap_drewN] at hc hfz); have hz := hb.size)
            go_wp2
            go_ret
            refine ⟨⟨_, rfl, ?_⟩, HB.out.trans (hb.mono HB.out.size)⟩
            show _ = _
            rw [← HK.out, allB_false hlt HF.out]
            rfl
        · have hf : trEq s s' m m' x y x' y' i = false := by
            rw [HE.out, decide_eq_false es]
            rfl
          have HF := Lib.hid hf
          have es2 := ba_ne es
          clear hf
          go_wp2
          (refine region_below (by kernel_rfl) (by kernel_rfl) ?_; (repeat (first | go_big_quiet_step (fail) | quiet_step (fail))); refine wpQuiet_nil ?_; intro w1 hb; obtain ⟨hc, hfz⟩ := bcell hb; (try simp only [World.heap_drewN] at hc hfz); have hz := hb.size)
          go_wp2
          go_ret
          refine ⟨⟨_, rfl, ?_⟩, HB.out.trans (hb.mono HB.out.size)⟩
          show _ = _
          rw [← HK.out, allB_false hlt HF.out]
          rfl
      · obtain rfl : i = n := by omega
        have HB := Lib.hid hB
        clear hB
        go_wp2
        go_ret
        refine ⟨⟨_, rfl, ?_⟩, HB.out⟩
        show _ = _
        rw [← HK.out, allB_true HALL.out]
        rfl
  · have hT : trsEq n n' s s' m m' x y x' y' = false := by unfold trsEq; rw [decide_eq_false en]; rfl
    rw [hT]
    have en' : ¬ ((n : Int) = (n' : Int)) := by omega
    clear hT h h' hw hw'
    go_enter Try.func22, Try.ntmps22
    go_wp2
    go_ret
    exact ⟨⟨_, rfl, rfl⟩, Below.refl _ _⟩
end Go.Proofs.Ytnkimeeofmbhkaa
