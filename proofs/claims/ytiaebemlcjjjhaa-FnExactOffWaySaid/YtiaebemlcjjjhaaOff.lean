/- Contracts of OffWay in both spellings; its law. No condition. -/
import Derived.Test.YtiaebemlcjjjhaaOffN
import Derived.Deep.DeepCutAuto
namespace Go.Proofs.Ytiaebemlcjjjhaa
open Go.RowKit
set_option linter.unusedSimpArgs false

theorem cut_nanMax (x y t : Nat) : nanB .f32 (Question.cut (.nanMinMax .f32 true x y) t) = true := nan32 _ _ (Nat.mod_lt _ (by decide)) (Nat.mod_lt _ (by decide))
theorem cut_wfMax (x y t : Nat) : (Lit.float .f32 (Question.cut (.nanMinMax .f32 true x y) t)).wf = true := cut_wf32 _ _ (Nat.mod_lt _ (by decide)) (Nat.mod_lt _ (by decide))
theorem order_flt {x : Nat} : flt .f32 x 0 = (FloatKind.f32.format.order x 0 == some .lt) := rfl
theorem run_max0 {P : Program} (ts : Array TypeId) (t : TypeId) (x : Nat) (hw : (Lit.float .f32 x).wf = true) (w : World) :
    ∃ r n, (Builtin.max_ ts t #[.float .f32 x, .float .f32 0]).run P w = .ok (.float .f32 r) (w.drewN n) ∧ (∀ Y, AngF Y (Rot (cn .f32 r)) = AngF Y (Rot (Mx0 (cn .f32 x)))) ∧ (Lit.float .f32 r).wf = true := by
  have hx : x < 4294967296 := by simpa [Lit.wf] using hw
  have hfl : flt .f32 (cn .f32 x) 0 = flt .f32 x 0 := by
    have := fl_cn0 x
    exact this
  cases h : FloatKind.f32.format.order x 0 with
  | none =>
    refine ⟨Question.cut (.nanMinMax .f32 true x 0) (w.tape w.drawn (.nanMinMax .f32 true x 0)), 1, ?_, ?_, cut_wfMax _ _ _⟩
    · simp [Builtin.max_, Builtin.max2, h, choose, Sem.run, Question.forced]; rfl
    · intro Y
      have hn : nanB .f32 x = true := order_none h
      rw [cn_nan (cut_nanMax _ _ _), cn_nan hn]
      unfold Mx0
      rw [show flt .f32 (qn .f32) 0 = false by decide +kernel]; rfl
  | some o =>
    have hn : nanB .f32 x = false := by
      cases hb : nanB .f32 x
      · rfl
      · rw [order_nan_left hb] at h; cases h
    cases o with
    | lt =>
      refine ⟨0, 0, by simp [Builtin.max_, Builtin.max2, h]; rfl, fun Y => ?_, by decide⟩
      unfold Mx0
      rw [hfl, order_flt, h]; rfl
    | gt =>
      refine ⟨x, 0, by simp [Builtin.max_, Builtin.max2, h]; rfl, fun Y => ?_, hw⟩
      unfold Mx0
      rw [hfl, order_flt, h]; rfl
    | eq =>
      have hm : Mx0 (cn .f32 x) = x := by unfold Mx0; rw [hfl, order_flt, h, cn_of hn]; rfl
      rcases zero_bits hx h with rfl | rfl
      · exact ⟨0, 0, by simp [Builtin.max_, Builtin.max2, h]; rfl, fun Y => by rw [hm]; rfl, by decide⟩
      · refine ⟨0, 0, ?_, fun Y => by rw [hm, ang_zero]; rfl, by decide⟩
        have hd : (FloatKind.f32.decode 2147483648).neg = true := by decide +kernel
        simp [Builtin.max_, Builtin.max2, h, hd]; rfl

section steps
variable {P : Program} {w : World} {ops : Array Oper} {rest : List Oper} {o : Oper} {a : Act} {Q : Exit → Act → World → Prop}
theorem wpL_max0 (hgd : Region.wanted o (yielded ops a.tmps) = true) (X : Operand) (ts : Array TypeId) (ho : o.op = .call { callee := .builtin .max, args := #[X, .const (.float .f32 0)], argTypes := ts }) (x : Nat) (hX : a.eval X = .float .f32 x) (hw : (Lit.float .f32 x).wf = true)
    (h : ∀ r n, (∀ Y, AngF Y (Rot (cn .f32 r)) = AngF Y (Rot (Mx0 (cn .f32 x)))) → (Lit.float .f32 r).wf = true → wpList P ops Q rest (a.put o.dst (.float .f32 r)) (w.drewN n)) : wpList P ops Q (o :: rest) a w :=
  wpList_want hgd fun K hK => by
    obtain ⟨r, n, e, hr, hw'⟩ := run_max0 (P := P) ts o.type x hw w
    refine wp_value (v := .float .f32 r) (w' := w.drewN n) ?_ (hK _ _ (h r n hr hw'))
    unfold execOp
    rw [ho]
    have e1 : a.eval (.const (.float .f32 0)) = .float .f32 0 := rfl
    simp [resolve, invoke, builtin, hX, e1, Sem.run_bind, e]
end steps

def OffS (S L : Nat) : Nat := fop .quo .f32 S L
def OffV (S L : Nat) : Nat := AngF (OffS S L) (Rot (Mx0 (fop .sub .f32 1065353216 (fop .mul .f32 (OffS S L) (OffS S L)))))

set_option maxRecDepth 100000 in
set_option maxHeartbeats 4000000 in
theorem iOff_c (a1 a2 b1 b2 c1 c2 A1 A2 B1 B2 C1 C2 : Nat) (ha1 : cn .f32 a1 = A1) (ha2 : cn .f32 a2 = A2) (hb1 : cn .f32 b1 = B1) (hb2 : cn .f32 b2 = B2) (hc1 : cn .f32 c1 = C1) (hc2 : cn .f32 c2 = C2) (w : World) : Calls Try.prog 38 #[.agg #[.float .f32 a1, .float .f32 a2], .agg #[.float .f32 b1, .float .f32 b2], .agg #[.float .f32 c1, .float .f32 c2]] w (Ret (numRes (((vplace A1 A2 && (vplace B1 B2 && vplace C1 C2)) && fin .f32 (SideV A1 A2 B1 B2 C1 C2)) && fgt .f32 (CrL A1 A2 B1 B2) 0) (OffV (SideV A1 A2 B1 B2 C1 C2) (CrL A1 A2 B1 B2))) w) := by
  have hcrl : (vplace A1 A2 = true → vplace B1 B2 = true → fin .f32 (CrL A1 A2 B1 B2) = true) := crl_fin
  have HS := Lib.hid (iSide_c a1 a2 b1 b2 c1 c2 A1 A2 B1 B2 C1 C2 ha1 ha2 hb1 hb2 hc1 hc2)
  obtain ⟨K, hK⟩ : ∃ K, (vplace A1 A2 && (vplace B1 B2 && vplace C1 C2)) = K := ⟨_, rfl⟩
  obtain ⟨S, hS⟩ : ∃ S, SideV A1 A2 B1 B2 C1 C2 = S := ⟨_, rfl⟩
  obtain ⟨L, hL⟩ : ∃ L, CrL A1 A2 B1 B2 = L := ⟨_, rfl⟩
  rw [hK, hS] at HS
  rw [hK, hS, hL]
  have HL := Lib.hid hL
  clear hcrl hK hS hL
  go_enter Try.func38, Try.ntmps38
  go_upto_region 2 with (go_at_call 29; ((with_reducible refine (HS.out _).mono ?_); rintro e w1 ⟨⟨v, rfl, ⟨p, q, rfl, ⟨s, rfl, hs, hsw⟩, rfl⟩⟩, hb⟩); have hu2 : ∀ n : Nat, n < n + 1 + 1 := (fun n => by omega); have hu3 : ∀ n : Nat, n < n + 1 + 1 + 1 := (fun n => by omega); obtain ⟨hc, hfz⟩ := bcell hb; (try simp only [World.heap_drewN] at hc hfz); have hs_ := hb.size; (try simp at hs_); (try have hz0 : w.heap.size < w1.heap.size := (by omega)); (try have hz1 : w.heap.size + 1 < w1.heap.size := (by omega)); (try have hz2 : w.heap.size + 2 < w1.heap.size := (by omega)); (try have hz3 : w.heap.size + 3 < w1.heap.size := (by omega)); (try have hza : wa.heap.size < w1.heap.size := (by omega)); (try have hza1 : wa.heap.size + 1 < w1.heap.size := (by omega)); (try have hzb : wb.heap.size < w1.heap.size := (by omega)); (try have hzb1 : wb.heap.size + 1 < w1.heap.size := (by omega)); (try have hzc : wc.heap.size < w1.heap.size := (by omega)); (try have hzd : wd.heap.size < w1.heap.size := (by omega)))
  (apply region_looseK (k := 6); (kernel_rfl); (kernel_rfl); intro opsL KL hopsL hKL; (dsimp only [List.take]))
  repeat (first | (apply rel_call; (rfl); (intro wq hbq; have hcq := (bcell hbq).1; (go_simp; first | done | rfl | exact ⟨rfl, rfl⟩)); (intro wq hbq; exact iWay_c _ _ _ _ (by assumption) (by assumption) _); (try go_simp); rintro v ⟨x1, x2, x3, rfl, ⟨hx1, hx2, hx3⟩, hw1, hw2, hw3⟩) | (apply rel_call; (rfl); (intro wq hbq; have hcq := (bcell hbq).1; (go_simp; first | done | rfl | exact ⟨rfl, rfl⟩)); (intro wq hbq; exact iCross_c _ _ _ _ _ _ _ _ _ _ _ _ (by assumption) (by assumption) (by assumption) (by assumption) (by assumption) (by assumption) _); (try go_simp); rintro v ⟨x1, x2, x3, rfl, ⟨hx1, hx2, hx3⟩, hw1, hw2, hw3⟩) | (apply rel_call; (rfl); (intro wq hbq; have hcq := (bcell hbq).1; (go_simp; first | done | rfl | exact ⟨rfl, rfl⟩)); (intro wq hbq; exact iLong_c _ _ _ _ _ _ (by assumption) (by assumption) (by assumption) _); (try go_simp); rintro v ⟨r, rfl, hr, hw⟩) | (apply rel_val; (rfl); (intro wq hbq; have hcq := (bcell hbq).1; (go_simp; first | done | rfl | exact ⟨rfl, rfl⟩)); (try go_simp)))
  (refine wpRel_nil ?_; refine hKL _ _ ?_; clear hKL hopsL opsL KL; intro w1 hb hnews; obtain ⟨hc, hfz⟩ := bcell hb; (try simp only [World.heap_drewN] at hc hfz); have hz := hb.size; (dsimp only [List.drop]))
  have hrL : cn .f32 r = CrL A1 A2 B1 B2 := hr
  rw [HL.out] at hrL
  clear hr
  cases hk : (K && fin .f32 S)
  · go_wp2
    go_ret2
    refine ⟨⟨_, rfl, ?_⟩, by (with_reducible repeat (first | exact Below.refl _ _ | apply below_alloc | apply below_dN | apply below_d | refine below_setCell ?_ (by dsimp only; omega) | refine below_call (by assumption) ?_))⟩
    rw [hk]
    exact ⟨_, _, rfl, ⟨0, rfl, by simp [gd], okf_of (by decide)⟩, rfl⟩
  · cases hg : fgt .f32 L 0
    · go_wp2
      go_ret2
      refine ⟨⟨_, rfl, ?_⟩, by (with_reducible repeat (first | exact Below.refl _ _ | apply below_alloc | apply below_dN | apply below_d | refine below_setCell ?_ (by dsimp only; omega) | refine below_call (by assumption) ?_))⟩
      rw [hk, hg]
      exact ⟨_, _, rfl, ⟨0, rfl, by simp [gd], okf_of (by decide)⟩, rfl⟩
    · go_wp2_with (first | (refine wpL_farith rfl _ _ _ _ _ rfl rfl _ _ _ rfl rfl ?_; intro r n hr hw) | (refine wpL_max0 rfl _ _ rfl _ rfl hw ?_; intro r n hm0 hw; have hm := Lib.hid hm0; clear hm0) | (go_at_call 85; ((with_reducible refine (iRoot_c _ _ rfl _).mono ?_); rintro e w1 ⟨⟨v, rfl, r, rfl, hr, hw⟩, hb⟩)) | (go_at_call 84; ((with_reducible refine (iAng_c _ _ _ _ rfl hr _).mono ?_); rintro e w1 ⟨⟨v, rfl, r, rfl, hr, hw⟩, hb⟩); have hr2 : cn .f32 r = OffV S L := (by rw [hr, hm.out]; simp only [OffV, OffS, gd, cnc_1, if_true, *])) | (go_at_call 68; ((with_reducible refine (finite_c _ _ true hr2 hw _).mono ?_); rintro e w1 ⟨⟨v, rfl, ⟨p, q, rfl, ⟨r', rfl, hr', hw'⟩, rfl⟩⟩, hb⟩); have hu2 : ∀ n : Nat, n < n + 1 + 1 := (fun n => by omega); have hu3 : ∀ n : Nat, n < n + 1 + 1 + 1 := (fun n => by omega); obtain ⟨hc, hfz⟩ := bcell hb; (try simp only [World.heap_drewN] at hc hfz); have hs_ := hb.size; (try simp at hs_); (try have hz0 : w.heap.size < w1.heap.size := (by omega)); (try have hz1 : w.heap.size + 1 < w1.heap.size := (by omega)); (try have hz2 : w.heap.size + 2 < w1.heap.size := (by omega)); (try have hz3 : w.heap.size + 3 < w1.heap.size := (by omega)); (try have hza : wa.heap.size < w1.heap.size := (by omega)); (try have hza1 : wa.heap.size + 1 < w1.heap.size := (by omega)); (try have hzb : wb.heap.size < w1.heap.size := (by omega)); (try have hzb1 : wb.heap.size + 1 < w1.heap.size := (by omega)); (try have hzc : wc.heap.size < w1.heap.size := (by omega)); (try have hzd : wd.heap.size < w1.heap.size := (by omega))))
      go_ret2
      refine ⟨⟨_, rfl, ?_⟩, by (with_reducible repeat (first | exact Below.refl _ _ | apply below_alloc | apply below_dN | apply below_d | refine below_setCell ?_ (by dsimp only; omega) | refine below_call (by assumption) ?_))⟩
      rw [hk, hg]
      exact ⟨_, _, rfl, ⟨_, rfl, by assumption, by assumption⟩, rfl⟩

theorem cnc_0 : cn .f32 0 = 0 := by decide +kernel
theorem lt_Mx0 (x : Nat) : Mx0 x = if flt .f32 x 0 then 0 else x := rfl
set_option maxRecDepth 100000 in
set_option maxHeartbeats 400000 in
theorem l02Above_c (x X : Nat) (hx : cn .f32 x = X) (w : World) : Calls Try.prog 80 #[.float .f32 x] w (Ret (RV (.bool (fin .f32 X && fgt .f32 X 0))) w) := by
  cases h : fin .f32 X <;>
  (go_enter Try.func80, Try.ntmps80
   go_wp2_with (go_at_call 96; ((with_reducible refine (sFinite_c _ _ hx _).mono ?_); rintro e w1 ⟨⟨v, rfl, rfl⟩, hb⟩))
   go_ret
   exact ⟨⟨_, rfl, by simp [RV, *]⟩, by (with_reducible repeat (first | exact Below.refl _ _ | apply below_alloc | apply below_dN | apply below_d | refine below_setCell ?_ (by dsimp only; omega) | refine below_call (by assumption) ?_))⟩)
set_option maxRecDepth 100000 in
set_option maxHeartbeats 4000000 in
theorem sOff_c (a1 a2 b1 b2 c1 c2 A1 A2 B1 B2 C1 C2 : Nat) (ha1 : cn .f32 a1 = A1) (ha2 : cn .f32 a2 = A2) (hb1 : cn .f32 b1 = B1) (hb2 : cn .f32 b2 = B2) (hc1 : cn .f32 c1 = C1) (hc2 : cn .f32 c2 = C2) (w : World) : Calls Try.prog 37 #[.agg #[.float .f32 a1, .float .f32 a2], .agg #[.float .f32 b1, .float .f32 b2], .agg #[.float .f32 c1, .float .f32 c2]] w (Ret (numRes (((vplace A1 A2 && (vplace B1 B2 && vplace C1 C2)) && fin .f32 (SideV A1 A2 B1 B2 C1 C2)) && fgt .f32 (CrL A1 A2 B1 B2) 0) (OffV (SideV A1 A2 B1 B2 C1 C2) (CrL A1 A2 B1 B2))) w) := by
  have hcrl : ∀ S, (((vplace A1 A2 && (vplace B1 B2 && vplace C1 C2)) && fin .f32 S) = true → fin .f32 (CrL A1 A2 B1 B2) = true) := fun S h => by
    simp only [Bool.and_eq_true] at h
    exact crl_fin h.1.1 h.1.2.1
  have HS := Lib.hid (sSide_c a1 a2 b1 b2 c1 c2 A1 A2 B1 B2 C1 C2 ha1 ha2 hb1 hb2 hc1 hc2)
  obtain ⟨K, hK⟩ : ∃ K, (vplace A1 A2 && (vplace B1 B2 && vplace C1 C2)) = K := ⟨_, rfl⟩
  obtain ⟨S, hS⟩ : ∃ S, SideV A1 A2 B1 B2 C1 C2 = S := ⟨_, rfl⟩
  obtain ⟨L, hL⟩ : ∃ L, CrL A1 A2 B1 B2 = L := ⟨_, rfl⟩
  rw [hK, hS] at HS
  rw [hK, hS, hL]
  rw [hK, hL] at hcrl
  have HC := Lib.hid (hcrl S)
  have HL := Lib.hid hL
  clear hcrl hK hS hL
  go_enter Try.func37, Try.ntmps37
  go_upto_region 2 with (go_at_call 28; ((with_reducible refine (HS.out _).mono ?_); rintro e w1 ⟨⟨v, rfl, ⟨p, q, rfl, ⟨s, rfl, hs, hsw⟩, rfl⟩⟩, hb⟩); have hu2 : ∀ n : Nat, n < n + 1 + 1 := (fun n => by omega); have hu3 : ∀ n : Nat, n < n + 1 + 1 + 1 := (fun n => by omega); obtain ⟨hc, hfz⟩ := bcell hb; (try simp only [World.heap_drewN] at hc hfz); have hs_ := hb.size; (try simp at hs_); (try have hz0 : w.heap.size < w1.heap.size := (by omega)); (try have hz1 : w.heap.size + 1 < w1.heap.size := (by omega)); (try have hz2 : w.heap.size + 2 < w1.heap.size := (by omega)); (try have hz3 : w.heap.size + 3 < w1.heap.size := (by omega)); (try have hza : wa.heap.size < w1.heap.size := (by omega)); (try have hza1 : wa.heap.size + 1 < w1.heap.size := (by omega)); (try have hzb : wb.heap.size < w1.heap.size := (by omega)); (try have hzb1 : wb.heap.size + 1 < w1.heap.size := (by omega)); (try have hzc : wc.heap.size < w1.heap.size := (by omega)); (try have hzd : wd.heap.size < w1.heap.size := (by omega)))
  (apply region_looseK (k := 6); (kernel_rfl); (kernel_rfl); intro opsL KL hopsL hKL; (dsimp only [List.take]))
  repeat (first | (apply rel_call; (rfl); (intro wq hbq; have hcq := (bcell hbq).1; (go_simp; first | done | rfl | exact ⟨rfl, rfl⟩)); (intro wq hbq; exact l02Way_c _ _ _ _ (by assumption) (by assumption) _); (try go_simp); rintro v ⟨x1, x2, x3, rfl, ⟨hx1, hx2, hx3⟩, hw1, hw2, hw3⟩) | (apply rel_call; (rfl); (intro wq hbq; have hcq := (bcell hbq).1; (go_simp; first | done | rfl | exact ⟨rfl, rfl⟩)); (intro wq hbq; exact sCross_c _ _ _ _ _ _ _ _ _ _ _ _ (by assumption) (by assumption) (by assumption) (by assumption) (by assumption) (by assumption) _); (try go_simp); rintro v ⟨x1, x2, x3, rfl, ⟨hx1, hx2, hx3⟩, hw1, hw2, hw3⟩) | (apply rel_call; (rfl); (intro wq hbq; have hcq := (bcell hbq).1; (go_simp; first | done | rfl | exact ⟨rfl, rfl⟩)); (intro wq hbq; exact sLong_c _ _ _ _ _ _ (by assumption) (by assumption) (by assumption) _); (try go_simp); rintro v ⟨r, rfl, hr, hw⟩) | (apply rel_val; (rfl); (intro wq hbq; have hcq := (bcell hbq).1; (go_simp; first | done | rfl | exact ⟨rfl, rfl⟩)); (try go_simp)))
  (refine wpRel_nil ?_; refine hKL _ _ ?_; clear hKL hopsL opsL KL; intro w1 hb hnews; obtain ⟨hc, hfz⟩ := bcell hb; (try simp only [World.heap_drewN] at hc hfz); have hz := hb.size; (dsimp only [List.drop]))
  have hrL : cn .f32 r = CrL A1 A2 B1 B2 := hr
  rw [HL.out] at hrL
  clear hr
  cases hk : (K && fin .f32 S)
  · go_wp2
    go_ret2
    refine ⟨⟨_, rfl, ?_⟩, by (with_reducible repeat (first | exact Below.refl _ _ | apply below_alloc | apply below_dN | apply below_d | refine below_setCell ?_ (by dsimp only; omega) | refine below_call (by assumption) ?_))⟩
    rw [hk]
    exact ⟨_, _, rfl, ⟨0, rfl, by simp [gd], okf_of (by decide)⟩, rfl⟩
  · have hf := HC.out hk
    cases hg : fgt .f32 L 0
    · go_wp2_with (go_at_call 80; ((with_reducible refine (l02Above_c _ _ hrL _).mono ?_); rintro e w1 ⟨⟨v, rfl, rfl⟩, hb⟩))
      go_ret2
      refine ⟨⟨_, rfl, ?_⟩, by (with_reducible repeat (first | exact Below.refl _ _ | apply below_alloc | apply below_dN | apply below_d | refine below_setCell ?_ (by dsimp only; omega) | refine below_call (by assumption) ?_))⟩
      rw [hk, hg]
      exact ⟨_, _, rfl, ⟨0, rfl, by simp [gd], okf_of (by decide)⟩, rfl⟩
    · cases hm : flt .f32 (fop .sub .f32 1065353216 (fop .mul .f32 (fop .quo .f32 S L) (fop .quo .f32 S L))) 0
      all_goals
        have hgd : gd (K && fin .f32 S) S = S := by rw [hk]; rfl
        rw [hgd] at hs
        clear hgd
        go_wp2_with (first | (refine wpL_farith rfl _ _ _ _ _ rfl rfl _ _ _ rfl rfl ?_; intro r n hr hw) | (go_at_call 80; ((with_reducible refine (l02Above_c _ _ hrL _).mono ?_); rintro e w1 ⟨⟨v, rfl, rfl⟩, hb⟩)) | (go_at_call 82; ((with_reducible refine (sRoot_c _ _ rfl _).mono ?_); rintro e w1 ⟨⟨v, rfl, r, rfl, hr, hw⟩, hb⟩)) | (go_at_call 81; ((with_reducible refine (sAng_c _ _ _ _ rfl hr _).mono ?_); rintro e w1 ⟨⟨v, rfl, r, rfl, hr, hw⟩, hb⟩); have hr2 : cn .f32 r = OffV S L := (by rw [hr]; simp only [OffV, OffS, lt_Mx0, gd, cnc_1, cnc_0, if_true, *]; try rfl)) | (go_at_call 66; ((with_reducible refine (number_c _ _ hr2 hw _).mono ?_); rintro e w1 ⟨⟨v, rfl, ⟨p, q, rfl, ⟨r', rfl, hr', hw'⟩, rfl⟩⟩, hb⟩); have hu2 : ∀ n : Nat, n < n + 1 + 1 := (fun n => by omega); have hu3 : ∀ n : Nat, n < n + 1 + 1 + 1 := (fun n => by omega); obtain ⟨hc, hfz⟩ := bcell hb; (try simp only [World.heap_drewN] at hc hfz); have hs_ := hb.size; (try simp at hs_); (try have hz0 : w.heap.size < w1.heap.size := (by omega)); (try have hz1 : w.heap.size + 1 < w1.heap.size := (by omega)); (try have hz2 : w.heap.size + 2 < w1.heap.size := (by omega)); (try have hz3 : w.heap.size + 3 < w1.heap.size := (by omega)); (try have hza : wa.heap.size < w1.heap.size := (by omega)); (try have hza1 : wa.heap.size + 1 < w1.heap.size := (by omega)); (try have hzb : wb.heap.size < w1.heap.size := (by omega)); (try have hzb1 : wb.heap.size + 1 < w1.heap.size := (by omega)); (try have hzc : wc.heap.size < w1.heap.size := (by omega)); (try have hzd : wd.heap.size < w1.heap.size := (by omega))))
        go_ret2
        refine ⟨⟨_, rfl, ?_⟩, by (with_reducible repeat (first | exact Below.refl _ _ | apply below_alloc | apply below_dN | apply below_d | refine below_setCell ?_ (by dsimp only; omega) | refine below_call (by assumption) ?_))⟩
        rw [hk, hg]
        exact ⟨_, _, rfl, ⟨_, rfl, by assumption, by assumption⟩, rfl⟩
end Go.Proofs.Ytiaebemlcjjjhaa
