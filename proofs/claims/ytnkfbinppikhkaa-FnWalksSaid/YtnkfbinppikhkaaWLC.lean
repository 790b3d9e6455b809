/- The closed walks of the law of walks. No condition. -/
import Derived.Test.YtnkfbinppikhkaaWLD
namespace Go.Proofs.Ytnkfbinppikhkaa
open Go.RowKit Go.Deep
set_option linter.unusedSimpArgs false
set_option linter.unusedVariables false
set_option maxRecDepth 100000 in
set_option maxHeartbeats 16000000 in
theorem wlC {u0 u2 u3 u4 u7 u8 u9 u10 u11 u12 u13 u14 u15 u16 u17 u18 u19 u20 u21 u22 u23 u24 u25 u26 u27 u28 u29 u30 u31 u32 u33 u34 u35 u36 u37 u38 u39 u40 u41 u42 u43 u44 u45 u46 u47 u48 u49 u50 u51 u52 u53 u54 u55 u56 u57 u58 u59 u60 u61 u62 u63 u64 u65 u66 u67 u68 u69 u70 u71 u72 u73 u74 u75 u76 u77 u78 u79 u80 u81 u82 u83 u84 u85 u86 u87 u88 u89 u90 u91 u92 u93 u94 u95 u96 u97 u98 u99 u100 u101 u102 u103 u104 u105 u106 u107 u108 u109 u110 u111 u112 u113 u114 u115 u116 u117 u118 u119 u120 u121 u122 u123 u124 u125 u126 u127 u128 u129 u130 u131 u132 u133 u134 u135 u136 u137 u138 u139 u140 u141 u142 u143 u144 u145 u146 u147 u148 u149 u150 u151 u152 u153 u154 u155 u156 u157 u158 u159 u160 u161 u162 u163 u164 u165 u166 u167 u168 u169 u170 u171 u172 u173 u174 u175 u176 u177 u178 u179 u180 u181 u182 u183 u184 u185 u186 u187 u188 u189 u190 u191 u192 u193 u194 u195 u196 u197 u198 : Value} {A' Am : Option Addr} {nb' c' n cm : Nat} {a b : Nat → Int} {W w : World} (hBW : Below W.heap.size W w) (hX : CxArg w Am n (fun j => qz (a j)) (fun j => qz (b j))) (hM : Mk n a b)
    (hA1 : ∀ w', Below W.heap.size W w' → Calls Try.prog 5 #[.slice A' nb' c', .int .i64 1, .int .i64 33] w' (fun e w'' => ∃ r : Nat, r < 33 ∧ e = .returned (.int .i64 (r : Int)) ∧ w' = w''))
    (hA2 : ∀ w', Below W.heap.size W w' → Calls Try.prog 5 #[.slice A' nb' c', .int .i64 2, .int .i64 33] w' (fun e w'' => ∃ r : Nat, r < 33 ∧ e = .returned (.int .i64 (r : Int)) ∧ w' = w'')) :
    (seqAt 9 (bodyOf Try.f3)).wp Try.prog (QW W) { tmps := #[u0, .slice A' nb' c', u2, u3, u4, .int .i64 (n : Int), .slice Am n cm, u7, u8, u9, u10, u11, u12, u13, u14, u15, u16, u17, u18, u19, u20, u21, u22, u23, u24, u25, u26, u27, u28, u29, u30, u31, u32, u33, u34, u35, u36, u37, u38, u39, u40, u41, u42, u43, u44, u45, u46, u47, u48, u49, u50, u51, u52, u53, u54, u55, u56, u57, u58, u59, u60, u61, u62, u63, u64, u65, u66, u67, u68, u69, u70, u71, u72, u73, u74, u75, u76, u77, u78, u79, u80, u81, u82, u83, u84, u85, u86, u87, u88, u89, u90, u91, u92, u93, u94, u95, u96, u97, u98, u99, u100, u101, u102, u103, u104, u105, u106, u107, u108, u109, u110, u111, u112, u113, u114, u115, u116, u117, u118, u119, u120, u121, u122, u123, u124, u125, u126, u127, u128, u129, u130, u131, u132, u133, u134, u135, u136, u137, u138, u139, u140, u141, u142, u143, u144, u145, u146, u147, u148, u149, u150, u151, u152, u153, u154, u155, u156, u157, u158, u159, u160, u161, u162, u163, u164, u165, u166, u167, u168, u169, u170, u171, u172, u173, u174, u175, u176, u177, u178, u179, u180, u181, u182, u183, u184, u185, u186, u187, u188, u189, u190, u191, u192, u193, u194, u195, u196, u197, u198], defers := [] } w := by
  have HX := Lib.hid hX
  have HM := Lib.hid hM
  have HA1 := Lib.hid hA1
  have HA2 := Lib.hid hA2
  have HBW := Lib.hid hBW
  have hWs := hBW.size
  have h2 := hM.n2
  have h9 := hM.n9
  clear hX hM hA1 hA2 hBW
  dsimp only [seqAt, bodyOf, Try.f3]
  unfold QW
  apply wp_seq_k
  intro K1 hK1
  have HK1 := Lib.hid hK1
  clear hK1
  go_wp2_with (first | (refine wpL_farith rfl _ _ _ _ _ rfl rfl _ _ _ rfl rfl ?_; intro x nx hx hwx) | (go_at_call 5; ((with_reducible refine (HA1.out _ HBW.out).mono ?_); rintro e w' ⟨r1, hr1, rfl, rfl⟩)) | (go_at_call 5; ((with_reducible refine (HA2.out _ (below_dN HBW.out)).mono ?_); rintro e w' ⟨r2, hr2, rfl, rfl⟩)))
  rename_i x0 nx0 hx0 hwx0
  have hx1 : cn .f32 x0 = qz ((r1 : Int) - 16) := hx0.trans (by simp [qz])
  have hy1 : cn .f32 x = qz ((r2 : Int) - 16) := hx.trans (by simp [qz])
  clear hx0 hx
  obtain ⟨z1, hz1⟩ : ∃ z1, (r1 : Int) - 16 = z1 := ⟨_, rfl⟩
  obtain ⟨z2, hz2⟩ : ∃ z2, (r2 : Int) - 16 = z2 := ⟨_, rfl⟩
  rw [hz1] at hx1
  rw [hz2] at hy1
  have g1 : -16 ≤ z1 := by omega
  have g2 : z1 ≤ 36 := by omega
  have g3 : -16 ≤ z2 := by omega
  have g4 : z2 ≤ 36 := by omega
  clear hz1 hz2 hr1 hr2
  refine HK1.out _ _ ?_
  apply wp_seq_k
  intro K2 hK2
  have HK2 := Lib.hid hK2
  clear hK2
  refine absw (fun V hV => ?_)
  have hBV0 : Below w.heap.size w V := by rw [hV]; (with_reducible repeat (first | exact Below.refl _ _ | apply below_alloc | apply below_dN | apply below_d | refine below_setCell ?_ (by dsimp only; omega) | refine below_call (by assumption) ?_))
  have HBV := Lib.hid (HBW.out.trans (hBV0.mono hWs))
  have HXV := Lib.hid (HX.out.below hBV0)
  have hVs := HBV.out.size
  have HC1 := Lib.hid (closeWalk_c Am n cm x0 x _ _ a b V HM.out hx1 hy1 HXV.out (qz_finC g1 g2 g3 g4) (cl_all HM.out g1 g2 g3 g4))
  clear hV hBV0
  go_wp2_with (go_at_call 12; ((with_reducible refine (HC1.out).mono ?_); rintro e w3 ⟨A3, c3, rfl, hC3, hb3⟩))
  have HC3 := Lib.hid hC3
  have HB3 := Lib.hid (HBV.out.trans (hb3.mono hVs))
  have HX3 := Lib.hid (HXV.out.below hb3)
  clear hC3 hb3 HC1 HXV HBV
  refine HK2.out _ _ ?_
  apply wp_seq_k
  intro K3 hK3
  have HK3 := Lib.hid hK3
  clear hK3
  obtain ⟨p1, p2, p3, p4⟩ := HM.out.ra (j := n - 1) (by omega)
  obtain ⟨g, rfl, hg, p, q, m0, hp, hq⟩ := HX3.out (n - 1) (by omega)
  have HC2 := Lib.hid (closeWalk_c _ n cm p q _ _ a b w3 HM.out hp hq HX3.out (qz_finC p1 p2 p3 p4) (cl_all HM.out p1 p2 p3 p4))
  have hwr : IntKind.i64.wrap ((n : Int) - 1) = ((n - 1 : Nat) : Int) := by rw [IntKind.wrap_i64]; omega
  have ew : (n : Int) - 1 = ((n - 1 : Nat) : Int) := by omega
  have hwr2 : IntKind.i64.wrap ((n - 1 : Nat) : Int) = ((n - 1 : Nat) : Int) := by rw [IntKind.wrap_i64]; omega
  have hi1 : (0 : Int) ≤ ((n - 1 : Nat) : Int) := by omega
  have hi2 : ((n - 1 : Nat) : Int) < (n : Int) := by omega
  have hi3 : (0 : Int) < (n : Int) := by omega
  have hi4 : 0 < n := by omega
  have hsz3 := HB3.out.size
  clear hp hq p1 p2 p3 p4
  go_wp2_with (go_at_call 12; ((with_reducible refine (HC2.out).mono ?_); rintro e w4 ⟨A4, c4, rfl, hC4, hb4⟩))
  have HC4 := Lib.hid hC4
  have HC3' := Lib.hid (HC3.out.below hb4)
  have HB4 := Lib.hid (HB3.out.trans (hb4.mono hsz3))
  have HX4 := Lib.hid (HX3.out.below hb4)
  have hsz4 := hb4.size
  clear hC4 hb4 HC2 HC3 HX3 m0 hg
  refine HK3.out _ _ ?_
  apply wp_seq_k
  intro K4 hK4
  have HK4 := Lib.hid hK4
  clear hK4
  have HL := Lib.hid (cl_last (c := a) HM.out g1 g2 (fun j hj => ⟨(HM.out.ra hj).1, (HM.out.ra hj).2.1⟩))
  have HL' := Lib.hid (cl_last (c := b) HM.out g3 g4 (fun j hj => ⟨(HM.out.ra hj).2.2.1, (HM.out.ra hj).2.2.2⟩))
  have HF := Lib.hid (cl_first (c := a) HM.out g1 g2 (fun j hj => ⟨(HM.out.ra hj).1, (HM.out.ra hj).2.1⟩))
  have HF' := Lib.hid (cl_first (c := b) HM.out g3 g4 (fun j hj => ⟨(HM.out.ra hj).2.2.1, (HM.out.ra hj).2.2.2⟩))
  obtain ⟨l1, l2⟩ := lng_small HL.out HL'.out
  obtain ⟨l3, l4⟩ := lng_small HF.out HF'.out
  have HG1 := Lib.hid l1
  have HG2 := Lib.hid (fgt_one l2)
  have HG3 := Lib.hid l3
  have HG4 := Lib.hid (fgt_one l4)
  clear l1 l2 l3 l4
  obtain ⟨g3b, rfl, hg3, p3, q3, m3, hp3, hq3⟩ := HC3'.out (n - 1) (by omega)
  obtain ⟨g3c, e3, -, p5, q5, m5, hp5, hq5⟩ := HC3'.out 0 (by omega)
  cases e3
  obtain ⟨gm, em, hgm, p6, q6, m6, hp6, hq6⟩ := HX4.out 0 (by omega)
  cases em
  go_upto_region 24 with fail
  (try simp only [List.append_eq, List.cons_append, List.nil_append])
  (apply region_looseK (k := 42); (kernel_rfl); (kernel_rfl); intro opsL KL hopsL hKL; (dsimp only [List.take]))
  (try simp only [List.append_eq, List.cons_append, List.nil_append])
  (repeat (first | (apply rel_val; (rfl); (intro wq hbq; have hcq := (bcell hbq).1; (go_simp; first | done | rfl | exact ⟨rfl, rfl⟩)); (try go_simp)) | (apply rel_valg; (kernel_rfl); (intro wq hbq; have hcq := (bcell hbq).1; (go_simp; first | done | rfl | exact ⟨rfl, rfl⟩)); (try go_simp))))
  (apply rel_csubg; (rfl); (kernel_rfl); (rfl); (rfl); (exact hp3); (exact hq3); (exact hx1); (exact hy1); intro ex ey hex hey oex oey; (try go_simp))
  (apply rel_callg (RF .f32 (lng _ _)); (kernel_rfl); (intro wq hbq; (go_simp; first | done | rfl | exact ⟨rfl, rfl⟩)); (intro wq hbq; exact sLongOf_c _ _ _ _ hex hey HG1.out _); (try go_simp))
  rintro v ⟨lr, rfl, hlr, hlo⟩
  (apply rel_fconvg (k := .f32) (k' := .f64); (rfl); (kernel_rfl); (rfl); (decide); (exact Try.underlying36); (exact Try.underlying35); (exact hlr); (exact fits_wide _); intro ra hra hwa; (try go_simp))
  have hgt1 : fgt .f64 (cn .f64 ra) 4562254508917369340 = false := by rw [hra]; exact HG2.out
  clear hra hlr hex hey
  (repeat (first | (apply rel_val; (rfl); (intro wq hbq; have hcq := (bcell hbq).1; (go_simp; first | done | rfl | exact ⟨rfl, rfl⟩)); (try go_simp)) | (apply rel_valg; (kernel_rfl); (intro wq hbq; have hcq := (bcell hbq).1; (go_simp; first | done | rfl | exact ⟨rfl, rfl⟩)); (try go_simp))))
  (apply rel_csubg; (rfl); (kernel_rfl); (rfl); (rfl); (exact hp5); (exact hq5); (exact hp6); (exact hq6); intro fx fy hfx hfy ofx ofy; (try go_simp))
  (apply rel_callg (RF .f32 (lng _ _)); (kernel_rfl); (intro wq hbq; (go_simp; first | done | rfl | exact ⟨rfl, rfl⟩)); (intro wq hbq; exact sLongOf_c _ _ _ _ hfx hfy HG3.out _); (try go_simp))
  rintro v ⟨ls, rfl, hls, hlso⟩
  (apply rel_fconvg (k := .f32) (k' := .f64); (rfl); (kernel_rfl); (rfl); (decide); (exact Try.underlying36); (exact Try.underlying35); (exact hls); (exact fits_wide _); intro rb hrb hwb; (try go_simp))
  have hgt2 : fgt .f64 (cn .f64 rb) 4562254508917369340 = false := by rw [hrb]; exact HG4.out
  clear hrb hls hfx hfy
  (repeat (first | (apply rel_val; (rfl); (intro wq hbq; have hcq := (bcell hbq).1; (go_simp; first | done | rfl | exact ⟨rfl, rfl⟩)); (try go_simp)) | (apply rel_valg; (kernel_rfl); (intro wq hbq; have hcq := (bcell hbq).1; (go_simp; first | done | rfl | exact ⟨rfl, rfl⟩)); (try go_simp))))
  (refine wpRel_nil ?_; refine hKL _ _ ?_; clear hKL hopsL opsL KL; intro w1 hb hnews; obtain ⟨hc, hfz⟩ := bcell hb; (try simp only [World.heap_drewN] at hc hfz); have hz := hb.size; (dsimp only [List.drop]))
  have HB5 := Lib.hid (HB4.out.trans (hb.mono HB4.out.size))
  have HX5 := Lib.hid (HX4.out.below hb)
  have HC5 := Lib.hid (HC4.out.below hb)
  clear hb hc hfz
  go_wp2
  refine HK4.out _ _ ?_
  exact wlD HB5.out HX5.out HC5.out (cl_near HM.out) h9
end Go.Proofs.Ytnkfbinppikhkaa
