/- The walk in the law of walks. No condition. -/
import Derived.Test.YtnkfbinppikhkaaWLB
namespace Go.Proofs.Ytnkfbinppikhkaa
open Go.RowKit Go.Deep
set_option linter.unusedSimpArgs false
set_option linter.unusedVariables false
set_option maxRecDepth 100000 in
set_option maxHeartbeats 16000000 in
theorem wlA {u0 u2 u3 u4 u8 u10 u11 u12 u13 u14 u15 u16 u17 u18 u19 u20 u21 u22 u23 u24 u25 u26 u27 u28 u29 u30 u31 u32 u33 u34 u35 u36 u37 u38 u39 u40 u41 u42 u43 u44 u45 u46 u47 u48 u49 u50 u51 u52 u53 u54 u55 u56 u57 u58 u59 u60 u61 u62 u63 u64 u65 u66 u67 u68 u69 u70 u71 u72 u73 u74 u75 u76 u77 u78 u79 u80 u81 u82 u83 u84 u85 u86 u87 u88 u89 u90 u91 u92 u93 u94 u95 u96 u97 u98 u99 u100 u101 u102 u103 u104 u105 u106 u107 u108 u109 u110 u111 u112 u113 u114 u115 u116 u117 u118 u119 u120 u121 u122 u123 u124 u125 u126 u127 u128 u129 u130 u131 u132 u133 u134 u135 u136 u137 u138 u139 u140 u141 u142 u143 u144 u145 u146 u147 u148 u149 u150 u151 u152 u153 u154 u155 u156 u157 u158 u159 u160 u161 u162 u163 u164 u165 u166 u167 u168 u169 u170 u171 u172 u173 u174 u175 u176 u177 u178 u179 u180 u181 u182 u183 u184 u185 u186 u187 u188 u189 u190 u191 u192 u193 u194 u195 u196 u197 u198 : Value} {A' Am Al Aw : Option Addr} {nb' c' n cm cl cw : Nat} {a b : Nat → Int} {W w : World} (hBW : Below W.heap.size W w) (hX : CxArg w Am n (fun j => qz (a j)) (fun j => qz (b j))) (hL : LgArg w Al (n - 1) (lT a b) (lL a b)) (hS : CxArg w Aw n (wX a b) (wY a b)) (hM : Mk n a b)
    (hA1 : ∀ w', Below W.heap.size W w' → Calls Try.prog 5 #[.slice A' nb' c', .int .i64 1, .int .i64 33] w' (fun e w'' => ∃ r : Nat, r < 33 ∧ e = .returned (.int .i64 (r : Int)) ∧ w' = w''))
    (hA2 : ∀ w', Below W.heap.size W w' → Calls Try.prog 5 #[.slice A' nb' c', .int .i64 2, .int .i64 33] w' (fun e w'' => ∃ r : Nat, r < 33 ∧ e = .returned (.int .i64 (r : Int)) ∧ w' = w'')) :
    (seqAt 7 (bodyOf Try.f3)).wp Try.prog (QW W) { tmps := #[u0, .slice A' nb' c', u2, u3, u4, .int .i64 (n : Int), .slice Am n cm, .slice Al (n - 1) cl, u8, .slice Aw n cw, u10, u11, u12, u13, u14, u15, u16, u17, u18, u19, u20, u21, u22, u23, u24, u25, u26, u27, u28, u29, u30, u31, u32, u33, u34, u35, u36, u37, u38, u39, u40, u41, u42, u43, u44, u45, u46, u47, u48, u49, u50, u51, u52, u53, u54, u55, u56, u57, u58, u59, u60, u61, u62, u63, u64, u65, u66, u67, u68, u69, u70, u71, u72, u73, u74, u75, u76, u77, u78, u79, u80, u81, u82, u83, u84, u85, u86, u87, u88, u89, u90, u91, u92, u93, u94, u95, u96, u97, u98, u99, u100, u101, u102, u103, u104, u105, u106, u107, u108, u109, u110, u111, u112, u113, u114, u115, u116, u117, u118, u119, u120, u121, u122, u123, u124, u125, u126, u127, u128, u129, u130, u131, u132, u133, u134, u135, u136, u137, u138, u139, u140, u141, u142, u143, u144, u145, u146, u147, u148, u149, u150, u151, u152, u153, u154, u155, u156, u157, u158, u159, u160, u161, u162, u163, u164, u165, u166, u167, u168, u169, u170, u171, u172, u173, u174, u175, u176, u177, u178, u179, u180, u181, u182, u183, u184, u185, u186, u187, u188, u189, u190, u191, u192, u193, u194, u195, u196, u197, u198], defers := [] } w := by
  have HX := Lib.hid hX
  have HL := Lib.hid hL
  have HM := Lib.hid hM
  have HS := Lib.hid hS
  have HA1 := Lib.hid hA1
  have HA2 := Lib.hid hA2
  have HBW := Lib.hid hBW
  have hWs := hBW.size
  have h2 := hM.n2
  have h9 := hM.n9
  have f1 : cn .f64 4607182418800017408 = 4607182418800017408 := by decide +kernel
  have f2 : cn .f64 4562254508917369340 = 4562254508917369340 := by decide +kernel
  have f3 : cn .f64 (fofI .f64 (n : Int)) = fofI .f64 (n : Int) := cn_fofI _ _
  clear hX hL hM hA1 hA2 hBW hS
  dsimp only [seqAt, bodyOf, Try.f3]
  unfold QW
  apply wp_seq_k
  intro K1 hK1
  have HK1 := Lib.hid hK1
  clear hK1
  go_wp2
  go_loopw [72] (fun k wr => ∃ m : Nat, m ≤ n ∧ k = .int .i64 (m : Int) ∧ Below w.heap.size w wr) (fun k _ => n - (intOf k).toNat)
  case atStart => exact ⟨0, by omega, rfl, Below.refl _ _⟩
  case round =>
    rename World => wO
    obtain ⟨m, hm, rfl, hB⟩ := hrel
    have HBO := Lib.hid hB
    have hsO := hB.size
    by_cases hlt : m < n
    · have hlt' : (m : Int) < (n : Int) := by omega
      have hm0 : (0 : Int) ≤ (m : Int) := by omega
      obtain ⟨g1, rfl, hg1, x1, y1, c0, hx1, hy1⟩ := HX.out.below hB m hlt
      obtain ⟨g2, rfl, hg2, x2, y2, d0, hx2, hy2⟩ := HS.out.below hB m hlt
      obtain ⟨k1, k2⟩ := w_small HM.out hlt
      obtain ⟨k3, k4⟩ := lng_small k1 k2
      have HK3 := Lib.hid k3
      have HK5 := Lib.hid (fgt_lim k4 h9)
      clear hB k1 k2 k3 k4
      go_upto_region 12 with fail
      (apply region_looseK (k := 16); (kernel_rfl); (kernel_rfl); intro opsL KL hopsL hKL; (dsimp only [List.take]))
      iterate 8 (apply rel_val; (rfl); (intro wq hbq; have hcq := (bcell hbq).1; (go_simp; first | done | rfl | exact ⟨rfl, rfl⟩)); (try go_simp))
      (apply rel_csub; (rfl); (rfl); (rfl); (rfl); (exact hx2); (exact hy2); (exact hx1); (exact hy1); intro ex ey hex hey oex oey; (try go_simp))
      (apply rel_call (RF .f32 (lng (fop .sub .f32 (wX a b m) (qz (a m))) (fop .sub .f32 (wY a b m) (qz (b m))))); (rfl); (intro wq hbq; (go_simp; first | done | rfl | exact ⟨rfl, rfl⟩)); (intro wq hbq; exact sLongOf_c _ _ _ _ hex hey HK3.out _); (try go_simp))
      rintro v ⟨lr, rfl, hlr, hlo⟩
      (apply rel_fconv (k := .f32) (k' := .f64); (rfl); (rfl); (rfl); (decide); (exact Try.underlying36); (exact Try.underlying35); (exact hlr); (exact fits_wide _); intro r1 hr1 hw1; (try go_simp))
      iterate 2 (apply rel_val; (rfl); (intro wq hbq; have hcq := (bcell hbq).1; (go_simp; first | done | rfl | exact ⟨rfl, rfl⟩)); (try go_simp))
      (apply rel_farith; (rfl); (rfl); (rfl); (rfl); (rfl); (exact f1); (exact f3); intro r2 hr2 hw2; (try go_simp))
      (apply rel_farith; (rfl); (rfl); (rfl); (rfl); (rfl); (exact f2); (exact hr2); intro r3 hr3 hw3; (try go_simp))
      have hgt : fgt .f64 (cn .f64 r1) (cn .f64 r3) = false := by rw [hr1, hr3]; exact HK5.out
      clear hr1 hr2 hr3
      (apply rel_val; (rfl); (intro wq hbq; have hcq := (bcell hbq).1; (go_simp; first | done | rfl | exact ⟨rfl, rfl⟩)); (try go_simp))
      (refine wpRel_nil ?_; refine hKL _ _ ?_; clear hKL hopsL opsL KL; intro w1 hb hnews; obtain ⟨hc, hfz⟩ := bcell hb; (try simp only [World.heap_drewN] at hc hfz); have hz := hb.size; (dsimp only [List.drop]))
      have HB2 := Lib.hid (HBO.out.trans (hb.mono hsO))
      clear hb hc hfz
      go_wp2
      exact ⟨⟨m + 1, by omega, by go_num, HB2.out⟩, by first | (simp [intOf]; done) | (simp [intOf]; omega)⟩
    · obtain rfl : m = n := by omega
      have hlt' : ¬ ((m : Int) < (m : Int)) := by omega
      clear hB
      go_wp2
      refine HK1.out _ _ ?_
      exact wlB (HBW.out.trans (HBO.out.mono hWs)) (HX.out.below HBO.out) (HL.out.below HBO.out) HM.out HA1.out HA2.out
end Go.Proofs.Ytnkfbinppikhkaa
