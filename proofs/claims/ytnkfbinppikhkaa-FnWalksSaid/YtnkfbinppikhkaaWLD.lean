/- The end of the law of walks: a walk that is closed where it ends. No condition. -/
import Derived.Test.YtnkfbinppikhkaaWLK
namespace Go.Proofs.Ytnkfbinppikhkaa
open Go.RowKit Go.Deep
set_option linter.unusedSimpArgs false
set_option linter.unusedVariables false
set_option maxRecDepth 100000 in
set_option maxHeartbeats 16000000 in
theorem wlD {u0 u1 u2 u3 u4 u7 u8 u9 u10 u11 u12 u13 u14 u15 u17 u18 u19 u20 u21 u22 u23 u24 u25 u26 u27 u28 u29 u30 u31 u32 u33 u34 u35 u36 u37 u38 u39 u40 u41 u42 u43 u44 u45 u46 u47 u48 u49 u50 u51 u52 u53 u54 u55 u56 u57 u58 u59 u60 u61 u62 u63 u64 u65 u66 u67 u68 u69 u70 u71 u72 u73 u74 u75 u76 u77 u78 u79 u80 u81 u82 u83 u84 u85 u86 u87 u88 u89 u90 u91 u92 u93 u94 u95 u96 u97 u98 u99 u100 u101 u102 u103 u104 u105 u106 u107 u108 u109 u110 u111 u112 u113 u114 u115 u116 u117 u118 u119 u120 u121 u122 u123 u124 u125 u126 u127 u128 u129 u130 u131 u132 u133 u134 u135 u136 u137 u138 u139 u140 u141 u142 u143 u144 u145 u146 u147 u148 u149 u150 u151 u152 u153 u154 u155 u156 u157 u158 u159 u160 u161 u162 u163 u164 u165 u166 u167 u168 u169 u170 u171 u172 u173 u174 u175 u176 u177 u178 u179 u180 u181 u182 u183 u184 u185 u186 u187 u188 u189 u190 u191 u192 u193 u194 u195 u196 u197 u198 : Value} {Am As : Option Addr} {n cm cs : Nat} {a b : Nat → Int} {X Y : Nat → Nat} {W w : World} (hBW : Below W.heap.size W w) (hX : CxArg w Am n (fun j => qz (a j)) (fun j => qz (b j))) (hS : CxArg w As n X Y) (hN : Near n X Y a b) (h9 : n ≤ 9) :
    (seqAt 13 (bodyOf Try.f3)).wp Try.prog (QW W) { tmps := #[u0, u1, u2, u3, u4, .int .i64 (n : Int), .slice Am n cm, u7, u8, u9, u10, u11, u12, u13, u14, u15, .slice As n cs, u17, u18, u19, u20, u21, u22, u23, u24, u25, u26, u27, u28, u29, u30, u31, u32, u33, u34, u35, u36, u37, u38, u39, u40, u41, u42, u43, u44, u45, u46, u47, u48, u49, u50, u51, u52, u53, u54, u55, u56, u57, u58, u59, u60, u61, u62, u63, u64, u65, u66, u67, u68, u69, u70, u71, u72, u73, u74, u75, u76, u77, u78, u79, u80, u81, u82, u83, u84, u85, u86, u87, u88, u89, u90, u91, u92, u93, u94, u95, u96, u97, u98, u99, u100, u101, u102, u103, u104, u105, u106, u107, u108, u109, u110, u111, u112, u113, u114, u115, u116, u117, u118, u119, u120, u121, u122, u123, u124, u125, u126, u127, u128, u129, u130, u131, u132, u133, u134, u135, u136, u137, u138, u139, u140, u141, u142, u143, u144, u145, u146, u147, u148, u149, u150, u151, u152, u153, u154, u155, u156, u157, u158, u159, u160, u161, u162, u163, u164, u165, u166, u167, u168, u169, u170, u171, u172, u173, u174, u175, u176, u177, u178, u179, u180, u181, u182, u183, u184, u185, u186, u187, u188, u189, u190, u191, u192, u193, u194, u195, u196, u197, u198], defers := [] } w := by
  have HX := Lib.hid hX
  have HS := Lib.hid hS
  have HN := Lib.hid hN
  have HBW := Lib.hid hBW
  have hWs := hBW.size
  have f2 : cn .f64 4562254508917369340 = 4562254508917369340 := by decide +kernel
  clear hX hS hN hBW
  dsimp only [seqAt, bodyOf, Try.f3]
  unfold QW
  go_wp2
  go_loopw [183] (fun k wr => ∃ m : Nat, m ≤ n ∧ k = .int .i64 (m : Int) ∧ Below w.heap.size w wr) (fun k _ => n - (intOf k).toNat)
  case atStart => exact ⟨0, by omega, rfl, Below.refl _ _⟩
  case round =>
    rename World => wO
    obtain ⟨m, hm, rfl, hB⟩ := hrel
    have HBO := Lib.hid hB
    have hsO := hB.size
    by_cases hlt : m < n
    · have hlt' : (m : Int) < (n : Int) := by omega
      have hm0 : (0 : Int) ≤ (m : Int) := by omega
      obtain ⟨g1, rfl, hg1, x1, y1, c0, hx1, hy1⟩ := HX.out.below hB m hlt
      obtain ⟨g2, rfl, hg2, x2, y2, d0, hx2, hy2⟩ := HS.out.below hB m hlt
      obtain ⟨k1, k2⟩ := HN.out m hlt
      obtain ⟨k3, k4⟩ := lng_small k1 k2
      have HK3 := Lib.hid k3
      have HK5 := Lib.hid (fgt_one k4)
      clear hB k1 k2 k3 k4
      go_upto_region 29 with fail
      (apply region_looseK (k := 12); (kernel_rfl); (kernel_rfl); intro opsL KL hopsL hKL; (dsimp only [List.take]))
      iterate 8 (apply rel_val; (rfl); (intro wq hbq; have hcq := (bcell hbq).1; (go_simp; first | done | rfl | exact ⟨rfl, rfl⟩)); (try go_simp))
      (apply rel_csub; (rfl); (rfl); (rfl); (rfl); (exact hx2); (exact hy2); (exact hx1); (exact hy1); intro ex ey hex hey oex oey; (try go_simp))
      (apply rel_call (RF .f32 (lng (fop .sub .f32 (X m) (qz (a m))) (fop .sub .f32 (Y m) (qz (b m))))); (rfl); (intro wq hbq; (go_simp; first | done | rfl | exact ⟨rfl, rfl⟩)); (intro wq hbq; exact sLongOf_c _ _ _ _ hex hey HK3.out _); (try go_simp))
      rintro v ⟨lr, rfl, hlr, hlo⟩
      (apply rel_fconv (k := .f32) (k' := .f64); (rfl); (rfl); (rfl); (decide); (exact Try.underlying36); (exact Try.underlying35); (exact hlr); (exact fits_wide _); intro r1 hr1 hw1; (try go_simp))
      have hgt : fgt .f64 (cn .f64 r1) 4562254508917369340 = false := by rw [hr1]; exact HK5.out
      clear hr1
      (apply rel_val; (rfl); (intro wq hbq; have hcq := (bcell hbq).1; (go_simp; first | done | rfl | exact ⟨rfl, rfl⟩)); (try go_simp))
      (refine wpRel_nil ?_; refine hKL _ _ ?_; clear hKL hopsL opsL KL; intro w1 hb hnews; obtain ⟨hc, hfz⟩ := bcell hb; (try simp only [World.heap_drewN] at hc hfz); have hz := hb.size; (dsimp only [List.drop]))
      have HB2 := Lib.hid (HBO.out.trans (hb.mono hsO))
      clear hb hc hfz
      go_wp2
      exact ⟨⟨m + 1, by omega, by go_num, HB2.out⟩, by first | (simp [intOf]; done) | (simp [intOf]; omega)⟩
    · obtain rfl : m = n := by omega
      have hlt' : ¬ ((m : Int) < (m : Int)) := by omega
      clear hB
      go_wp2
      go_ret
      exact ⟨rfl, HBW.out.trans (HBO.out.mono hWs)⟩
end Go.Proofs.Ytnkfbinppikhkaa
