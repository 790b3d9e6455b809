/- The end of the law of Routes: what can be reached. No condition. -/
import Derived.Test.YtpmeccjfjjklkaaRtK
namespace Go.Proofs.Ytpmeccjfjjklkaa
open Go.RowKit Go.IntWalk
set_option linter.unusedSimpArgs false
set_option linter.unusedVariables false
set_option maxRecDepth 100000 in
set_option maxHeartbeats 16000000 in
theorem chD {u0 u2 u3 u4 u6 u8 u10 u11 u12 u13 u14 u15 u16 u17 u18 u19 u20 u21 u22 u23 u24 u25 u26 u27 u28 u29 u30 u31 u32 u33 u34 u35 u36 u37 u38 u39 u40 u41 u42 u43 u44 u45 u46 u47 u48 u49 u50 u51 u52 u53 u54 u55 u56 u57 u58 u59 u60 u61 u62 u63 u64 u65 u66 u67 u68 u69 u70 u71 u72 u73 u74 u75 u76 u77 u78 u79 u80 u81 u82 u83 u84 u85 u86 u87 u88 u89 u90 u91 u92 u93 u94 u95 u96 u97 u98 u99 u100 u101 u102 u103 u104 u105 u106 u107 u108 u109 u110 u111 u112 u113 u114 u115 u116 u117 u118 u119 u120 u121 u122 u123 u124 u125 u126 u127 u128 u129 u130 u131 u132 u133 u134 u135 u136 u137 u138 u139 u140 u141 u142 u143 u144 u145 u146 u147 u148 u149 u150 u151 u152 u153 u154 u155 u156 u157 u158 u159 u160 u161 u162 u163 u164 u165 u166 u167 u168 u169 u170 u171 u172 u173 u174 u175 u176 u177 u178 u179 u180 u181 u182 u183 u184 u185 u186 u187 u188 u189 u190 u191 u192 u193 u194 u195 u196 u197 u198 u199 u200 u201 u202 u203 u204 u205 u206 u207 u208 u209 u210 u211 u212 u213 u214 u215 u216 u217 u218 u219 u220 u221 u222 u223 u224 u225 u226 u227 u228 u229 u230 u231 u232 u233 u234 u235 u236 u237 u238 u239 u240 u241 u242 u243 u244 u245 u246 u247 u248 u249 u250 u251 u252 u253 u254 u255 u256 u257 u258 u259 u260 u261 u262 u263 u264 u265 u266 u267 u268 u269 u270 u271 u272 u273 u274 u275 u276 u277 u278 u279 u280 u281 u282 u283 u284 u285 u286 u287 u288 u289 u290 u291 u292 u293 u294 u295 u296 u297 u298 u299 u300 u301 u302 u303 u304 u305 u306 u307 u308 u309 u310 u311 u312 u313 u314 u315 u316 u317 u318 u319 u320 u321 u322 u323 u324 u325 u326 u327 u328 u329 u330 u331 u332 u333 u334 u335 u336 u337 u338 u339 u340 u341 u342 u343 u344 u345 u346 u347 u348 u349 : Value} {A' NA : Option Addr} {k0 c' cN g n cg m ch p b1 c1 : Nat} {D : Nat → Int} {W w : World} (hBW : Below W.heap.size W w) (hN : ntc w cN (.slice (some ⟨g, 0, none⟩) n cg) (.slice NA m ch)) (hD1 : Dr w b1 n c1 D) (hn : n ≤ 6) (hp : p < n)
    (hRO : ∀ most : Nat, most ≤ 100 → ∀ w', Below w.heap.size w w' → Calls Try.prog 33 #[.agg #[.slice (some ⟨g, 0, none⟩) n cg, .slice NA m ch], .int .i64 (p : Int), .int .i64 (most : Int)] w' (ROd n D most w'))
    (hA3 : ∀ w', Below W.heap.size W w' → Calls Try.prog 44 #[.slice A' k0 c', .int .i64 3, .int .i64 20] w' (fun e w'' => ∃ r : Nat, r < 20 ∧ e = .returned (.int .i64 (r : Int)) ∧ w' = w'')) :
    (seqAt 13 (bodyOf Try.f9)).wp Try.prog (QL W) { tmps := #[u0, .slice A' k0 c', u2, u3, u4, .pointer (some ⟨cN, 0, none⟩), u6, .int .i64 (p : Int), u8, .slice (some ⟨b1, 0, none⟩) n c1, u10, u11, u12, u13, u14, u15, u16, u17, u18, u19, u20, u21, u22, u23, u24, u25, u26, u27, u28, u29, u30, u31, u32, u33, u34, u35, u36, u37, u38, u39, u40, u41, u42, u43, u44, u45, u46, u47, u48, u49, u50, u51, u52, u53, u54, u55, u56, u57, u58, u59, u60, u61, u62, u63, u64, u65, u66, u67, u68, u69, u70, u71, u72, u73, u74, u75, u76, u77, u78, u79, u80, u81, u82, u83, u84, u85, u86, u87, u88, u89, u90, u91, u92, u93, u94, u95, u96, u97, u98, u99, u100, u101, u102, u103, u104, u105, u106, u107, u108, u109, u110, u111, u112, u113, u114, u115, u116, u117, u118, u119, u120, u121, u122, u123, u124, u125, u126, u127, u128, u129, u130, u131, u132, u133, u134, u135, u136, u137, u138, u139, u140, u141, u142, u143, u144, u145, u146, u147, u148, u149, u150, u151, u152, u153, u154, u155, u156, u157, u158, u159, u160, u161, u162, u163, u164, u165, u166, u167, u168, u169, u170, u171, u172, u173, u174, u175, u176, u177, u178, u179, u180, u181, u182, u183, u184, u185, u186, u187, u188, u189, u190, u191, u192, u193, u194, u195, u196, u197, u198, u199, u200, u201, u202, u203, u204, u205, u206, u207, u208, u209, u210, u211, u212, u213, u214, u215, u216, u217, u218, u219, u220, u221, u222, u223, u224, u225, u226, u227, u228, u229, u230, u231, u232, u233, u234, u235, u236, u237, u238, u239, u240, u241, u242, u243, u244, u245, u246, u247, u248, u249, u250, u251, u252, u253, u254, u255, u256, u257, u258, u259, u260, u261, u262, u263, u264, u265, u266, u267, u268, u269, u270, u271, u272, u273, u274, u275, u276, u277, u278, u279, u280, u281, u282, u283, u284, u285, u286, u287, u288, u289, u290, u291, u292, u293, u294, u295, u296, u297, u298, u299, u300, u301, u302, u303, u304, u305, u306, u307, u308, u309, u310, u311, u312, u313, u314, u315, u316, u317, u318, u319, u320, u321, u322, u323, u324, u325, u326, u327, u328, u329, u330, u331, u332, u333, u334, u335, u336, u337, u338, u339, u340, u341, u342, u343, u344, u345, u346, u347, u348, u349], defers := [] } w := by
  have HRO := Lib.hid hRO
  have HA3 := Lib.hid hA3
  have HBW := Lib.hid hBW
  have HD1 := Lib.hid hD1
  have hWs := hBW.size
  clear hRO hA3 hBW hD1
  unfold QL
  dsimp only [seqAt, bodyOf, Try.f9]
  have g0 := hN.c0
  have g1 := hN.c1
  have gl := hN.lt
  go_upto_region 43 with (go_at_call 44; (with_reducible refine (HA3.out _ HBW.out).mono ?_); rintro e w' ⟨r3, hr3, rfl, rfl⟩)
  go_upto_region 47 with (go_at_call 33; (with_reducible refine (HRO.out r3 (by omega) _ (Below.refl _ _)).mono ?_); rintro e w2 ⟨b5, c5, rfl, hRc, hb2⟩)
  have hB2 := HBW.out.trans (hb2.mono hWs)
  have HD2 := Lib.hid (HD1.out.below hb2)
  have HB2 := Lib.hid hB2
  have HRc := Lib.hid hRc
  have hb2s := hb2.size
  clear g0 g1 gl hN hRc hb2 hB2
  have hlen := pkL_len (roP D (r3 : Int)) n
  obtain ⟨N, hN⟩ : ∃ N, (pkL (roP D (r3 : Int)) n).length = N := ⟨_, rfl⟩
  have hpre := pkL_pre (roP D (r3 : Int))
  obtain ⟨PP, hPP⟩ : ∃ PP, roP D (r3 : Int) = PP := ⟨_, rfl⟩
  rw [hPP] at hlen hN hpre
  simp only [hPP, hN] at HRc ⊢
  have hPd : ∀ i, PP i = (decide (0 ≤ D i) && decide (D i ≤ (r3 : Int))) := fun i => by rw [← hPP]; rfl
  have HPd := Lib.hid hPd
  have HPre := Lib.hid hpre
  have HNl := Lib.hid hN
  rw [hN] at hlen
  clear hPP hPd hpre hN
  go_wp2
  go_loopw [30, 315] (fun at' iv wr => ∃ i : Nat, i ≤ n ∧ iv = .int .i64 i ∧ at' = .int .i64 ((pkL PP i).length : Int) ∧ Below w2.heap.size w2 wr) (fun _ iv _ => n - (intOf iv).toNat)
  case atStart => exact ⟨0, by omega, rfl, rfl, Below.refl _ _⟩
  case round =>
    rename World => wO
    obtain ⟨i, hi, rfl, rfl, hB⟩ := hrel
    have HB := Lib.hid hB
    have hl1 := pkL_len PP i
    by_cases hlt : i < n
    · have hii : (i : Int) < (n : Int) := by omega
      have x1 := (HD2.out.below hB).cell hlt
      have x2 := (HD2.out.below hB).lt
      have hR := HRc.out.below hB
      have hPi := HPd.out i
      obtain ⟨di, hdi⟩ : ∃ di, D i = di := ⟨_, rfl⟩
      rw [hdi] at x1 hPi
      clear hdi
      cases hP : PP i
      · have hl := pkL_f hP
        rw [hP] at hPi
        clear hP hB hR
        by_cases h0 : di < 0
        · have h0' : ¬ (0 ≤ di) := by omega
          clear hPi
          go_wp2
          go_roundw
          case rel => exact ⟨i + 1, by omega, by go_num, by rw [hl], HB.out⟩
          case measure => first | (simp [intOf]; done) | (simp [intOf]; omega)
        · have h1 : (r3 : Int) < di := by
            have h2 : (0 : Int) ≤ di := by omega
            rw [decide_eq_true h2, Bool.true_and] at hPi
            have := of_decide_eq_false hPi.symm
            omega
          clear hPi
          go_wp2
          go_roundw
          case rel => exact ⟨i + 1, by omega, by go_num, by rw [hl], HB.out⟩
          case measure => first | (simp [intOf]; done) | (simp [intOf]; omega)
      · have hl := pkL_t hP
        have hll : (pkL PP (i + 1)).length = (pkL PP i).length + 1 := by rw [hl]; simp
        have hget := HPre.out i hP n hlt
        have hltN : (pkL PP i).length < N := by rw [← HNl.out]; exact (List.getElem?_eq_some_iff.1 hget).1
        have x3 := hR.cell hltN
        rw [nthI_some hget] at x3
        have x4 := hR.lt
        rw [hP] at hPi
        simp only [Bool.true_eq, Bool.and_eq_true, decide_eq_true_eq] at hPi
        obtain ⟨h0, h1⟩ := hPi
        have h0' : ¬ (di < 0) := by omega
        have h1' : ¬ ((r3 : Int) < di) := by omega
        clear hP hB hR hget hl
        obtain ⟨at1, hat⟩ : ∃ at1, (pkL PP i).length = at1 := ⟨_, rfl⟩
        rw [hat] at x3 hltN hll hl1
        simp only [hat]
        have hai : (at1 : Int) < (N : Int) := by omega
        go_wp2
        go_roundw
        case rel => exact ⟨i + 1, by omega, by go_num, by rw [hll]; go_num, HB.out⟩
        case measure => first | (simp [intOf]; done) | (simp [intOf]; omega)
    · obtain rfl : i = n := by omega
      have hii : ¬ ((i : Int) < (i : Int)) := by omega
      rw [HNl.out]
      clear hB
      go_wp2
      go_ret
      exact ⟨rfl, HB2.out.trans (HB.out.mono (by omega))⟩
end Go.Proofs.Ytpmeccjfjjklkaa
