/- The roads' part of the law of Routes. No condition. -/
import Derived.Test.YtpmeccjfjjklkaaRtC4
namespace Go.Proofs.Ytpmeccjfjjklkaa
open Go.RowKit Go.IntWalk
set_option linter.unusedSimpArgs false
set_option linter.unusedVariables false
set_option maxRecDepth 100000 in
set_option maxHeartbeats 32000000 in
theorem chB {u0 u2 u3 u4 u6 u10 u11 u12 u13 u14 u18 u19 u20 u21 u22 u23 u24 u25 u26 u27 u28 u29 u30 u31 u32 u33 u34 u35 u36 u37 u38 u39 u40 u41 u42 u43 u44 u45 u46 u47 u48 u49 u50 u51 u52 u53 u54 u55 u56 u57 u58 u59 u60 u61 u62 u63 u64 u65 u66 u67 u68 u69 u70 u71 u72 u73 u74 u75 u76 u77 u78 u79 u80 u81 u82 u83 u84 u85 u86 u87 u88 u89 u90 u91 u92 u93 u94 u95 u96 u97 u98 u99 u100 u101 u102 u103 u104 u105 u106 u107 u108 u109 u110 u111 u112 u113 u114 u115 u116 u117 u118 u119 u120 u121 u122 u123 u124 u125 u126 u127 u128 u129 u130 u131 u132 u133 u134 u135 u136 u137 u138 u139 u140 u141 u142 u143 u144 u145 u146 u147 u148 u149 u150 u151 u152 u153 u154 u155 u156 u157 u158 u159 u160 u161 u162 u163 u164 u165 u166 u167 u168 u169 u170 u171 u172 u173 u174 u175 u176 u177 u178 u179 u180 u181 u182 u183 u184 u185 u186 u187 u188 u189 u190 u191 u192 u193 u194 u195 u196 u197 u198 u199 u200 u201 u202 u203 u204 u205 u206 u207 u208 u209 u210 u211 u212 u213 u214 u215 u216 u217 u218 u219 u220 u221 u222 u223 u224 u225 u226 u227 u228 u229 u230 u231 u232 u233 u234 u235 u236 u237 u238 u239 u240 u241 u242 u243 u244 u245 u246 u247 u248 u249 u250 u251 u252 u253 u254 u255 u256 u257 u258 u259 u260 u261 u262 u263 u264 u265 u266 u267 u268 u269 u270 u271 u272 u273 u274 u275 u276 u277 u278 u279 u280 u281 u282 u283 u284 u285 u286 u287 u288 u289 u290 u291 u292 u293 u294 u295 u296 u297 u298 u299 u300 u301 u302 u303 u304 u305 u306 u307 u308 u309 u310 u311 u312 u313 u314 u315 u316 u317 u318 u319 u320 u321 u322 u323 u324 u325 u326 u327 u328 u329 u330 u331 u332 u333 u334 u335 u336 u337 u338 u339 u340 u341 u342 u343 u344 u345 u346 u347 u348 u349 : Value} {A' NA : Option Addr} {k0 c' cN g n cg m ch p q b1 c1 N : Nat} {a b l : Nat → Int} {D : Nat → Int} {pv : Value} {pL : Int} {B : Bool} {P : List Nat} {lo : Nat} {W w : World} (hBW : Below W.heap.size W w) (hN : ntc w cN (.slice (some ⟨g, 0, none⟩) n cg) (.slice NA m ch)) (hR : RdA w NA m ch a b l) (hD1 : Dr w b1 n c1 D) (hn : n ≤ 6) (hm : m ≤ 9) (hp : p < n) (hq : q < n)
    (hL : Long n m (eN a) (eN b) l p D) (hab : ∀ j, j < m → a j = (eN a j : Int) ∧ b j = (eN b j : Int)) (hPB : B = true → pL = D q ∧ Pth n m (eN a) (eN b) l p q D P ∧ N = P.length) (hPI : IArr w lo pv N (nthI P))
    (hRO : ∀ most : Nat, most ≤ 100 → ∀ w', Below w.heap.size w w' → Calls Try.prog 33 #[.agg #[.slice (some ⟨g, 0, none⟩) n cg, .slice NA m ch], .int .i64 (p : Int), .int .i64 (most : Int)] w' (ROd n D most w'))
    (hA3 : ∀ w', Below W.heap.size W w' → Calls Try.prog 44 #[.slice A' k0 c', .int .i64 3, .int .i64 20] w' (fun e w'' => ∃ r : Nat, r < 20 ∧ e = .returned (.int .i64 (r : Int)) ∧ w' = w'')) :
    (seqAt 11 (bodyOf Try.f9)).wp Try.prog (QL W) { tmps := #[u0, .slice A' k0 c', u2, u3, u4, .pointer (some ⟨cN, 0, none⟩), u6, .int .i64 (p : Int), .int .i64 (q : Int), .slice (some ⟨b1, 0, none⟩) n c1, u10, u11, u12, u13, u14, pv, .int .i64 pL, .bool B, u18, u19, u20, u21, u22, u23, u24, u25, u26, u27, u28, u29, u30, u31, u32, u33, u34, u35, u36, u37, u38, u39, u40, u41, u42, u43, u44, u45, u46, u47, u48, u49, u50, u51, u52, u53, u54, u55, u56, u57, u58, u59, u60, u61, u62, u63, u64, u65, u66, u67, u68, u69, u70, u71, u72, u73, u74, u75, u76, u77, u78, u79, u80, u81, u82, u83, u84, u85, u86, u87, u88, u89, u90, u91, u92, u93, u94, u95, u96, u97, u98, u99, u100, u101, u102, u103, u104, u105, u106, u107, u108, u109, u110, u111, u112, u113, u114, u115, u116, u117, u118, u119, u120, u121, u122, u123, u124, u125, u126, u127, u128, u129, u130, u131, u132, u133, u134, u135, u136, u137, u138, u139, u140, u141, u142, u143, u144, u145, u146, u147, u148, u149, u150, u151, u152, u153, u154, u155, u156, u157, u158, u159, u160, u161, u162, u163, u164, u165, u166, u167, u168, u169, u170, u171, u172, u173, u174, u175, u176, u177, u178, u179, u180, u181, u182, u183, u184, u185, u186, u187, u188, u189, u190, u191, u192, u193, u194, u195, u196, u197, u198, u199, u200, u201, u202, u203, u204, u205, u206, u207, u208, u209, u210, u211, u212, u213, u214, u215, u216, u217, u218, u219, u220, u221, u222, u223, u224, u225, u226, u227, u228, u229, u230, u231, u232, u233, u234, u235, u236, u237, u238, u239, u240, u241, u242, u243, u244, u245, u246, u247, u248, u249, u250, u251, u252, u253, u254, u255, u256, u257, u258, u259, u260, u261, u262, u263, u264, u265, u266, u267, u268, u269, u270, u271, u272, u273, u274, u275, u276, u277, u278, u279, u280, u281, u282, u283, u284, u285, u286, u287, u288, u289, u290, u291, u292, u293, u294, u295, u296, u297, u298, u299, u300, u301, u302, u303, u304, u305, u306, u307, u308, u309, u310, u311, u312, u313, u314, u315, u316, u317, u318, u319, u320, u321, u322, u323, u324, u325, u326, u327, u328, u329, u330, u331, u332, u333, u334, u335, u336, u337, u338, u339, u340, u341, u342, u343, u344, u345, u346, u347, u348, u349], defers := [] } w := by
  dsimp only [seqAt, bodyOf, Try.f9]
  unfold QL
  apply wp_seq_k
  intro K hK
  have HK := Lib.hid hK
  clear hK
  have HRO := Lib.hid hRO
  have HA3 := Lib.hid hA3
  have HBW := Lib.hid hBW
  have HD1 := Lib.hid hD1
  have hWs := hBW.size
  have HR := Lib.hid hR
  have HAB := Lib.hid hab
  have HL := Lib.hid hL
  have HPB := Lib.hid hPB
  have HPI := Lib.hid hPI
  have HN := Lib.hid hN
  have n0 := hN.c0
  have n1 := hN.c1
  have nl := hN.lt
  clear hPB hPI hR hab hL hN hD1 hRO hA3 hBW
  go_wp2
  clear n0 n1 nl
  go_loopw [155] (fun jv wr => ∃ j : Nat, j ≤ m ∧ jv = .int .i64 (j : Int) ∧ Below w.heap.size w wr) (fun jv _ => m - (intOf jv).toNat)
  case atStart => exact ⟨0, by omega, rfl, Below.refl _ _⟩
  case round =>
    obtain ⟨j, hj, rfl, hBr⟩ := hrel
    have HBr := Lib.hid hBr
    by_cases hlt2 : j < m
    · have hji : (j : Int) < (m : Int) := by omega
      have hR0 := HR.out
      rcases hR0 with ⟨h0, -, -⟩ | ⟨h, rfl, hRb⟩
      · omega
      have hRw := hRb.below hBr hRb.lt
      have r0 := hRw.c0 hlt2
      have r1 := hRw.c1 hlt2
      have r2 := hRw.c2 hlt2
      have rl := hRw.lt
      rw [(HAB.out j hlt2).1] at r0
      rw [(HAB.out j hlt2).2] at r1
      obtain ⟨ha, hb, hne, hl1, hl2⟩ := HL.out.roads j hlt2
      have st1 := HL.out.step j (eN a j) (eN b j) hlt2 (.inl ⟨rfl, rfl⟩)
      have st2 := HL.out.step j (eN b j) (eN a j) hlt2 (.inr ⟨rfl, rfl⟩)
      have bd1 := HL.out.bnd _ ha
      have bd2 := HL.out.bnd _ hb
      have x1 := (HD1.out.below hBr).cell ha
      have x2 := (HD1.out.below hBr).cell hb
      have xl := (HD1.out.below hBr).lt
      obtain ⟨A1, hA1⟩ : ∃ A1, eN a j = A1 := ⟨_, rfl⟩
      obtain ⟨B1, hB1⟩ : ∃ B1, eN b j = B1 := ⟨_, rfl⟩
      obtain ⟨L, hL1⟩ : ∃ L, l j = L := ⟨_, rfl⟩
      obtain ⟨da, hda⟩ : ∃ da, D A1 = da := ⟨_, rfl⟩
      obtain ⟨db, hdb⟩ : ∃ db, D B1 = db := ⟨_, rfl⟩
      rw [hA1] at r0 ha x1 bd1 st1 st2
      rw [hB1] at r1 hb x2 bd2 st1 st2
      rw [hL1] at r2 hl1 hl2 st1 st2
      rw [hda] at x1 bd1 st1 st2
      rw [hdb] at x2 bd2 st1 st2
      have hai : (A1 : Int) < (n : Int) := by omega
      have hbi : (B1 : Int) < (n : Int) := by omega
      have hw1 : IntKind.i64.wrap (db + L) = db + L := by rw [IntKind.wrap_i64]; omega
      have hw2 : IntKind.i64.wrap (da + L) = da + L := by rw [IntKind.wrap_i64]; omega
      have t := HN.out.below hBr
      have n0 := t.c0
      have n1 := t.c1
      have nl := t.lt
      clear hRw hRb hA1 hB1 hL1 hda hdb t hne hBr
      by_cases h0 : 0 ≤ da
      · have h1 : 0 ≤ db ∧ db ≤ da + L := st1 h0
        have h2 : da ≤ db + L := (st2 h1.1).2
        have h3 : ¬ (da < 0) := by omega
        have h4 : ¬ (db < 0) := by omega
        have h5 : ¬ (db + L < da) := by omega
        have h6 : ¬ (da + L < db) := by omega
        clear st1 st2
        go_wp2
        go_roundw
        case rel => exact ⟨j + 1, by omega, by go_num, by have := HBr.out; (with_reducible repeat (first | exact Below.refl _ _ | apply below_alloc | apply below_dN | apply below_d | refine below_setCell ?_ (by dsimp only; omega) | refine below_call (by assumption) ?_))⟩
        case measure => first | (simp [intOf]; done) | (simp [intOf]; omega)
      · have h3 : da < 0 := by omega
        have h4 : db < 0 := by
          by_cases h : 0 ≤ db
          · have := (st2 h).1; omega
          · omega
        clear st1 st2
        go_wp2
        go_roundw
        case rel => exact ⟨j + 1, by omega, by go_num, by have := HBr.out; (with_reducible repeat (first | exact Below.refl _ _ | apply below_alloc | apply below_dN | apply below_d | refine below_setCell ?_ (by dsimp only; omega) | refine below_call (by assumption) ?_))⟩
        case measure => first | (simp [intOf]; done) | (simp [intOf]; omega)
    · obtain rfl : j = m := by omega
      have hji : ¬ ((j : Int) < (j : Int)) := by omega
      go_wp2
      refine HK.out _ _ ?_
      exact chC (HBW.out.trans (hBr.mono hWs)) (HN.out.below hBr) (HR.out.below hBr) (HD1.out.below hBr) hn hm hp hq HL.out HAB.out HPB.out (HPI.out.below hBr) (fun most hm w'' hB2 => HRO.out most hm w'' (hBr.trans (hB2.mono hBr.size))) HA3.out
end Go.Proofs.Ytpmeccjfjjklkaa
