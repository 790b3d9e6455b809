/- What the law of Routes asks at once. No condition. -/
import Derived.Test.YtpmeccjfjjklkaaRtB4
namespace Go.Proofs.Ytpmeccjfjjklkaa
open Go.RowKit Go.IntWalk
set_option linter.unusedSimpArgs false
set_option linter.unusedVariables false
set_option maxRecDepth 100000 in
set_option maxHeartbeats 32000000 in
theorem chA {u0 u2 u3 u4 u15 u16 u17 u18 u19 u20 u21 u22 u23 u24 u25 u26 u27 u28 u29 u30 u31 u32 u33 u34 u35 u36 u37 u38 u39 u40 u41 u42 u43 u44 u45 u46 u47 u48 u49 u50 u51 u52 u53 u54 u55 u56 u57 u58 u59 u60 u61 u62 u63 u64 u65 u66 u67 u68 u69 u70 u71 u72 u73 u74 u75 u76 u77 u78 u79 u80 u81 u82 u83 u84 u85 u86 u87 u88 u89 u90 u91 u92 u93 u94 u95 u96 u97 u98 u99 u100 u101 u102 u103 u104 u105 u106 u107 u108 u109 u110 u111 u112 u113 u114 u115 u116 u117 u118 u119 u120 u121 u122 u123 u124 u125 u126 u127 u128 u129 u130 u131 u132 u133 u134 u135 u136 u137 u138 u139 u140 u141 u142 u143 u144 u145 u146 u147 u148 u149 u150 u151 u152 u153 u154 u155 u156 u157 u158 u159 u160 u161 u162 u163 u164 u165 u166 u167 u168 u169 u170 u171 u172 u173 u174 u175 u176 u177 u178 u179 u180 u181 u182 u183 u184 u185 u186 u187 u188 u189 u190 u191 u192 u193 u194 u195 u196 u197 u198 u199 u200 u201 u202 u203 u204 u205 u206 u207 u208 u209 u210 u211 u212 u213 u214 u215 u216 u217 u218 u219 u220 u221 u222 u223 u224 u225 u226 u227 u228 u229 u230 u231 u232 u233 u234 u235 u236 u237 u238 u239 u240 u241 u242 u243 u244 u245 u246 u247 u248 u249 u250 u251 u252 u253 u254 u255 u256 u257 u258 u259 u260 u261 u262 u263 u264 u265 u266 u267 u268 u269 u270 u271 u272 u273 u274 u275 u276 u277 u278 u279 u280 u281 u282 u283 u284 u285 u286 u287 u288 u289 u290 u291 u292 u293 u294 u295 u296 u297 u298 u299 u300 u301 u302 u303 u304 u305 u306 u307 u308 u309 u310 u311 u312 u313 u314 u315 u316 u317 u318 u319 u320 u321 u322 u323 u324 u325 u326 u327 u328 u329 u330 u331 u332 u333 u334 u335 u336 u337 u338 u339 u340 u341 u342 u343 u344 u345 u346 u347 u348 u349 : Value} {A' NA : Option Addr} {k0 c' cN g n cg m ch p q b1 c1 b2 c2 o co q0 d0 q1 d1 : Nat} {a b l : Nat → Int} {D E : Nat → Int} {B : Bool} {W w : World} (hBW : Below W.heap.size W w) (hN : ntc w cN (.slice (some ⟨g, 0, none⟩) n cg) (.slice NA m ch)) (hR : RdA w NA m ch a b l) (hD1 : Dr w b1 n c1 D) (hn : n ≤ 6) (hm : m ≤ 9) (hp : p < n) (hq : q < n)
    (hL : Long n m (eN a) (eN b) l p D) (hab : ∀ j, j < m → a j = (eN a j : Int) ∧ b j = (eN b j : Int)) (hDE : D q = E p) (hB : decide (0 ≤ D q) = B) (hE2 : Dr w b2 n c2 E) (ho : o < w.heap.size) (ho0 : w.cell? ⟨o, 0, none⟩ = some (.slice (some ⟨q0, 0, none⟩) n d0)) (ho1 : w.cell? ⟨o, 1, none⟩ = some (.slice (some ⟨q1, 0, none⟩) n d1)) (hD0 : Dr w q0 n d0 D) (hE1 : Dr w q1 n d1 E)
    (hRP : ∀ w', Below w.heap.size w w' → Calls Try.prog 41 #[.agg #[.slice (some ⟨g, 0, none⟩) n cg, .slice NA m ch], .int .i64 (p : Int), .int .i64 (q : Int)] w' (RPd n m p q (eN a) (eN b) l D B w'))
    (hVN : ∀ w', Below w.heap.size w w' → Calls Try.prog 13 #[.agg #[.slice (some ⟨g, 0, none⟩) n cg, .slice NA m ch]] w' (Ret (RV (.bool true)) w'))
    (hRO : ∀ most : Nat, most ≤ 100 → ∀ w', Below w.heap.size w w' → Calls Try.prog 33 #[.agg #[.slice (some ⟨g, 0, none⟩) n cg, .slice NA m ch], .int .i64 (p : Int), .int .i64 (most : Int)] w' (ROd n D most w'))
    (hA3 : ∀ w', Below W.heap.size W w' → Calls Try.prog 44 #[.slice A' k0 c', .int .i64 3, .int .i64 20] w' (fun e w'' => ∃ r : Nat, r < 20 ∧ e = .returned (.int .i64 (r : Int)) ∧ w' = w'')) :
    (seqAt 9 (bodyOf Try.f9)).wp Try.prog (QL W) { tmps := #[u0, .slice A' k0 c', u2, u3, u4, .pointer (some ⟨cN, 0, none⟩), .int .i64 (n : Int), .int .i64 (p : Int), .int .i64 (q : Int), .slice (some ⟨b1, 0, none⟩) n c1, .bool true, .slice (some ⟨b2, 0, none⟩) n c2, .bool true, .slice (some ⟨o, 0, none⟩) 2 co, .bool true, u15, u16, u17, u18, u19, u20, u21, u22, u23, u24, u25, u26, u27, u28, u29, u30, u31, u32, u33, u34, u35, u36, u37, u38, u39, u40, u41, u42, u43, u44, u45, u46, u47, u48, u49, u50, u51, u52, u53, u54, u55, u56, u57, u58, u59, u60, u61, u62, u63, u64, u65, u66, u67, u68, u69, u70, u71, u72, u73, u74, u75, u76, u77, u78, u79, u80, u81, u82, u83, u84, u85, u86, u87, u88, u89, u90, u91, u92, u93, u94, u95, u96, u97, u98, u99, u100, u101, u102, u103, u104, u105, u106, u107, u108, u109, u110, u111, u112, u113, u114, u115, u116, u117, u118, u119, u120, u121, u122, u123, u124, u125, u126, u127, u128, u129, u130, u131, u132, u133, u134, u135, u136, u137, u138, u139, u140, u141, u142, u143, u144, u145, u146, u147, u148, u149, u150, u151, u152, u153, u154, u155, u156, u157, u158, u159, u160, u161, u162, u163, u164, u165, u166, u167, u168, u169, u170, u171, u172, u173, u174, u175, u176, u177, u178, u179, u180, u181, u182, u183, u184, u185, u186, u187, u188, u189, u190, u191, u192, u193, u194, u195, u196, u197, u198, u199, u200, u201, u202, u203, u204, u205, u206, u207, u208, u209, u210, u211, u212, u213, u214, u215, u216, u217, u218, u219, u220, u221, u222, u223, u224, u225, u226, u227, u228, u229, u230, u231, u232, u233, u234, u235, u236, u237, u238, u239, u240, u241, u242, u243, u244, u245, u246, u247, u248, u249, u250, u251, u252, u253, u254, u255, u256, u257, u258, u259, u260, u261, u262, u263, u264, u265, u266, u267, u268, u269, u270, u271, u272, u273, u274, u275, u276, u277, u278, u279, u280, u281, u282, u283, u284, u285, u286, u287, u288, u289, u290, u291, u292, u293, u294, u295, u296, u297, u298, u299, u300, u301, u302, u303, u304, u305, u306, u307, u308, u309, u310, u311, u312, u313, u314, u315, u316, u317, u318, u319, u320, u321, u322, u323, u324, u325, u326, u327, u328, u329, u330, u331, u332, u333, u334, u335, u336, u337, u338, u339, u340, u341, u342, u343, u344, u345, u346, u347, u348, u349], defers := [] } w := by
  dsimp only [seqAt, bodyOf, Try.f9]
  unfold QL
  have HRO := Lib.hid hRO
  have HA3 := Lib.hid hA3
  have HVN := Lib.hid hVN
  have HRP := Lib.hid hRP
  have HBW := Lib.hid hBW
  have HD1 := Lib.hid hD1
  have HE2 := Lib.hid hE2
  have HD0 := Lib.hid hD0
  have HE1 := Lib.hid hE1
  have hWs := hBW.size
  have HR := Lib.hid hR
  have HAB := Lib.hid hab
  have HL := Lib.hid hL
  have HN := Lib.hid hN
  have HDE := Lib.hid hDE
  have HB := Lib.hid hB
  have HO := Lib.hid (show o < w.heap.size ∧ w.cell? ⟨o, 0, none⟩ = some (.slice (some ⟨q0, 0, none⟩) n d0) ∧ w.cell? ⟨o, 1, none⟩ = some (.slice (some ⟨q1, 0, none⟩) n d1) from ⟨ho, ho0, ho1⟩)
  have g0 := hN.c0
  have g1 := hN.c1
  have gl := hN.lt
  clear hR hab hL hN hD1 hE2 hD0 hE1 hRO hA3 hVN hRP hBW hDE hB ho ho0 ho1
  apply wp_seq_k
  intro K9 hK9
  have HK9 := Lib.hid hK9
  clear hK9
  go_wp2_with (go_at_call 41; (with_reducible refine (HRP.out _ (Below.refl _ _)).mono ?_); rintro e w6 ⟨pv, pL, pN, P, rfl, hPB, hPI, hb6⟩)
  refine HK9.out _ _ ?_
  clear HK9 g0 g1 gl
  have t6 := HN.out.below hb6
  have hD1 := HD1.out.below hb6
  have hE2 := HE2.out.below hb6
  have hD0 := HD0.out.below hb6
  have hE1 := HE1.out.below hb6
  obtain ⟨ho, ho0, ho1⟩ := HO.out
  have y0 := (hb6.cell (p := ⟨o, 0, none⟩) ho).trans ho0
  have y1 := (hb6.cell (p := ⟨o, 1, none⟩) ho).trans ho1
  have yl := Nat.lt_of_lt_of_le ho hb6.size
  have HI0 := Lib.hid (fun w' (h : Below w6.heap.size w6 w') => bareD (b10Ints_c q0 b1 n d0 c1 D w' (by omega) (hD0.below h) (hD1.below h)))
  have HI1 := Lib.hid (fun w' (h : Below w6.heap.size w6 w') => bareD (b10Ints_c q1 b2 n d1 c2 E w' (by omega) (hE1.below h) (hE2.below h)))
  have HVN6 := Lib.hid (fun w' (h : Below w6.heap.size w6 w') => bareD (HVN.out w' (hb6.trans (h.mono hb6.size))))
  have x1 := hD1.cell hp
  have x2 := hD1.cell hq
  have x3 := hE2.cell hp
  rw [HL.out.zero] at x1
  rw [← HDE.out] at x3
  have x4 := hD1.lt
  have x5 := hE2.lt
  have hB := HB.out
  obtain ⟨dq, hdq⟩ : ∃ dq, D q = dq := ⟨_, rfl⟩
  rw [hdq] at x2 x3 hB
  have HPB := Lib.hid hPB
  have HPI := Lib.hid hPI
  have HD6 := Lib.hid hD1
  have HN6 := Lib.hid t6
  have HB6 := Lib.hid hb6
  have hpn : (p : Int) < (n : Int) := by omega
  have hqn : (q : Int) < (n : Int) := by omega
  have g0 := t6.c0
  have g1 := t6.c1
  have gl := t6.lt
  clear ho ho0 ho1 hD1 hE2 hD0 hE1 hPB hPI hb6 t6 hdq
  apply wp_seq_k
  intro K1 hK1
  have HK1 := Lib.hid hK1
  clear hK1
  apply wp_seq_k
  intro K2 hK2
  have HK2 := Lib.hid hK2
  clear hK2
  refine region_below (by kernel_rfl) (by kernel_rfl) ?_
  simp only [List.append_eq, List.cons_append, List.nil_append]
  (repeat (first | go_big_quiet_step ((first | (go_at_call 13; (with_reducible exact Calls.regrown_of (HVN6.out _ (below_regrown _ _ _)))) | (go_at_call 45; (with_reducible exact Calls.regrown_of (HI0.out _ (below_regrown _ _ _)))) | (go_at_call 45; (with_reducible exact Calls.regrown_of (HI1.out _ (below_regrown _ _ _)))))) | quiet_step ((first | (go_at_call 13; (with_reducible exact Calls.regrown_of (HVN6.out _ (below_regrown _ _ _)))) | (go_at_call 45; (with_reducible exact Calls.regrown_of (HI0.out _ (below_regrown _ _ _)))) | (go_at_call 45; (with_reducible exact Calls.regrown_of (HI1.out _ (below_regrown _ _ _))))))))
  refine wpQuiet_nil ?_
  intro w7 hb7
  refine HK2.out _ _ ?_
  clear g0 g1 gl y0 y1 yl x1 x2 x3 x4 x5
  go_wp2
  refine HK1.out _ _ ?_
  have hb67 := HB6.out.trans (hb7.mono HB6.out.size)
  exact chB (HBW.out.trans (hb67.mono hWs)) (HN6.out.below hb7) (HR.out.below hb67) (HD6.out.below hb7) hn hm hp hq HL.out HAB.out HPB.out (HPI.out.below hb7) (fun most hm w'' hB2 => HRO.out most hm w'' (hb67.trans (hB2.mono hb67.size))) HA3.out
end Go.Proofs.Ytpmeccjfjjklkaa
