/- The path's part of the law of Routes. No condition. -/
import Derived.Test.YtpmeccjfjjklkaaRtD4
namespace Go.Proofs.Ytpmeccjfjjklkaa
open Go.RowKit Go.IntWalk
set_option linter.unusedSimpArgs false
set_option linter.unusedVariables false
theorem bstr_step {a b : Nat → Nat} {l : Nat → Int} {u v k : Nat} : bstr a b l u v (k + 1) = if ((((decide (a k = u) && decide (b k = v)) || (decide (b k = u) && decide (a k = v))) && (decide (bstr a b l u v k < 0) || decide (l k < bstr a b l u v k)))) = true then l k else bstr a b l u v k := rfl
set_option maxRecDepth 100000 in
set_option maxHeartbeats 32000000 in
theorem chC {u0 u2 u3 u4 u6 u10 u11 u12 u13 u14 u18 u19 u20 u21 u22 u23 u24 u25 u26 u27 u28 u29 u30 u31 u32 u33 u34 u35 u36 u37 u38 u39 u40 u41 u42 u43 u44 u45 u46 u47 u48 u49 u50 u51 u52 u53 u54 u55 u56 u57 u58 u59 u60 u61 u62 u63 u64 u65 u66 u67 u68 u69 u70 u71 u72 u73 u74 u75 u76 u77 u78 u79 u80 u81 u82 u83 u84 u85 u86 u87 u88 u89 u90 u91 u92 u93 u94 u95 u96 u97 u98 u99 u100 u101 u102 u103 u104 u105 u106 u107 u108 u109 u110 u111 u112 u113 u114 u115 u116 u117 u118 u119 u120 u121 u122 u123 u124 u125 u126 u127 u128 u129 u130 u131 u132 u133 u134 u135 u136 u137 u138 u139 u140 u141 u142 u143 u144 u145 u146 u147 u148 u149 u150 u151 u152 u153 u154 u155 u156 u157 u158 u159 u160 u161 u162 u163 u164 u165 u166 u167 u168 u169 u170 u171 u172 u173 u174 u175 u176 u177 u178 u179 u180 u181 u182 u183 u184 u185 u186 u187 u188 u189 u190 u191 u192 u193 u194 u195 u196 u197 u198 u199 u200 u201 u202 u203 u204 u205 u206 u207 u208 u209 u210 u211 u212 u213 u214 u215 u216 u217 u218 u219 u220 u221 u222 u223 u224 u225 u226 u227 u228 u229 u230 u231 u232 u233 u234 u235 u236 u237 u238 u239 u240 u241 u242 u243 u244 u245 u246 u247 u248 u249 u250 u251 u252 u253 u254 u255 u256 u257 u258 u259 u260 u261 u262 u263 u264 u265 u266 u267 u268 u269 u270 u271 u272 u273 u274 u275 u276 u277 u278 u279 u280 u281 u282 u283 u284 u285 u286 u287 u288 u289 u290 u291 u292 u293 u294 u295 u296 u297 u298 u299 u300 u301 u302 u303 u304 u305 u306 u307 u308 u309 u310 u311 u312 u313 u314 u315 u316 u317 u318 u319 u320 u321 u322 u323 u324 u325 u326 u327 u328 u329 u330 u331 u332 u333 u334 u335 u336 u337 u338 u339 u340 u341 u342 u343 u344 u345 u346 u347 u348 u349 : Value} {A' NA : Option Addr} {k0 c' cN g n cg m ch p q b1 c1 N : Nat} {a b l : Nat → Int} {D : Nat → Int} {pv : Value} {pL : Int} {B : Bool} {P : List Nat} {lo : Nat} {W w : World} (hBW : Below W.heap.size W w) (hN : ntc w cN (.slice (some ⟨g, 0, none⟩) n cg) (.slice NA m ch)) (hR : RdA w NA m ch a b l) (hD1 : Dr w b1 n c1 D) (hn : n ≤ 6) (hm : m ≤ 9) (hp : p < n) (hq : q < n)
    (hL : Long n m (eN a) (eN b) l p D) (hab : ∀ j, j < m → a j = (eN a j : Int) ∧ b j = (eN b j : Int)) (hPB : B = true → pL = D q ∧ Pth n m (eN a) (eN b) l p q D P ∧ N = P.length) (hPI : IArr w lo pv N (nthI P))
    (hRO : ∀ most : Nat, most ≤ 100 → ∀ w', Below w.heap.size w w' → Calls Try.prog 33 #[.agg #[.slice (some ⟨g, 0, none⟩) n cg, .slice NA m ch], .int .i64 (p : Int), .int .i64 (most : Int)] w' (ROd n D most w'))
    (hA3 : ∀ w', Below W.heap.size W w' → Calls Try.prog 44 #[.slice A' k0 c', .int .i64 3, .int .i64 20] w' (fun e w'' => ∃ r : Nat, r < 20 ∧ e = .returned (.int .i64 (r : Int)) ∧ w' = w'')) :
    (seqAt 12 (bodyOf Try.f9)).wp Try.prog (QL W) { tmps := #[u0, .slice A' k0 c', u2, u3, u4, .pointer (some ⟨cN, 0, none⟩), u6, .int .i64 (p : Int), .int .i64 (q : Int), .slice (some ⟨b1, 0, none⟩) n c1, u10, u11, u12, u13, u14, pv, .int .i64 pL, .bool B, u18, u19, u20, u21, u22, u23, u24, u25, u26, u27, u28, u29, u30, u31, u32, u33, u34, u35, u36, u37, u38, u39, u40, u41, u42, u43, u44, u45, u46, u47, u48, u49, u50, u51, u52, u53, u54, u55, u56, u57, u58, u59, u60, u61, u62, u63, u64, u65, u66, u67, u68, u69, u70, u71, u72, u73, u74, u75, u76, u77, u78, u79, u80, u81, u82, u83, u84, u85, u86, u87, u88, u89, u90, u91, u92, u93, u94, u95, u96, u97, u98, u99, u100, u101, u102, u103, u104, u105, u106, u107, u108, u109, u110, u111, u112, u113, u114, u115, u116, u117, u118, u119, u120, u121, u122, u123, u124, u125, u126, u127, u128, u129, u130, u131, u132, u133, u134, u135, u136, u137, u138, u139, u140, u141, u142, u143, u144, u145, u146, u147, u148, u149, u150, u151, u152, u153, u154, u155, u156, u157, u158, u159, u160, u161, u162, u163, u164, u165, u166, u167, u168, u169, u170, u171, u172, u173, u174, u175, u176, u177, u178, u179, u180, u181, u182, u183, u184, u185, u186, u187, u188, u189, u190, u191, u192, u193, u194, u195, u196, u197, u198, u199, u200, u201, u202, u203, u204, u205, u206, u207, u208, u209, u210, u211, u212, u213, u214, u215, u216, u217, u218, u219, u220, u221, u222, u223, u224, u225, u226, u227, u228, u229, u230, u231, u232, u233, u234, u235, u236, u237, u238, u239, u240, u241, u242, u243, u244, u245, u246, u247, u248, u249, u250, u251, u252, u253, u254, u255, u256, u257, u258, u259, u260, u261, u262, u263, u264, u265, u266, u267, u268, u269, u270, u271, u272, u273, u274, u275, u276, u277, u278, u279, u280, u281, u282, u283, u284, u285, u286, u287, u288, u289, u290, u291, u292, u293, u294, u295, u296, u297, u298, u299, u300, u301, u302, u303, u304, u305, u306, u307, u308, u309, u310, u311, u312, u313, u314, u315, u316, u317, u318, u319, u320, u321, u322, u323, u324, u325, u326, u327, u328, u329, u330, u331, u332, u333, u334, u335, u336, u337, u338, u339, u340, u341, u342, u343, u344, u345, u346, u347, u348, u349], defers := [] } w := by
  dsimp only [seqAt, bodyOf, Try.f9]
  unfold QL
  apply wp_seq_k
  intro K hK
  have HK := Lib.hid hK
  clear hK
  cases B
  · go_wp2
    refine HK.out _ _ ?_
    exact chD hBW hN hD1 hn hp hRO hA3
  · obtain ⟨rfl, hPt, rfl⟩ := hPB rfl
    obtain ⟨b4, c4, rfl, -, hP4⟩ := hPI.pos (by have := hPt.pos; omega)
    have HRO := Lib.hid hRO
    have HA3 := Lib.hid hA3
    have HBW := Lib.hid hBW
    have HD1 := Lib.hid hD1
    have hWs := hBW.size
    have HR := Lib.hid hR
    have HAB := Lib.hid hab
    have HL := Lib.hid hL
    have HPt := Lib.hid hPt
    have HP4 := Lib.hid hP4
    have HN := Lib.hid hN
    have hps := hPt.small
    obtain ⟨N1, hN1⟩ : ∃ N1, N1 + 1 = P.length := ⟨P.length - 1, by have := hPt.pos; omega⟩
    have hfi := hPt.first
    have hla := hPt.last
    rw [← hN1] at hla
    have y0 := hP4.cell (j := 0) (by omega)
    have y1 := hP4.cell (j := N1) (by omega)
    have yl := hP4.lt
    rw [hfi] at y0
    rw [show nthI P N1 = (q : Int) from hla] at y1
    have x1 := hD1.cell hq
    have x1l := hD1.lt
    obtain ⟨N, hNN⟩ : ∃ N, P.length = N := ⟨_, rfl⟩
    rw [hNN] at hN1 hps
    simp only [hNN] at HP4 ⊢
    have HNN := Lib.hid hNN
    have hNi : IntKind.i64.wrap ((N : Int) - 1) = (N1 : Int) := by rw [IntKind.wrap_i64]; omega
    have hN1i : ¬ ((N : Int) < 1) := by omega
    have hN1j : (N1 : Int) < (N : Int) := by omega
    have hN0 : (0 : Int) < (N : Int) := by omega
    have hqn : (q : Int) < (n : Int) := by omega
    obtain ⟨dq, hdq⟩ : ∃ dq, D q = dq := ⟨_, rfl⟩
    have HDQ := Lib.hid hdq
    rw [hdq] at x1
    simp only [hdq]
    clear hPB hPI hR hab hL hPt hP4 hN hD1 hRO hA3 hBW hfi hla hNN hdq
    go_wp2
    clear x1 x1l y0 y1 yl hqn hN1i hN0
    go_loopw [22, 23] (fun sv kv wr => ∃ k : Nat, 1 ≤ k ∧ k ≤ N ∧ kv = .int .i64 (k : Int) ∧ sv = .int .i64 (D (nthI P (k - 1)).toNat) ∧ Below w.heap.size w wr) (fun _ kv _ => N - (intOf kv).toNat)
    case atStart => exact ⟨1, by omega, by omega, rfl, by rw [show nthI P (1 - 1) = (p : Int) from HPt.out.first, Int.toNat_natCast, HL.out.zero], Below.refl _ _⟩
    case round =>
      rename World => wO
      obtain ⟨k, hk1, hkN, rfl, rfl, hB⟩ := hrel
      have HB := Lib.hid hB
      have hsO := hB.size
      obtain ⟨k1, hk11⟩ : ∃ k1, k1 + 1 = k := ⟨k - 1, by omega⟩
      by_cases hlt : k < N
      · have hki : (k : Int) < (N : Int) := by omega
        have hkw : IntKind.i64.wrap ((k : Int) - 1) = (k1 : Int) := by rw [IntKind.wrap_i64]; omega
        have hk1N : (k1 : Int) < (N : Int) := by omega
        obtain ⟨u, hu, hu2, hDu⟩ := HPt.out.lt k1 (by have := HNN.out; omega)
        obtain ⟨v, hv, hv2, hDv⟩ := HPt.out.lt k (by have := HNN.out; omega)
        obtain ⟨hst, hlt0⟩ := HPt.out.step k1 u v (by have := HNN.out; omega) hu2 (by rw [hk11]; exact hv2)
        have hbu := HL.out.bnd u hu
        have hbv := HL.out.bnd v hv
        have z0 := (HP4.out.below hB).cell (j := k1) (by omega)
        have z1 := (HP4.out.below hB).cell (j := k) (by omega)
        have zl := (HP4.out.below hB).lt
        rw [hu2] at z0
        rw [hv2] at z1
        have hSu : D (nthI P (k - 1)).toNat = D u := by rw [show k - 1 = k1 by omega, hu2, Int.toNat_natCast]
        rw [hSu]
        have HSv := Lib.hid (show D (nthI P (k + 1 - 1)).toNat = D v by rw [show k + 1 - 1 = k by omega, hv2, Int.toNat_natCast])
        have tO := HN.out.below hB
        have HTO := Lib.hid tO
        have n0 := tO.c0
        have n1 := tO.c1
        have nl := tO.lt
        obtain ⟨du, hdu⟩ : ∃ du, D u = du := ⟨_, rfl⟩
        obtain ⟨dv, hdv⟩ : ∃ dv, D v = dv := ⟨_, rfl⟩
        rw [hdu] at hbu hDu hst hlt0
        rw [hdv] at hbv hDv hst hlt0
        have HST := Lib.hid hst
        simp only [hdu]
        have HDU := Lib.hid hdu
        have HDV := Lib.hid hdv
        have HZ0 := Lib.hid z0
        have HZ1 := Lib.hid z1
        clear hB hu2 hv2 hst hSu tO hdu hdv z0 z1
        go_wp2
        clear n0 n1 nl
        go_loopw [24, 237] (fun bv jv wr => ∃ j : Nat, j ≤ m ∧ jv = .int .i64 (j : Int) ∧ bv = .int .i64 (bstr (eN a) (eN b) l u v j) ∧ Below wO.heap.size wO wr) (fun _ jv _ => m - (intOf jv).toNat)
        case atStart => exact ⟨0, by omega, rfl, rfl, Below.refl _ _⟩
        case round =>
          obtain ⟨j, hj, rfl, rfl, hBr⟩ := hrel
          have HBr := Lib.hid hBr
          by_cases hlt2 : j < m
          · have hji : (j : Int) < (m : Int) := by omega
            have hR0 := HR.out
            rcases hR0 with ⟨h0, -, -⟩ | ⟨h, rfl, hRb⟩
            · omega
            have hRw := hRb.below (HB.out.trans (HBr.out.mono hsO)) hRb.lt
            have r0 := hRw.c0 hlt2
            have r1 := hRw.c1 hlt2
            have r2 := hRw.c2 hlt2
            have rl := hRw.lt
            rw [(HAB.out j hlt2).1] at r0
            rw [(HAB.out j hlt2).2] at r1
            have hAB := (HL.out.roads j hlt2).2.2.1
            have hbs := bstr_step (a := eN a) (b := eN b) (l := l) (u := u) (v := v) (k := j)
            obtain ⟨A1, hA1⟩ : ∃ A1, eN a j = A1 := ⟨_, rfl⟩
            obtain ⟨B1, hB1⟩ : ∃ B1, eN b j = B1 := ⟨_, rfl⟩
            obtain ⟨L, hL1⟩ : ∃ L, l j = L := ⟨_, rfl⟩
            obtain ⟨x, hx⟩ : ∃ x, bstr (eN a) (eN b) l u v j = x := ⟨_, rfl⟩
            rw [hA1, hB1, hL1, hx] at hbs
            rw [hA1] at r0 hAB
            rw [hB1] at r1 hAB
            rw [hL1] at r2
            simp only [hx]
            have HBS := Lib.hid hbs
            have tr := HTO.out.below HBr.out
            have n0 := tr.c0
            have n1 := tr.c1
            have nl := tr.lt
            have z0 := (HBr.out.cell (p := ⟨b4, k1, none⟩) zl).trans HZ0.out
            have z1 := (HBr.out.cell (p := ⟨b4, k, none⟩) zl).trans HZ1.out
            have zl2 := Nat.lt_of_lt_of_le zl HBr.out.size
            clear hbs hRw hRb hA1 hB1 hL1 hx tr
            go_upto_region 34 with fail
            refine absw (fun V hV => ?_)
            have hVs : V.heap.size = wr.heap.size + 1 := by rw [hV]; simp
            have hbV : Below wr.heap.size wr V := by rw [hV]; (with_reducible repeat (first | exact Below.refl _ _ | apply below_alloc | apply below_dN | apply below_d | refine below_setCell ?_ (by dsimp only; omega) | refine below_call (by assumption) ?_))
            have tr : tri 69 V wr.heap.size (.int .i64 (A1 : Int)) (.int .i64 (B1 : Int)) (.int .i64 L) := by rw [hV]; exact tri.newAt rfl
            have z0' := (hbV.cell (p := ⟨b4, k1, none⟩) zl2).trans z0
            have z1' := (hbV.cell (p := ⟨b4, k, none⟩) zl2).trans z1
            have zl3 := Nat.lt_of_lt_of_le zl2 hbV.size
            have HBV := Lib.hid (HBr.out.trans (hbV.mono HBr.out.size))
            have HTR := Lib.hid tr
            clear hV hVs r0 r1 r2 rl z0 z1 zl2 n0 n1 nl hbV
            have q0 := tr.c0
            have q1 := tr.c1
            have q2 := tr.c2
            have ql := tr.lt
            clear tr
            go_cut [290] (fun cv wx => cv = .bool ((((decide (A1 = u) && decide (B1 = v)) || (decide (B1 = u) && decide (A1 = v))) && (decide (x < 0) || decide (L < x)))) ∧ Below V.heap.size V wx)
            case first =>
              by_cases e1 : A1 = u
              · subst e1
                have t3 : ¬ (B1 = A1) := fun e => hAB e.symm
                have t3' : ((B1 : Int) == (A1 : Int)) = false := by rw [beq_eq_false_iff_ne]; omega
                by_cases e2 : B1 = v
                · subst e2
                  by_cases e5 : x < 0
                  · (refine region_below (by kernel_rfl) (by kernel_rfl) ?_; (try simp only [List.append_eq, List.cons_append, List.nil_append]); (repeat (first | go_big_quiet_step (fail) | quiet_step (fail))); refine wpQuiet_nil ?_; intro w1 hb)
                    go_wp2
                    go_meet
                    case rel => exact ⟨by simp [*], hb⟩
                  · by_cases e6 : L < x
                    · (refine region_below (by kernel_rfl) (by kernel_rfl) ?_; (try simp only [List.append_eq, List.cons_append, List.nil_append]); (repeat (first | go_big_quiet_step (fail) | quiet_step (fail))); refine wpQuiet_nil ?_; intro w1 hb)
                      go_wp2
                      go_meet
                      case rel => exact ⟨by simp [*], hb⟩
                    · (refine region_below (by kernel_rfl) (by kernel_rfl) ?_; (try simp only [List.append_eq, List.cons_append, List.nil_append]); (repeat (first | go_big_quiet_step (fail) | quiet_step (fail))); refine wpQuiet_nil ?_; intro w1 hb)
                      go_wp2
                      go_meet
                      case rel => exact ⟨by simp [*], hb⟩
                · have t2 : ((B1 : Int) == (v : Int)) = false := by rw [beq_eq_false_iff_ne]; omega
                  (refine region_below (by kernel_rfl) (by kernel_rfl) ?_; (try simp only [List.append_eq, List.cons_append, List.nil_append]); (repeat (first | go_big_quiet_step (fail) | quiet_step (fail))); refine wpQuiet_nil ?_; intro w1 hb)
                  go_wp2
                  go_meet
                  case rel => exact ⟨by simp [*], hb⟩
              · have t1 : ((A1 : Int) == (u : Int)) = false := by rw [beq_eq_false_iff_ne]; omega
                by_cases e3 : B1 = u
                · subst e3
                  by_cases e4 : A1 = v
                  · subst e4
                    by_cases e5 : x < 0
                    · (refine region_below (by kernel_rfl) (by kernel_rfl) ?_; (try simp only [List.append_eq, List.cons_append, List.nil_append]); (repeat (first | go_big_quiet_step (fail) | quiet_step (fail))); refine wpQuiet_nil ?_; intro w1 hb)
                      go_wp2
                      go_meet
                      case rel => exact ⟨by simp [*], hb⟩
                    · by_cases e6 : L < x
                      · (refine region_below (by kernel_rfl) (by kernel_rfl) ?_; (try simp only [List.append_eq, List.cons_append, List.nil_append]); (repeat (first | go_big_quiet_step (fail) | quiet_step (fail))); refine wpQuiet_nil ?_; intro w1 hb)
                        go_wp2
                        go_meet
                        case rel => exact ⟨by simp [*], hb⟩
                      · (refine region_below (by kernel_rfl) (by kernel_rfl) ?_; (try simp only [List.append_eq, List.cons_append, List.nil_append]); (repeat (first | go_big_quiet_step (fail) | quiet_step (fail))); refine wpQuiet_nil ?_; intro w1 hb)
                        go_wp2
                        go_meet
                        case rel => exact ⟨by simp [*], hb⟩
                  · have t4 : ((A1 : Int) == (v : Int)) = false := by rw [beq_eq_false_iff_ne]; omega
                    (refine region_below (by kernel_rfl) (by kernel_rfl) ?_; (try simp only [List.append_eq, List.cons_append, List.nil_append]); (repeat (first | go_big_quiet_step (fail) | quiet_step (fail))); refine wpQuiet_nil ?_; intro w1 hb)
                    go_wp2
                    go_meet
                    case rel => exact ⟨by simp [*], hb⟩
                · have t3 : ((B1 : Int) == (u : Int)) = false := by rw [beq_eq_false_iff_ne]; omega
                  (refine region_below (by kernel_rfl) (by kernel_rfl) ?_; (try simp only [List.append_eq, List.cons_append, List.nil_append]); (repeat (first | go_big_quiet_step (fail) | quiet_step (fail))); refine wpQuiet_nil ?_; intro w1 hb)
                  go_wp2
                  go_meet
                  case rel => exact ⟨by simp [*], hb⟩
            case rest =>
            rename World => wx
            obtain ⟨rfl, hbx⟩ := hcut
            have hbs := HBS.out
            obtain ⟨C, hC⟩ : ∃ C, ((((decide (A1 = u) && decide (B1 = v)) || (decide (B1 = u) && decide (A1 = v))) && (decide (x < 0) || decide (L < x)))) = C := ⟨_, rfl⟩
            rw [hC] at hbs
            rw [hC]
            have HBS := Lib.hid hbs
            have tx := HTR.out.below hbx
            have HBX := Lib.hid (HBV.out.trans (hbx.mono HBV.out.size))
            clear hbs hC q0 q1 q2 ql z0' z1' zl3 hbx
            have q2 := tx.c2
            have ql := tx.lt
            clear tx
            cases C
            · go_wp2
              go_roundw
              case rel => exact ⟨j + 1, by omega, by go_num, by rw [HBS.out]; simp, HBX.out⟩
              case measure => first | (simp [intOf]; done) | (simp [intOf]; omega)
            · go_wp2
              go_roundw
              case rel => exact ⟨j + 1, by omega, by go_num, by rw [HBS.out]; simp, HBX.out⟩
              case measure => first | (simp [intOf]; done) | (simp [intOf]; omega)
          · obtain rfl : j = m := by omega
            have hji : ¬ ((j : Int) < (j : Int)) := by omega
            rw [HST.out]
            obtain ⟨bs, hbs⟩ : ∃ bs, dv - du = bs := ⟨_, rfl⟩
            rw [hbs]
            have hwr : IntKind.i64.wrap (du + bs) = dv := by rw [IntKind.wrap_i64]; omega
            have hb0 : ¬ (bs < 0) := by omega
            clear hbs
            go_wp2
            go_roundw
            case rel => exact ⟨k + 1, by omega, by omega, by go_num, by rw [HSv.out, HDV.out], HB.out.trans (HBr.out.mono hsO)⟩
            case measure => first | (simp [intOf]; done) | (simp [intOf]; omega)
      · have hki : ¬ ((k : Int) < (N : Int)) := by omega
        have hfin : D (nthI P (k - 1)).toNat = dq := by
          have h1 := HPt.out.last
          rw [HNN.out] at h1
          rw [show k - 1 = N - 1 by omega, h1, Int.toNat_natCast, HDQ.out]
        rw [hfin]
        clear hfin
        go_wp2
        refine HK.out _ _ ?_
        exact chD (HBW.out.trans (hB.mono hWs)) (HN.out.below hB) (HD1.out.below hB) hn hp (fun most hm w'' hB2 => HRO.out most hm w'' (hB.trans (hB2.mono hB.size))) HA3.out
end Go.Proofs.Ytpmeccjfjjklkaa
