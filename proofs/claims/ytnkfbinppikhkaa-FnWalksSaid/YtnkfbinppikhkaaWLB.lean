/- The legs' turns in the law of walks. No condition. -/
import Derived.Test.YtnkfbinppikhkaaWLC
namespace Go.Proofs.Ytnkfbinppikhkaa
open Go.RowKit Go.Deep
set_option linter.unusedSimpArgs false
set_option linter.unusedVariables false
set_option maxRecDepth 100000 in
set_option maxHeartbeats 16000000 in
theorem wlB {u0 u2 u3 u4 u8 u9 u10 u11 u12 u13 u14 u15 u16 u17 u18 u19 u20 u21 u22 u23 u24 u25 u26 u27 u28 u29 u30 u31 u32 u33 u34 u35 u36 u37 u38 u39 u40 u41 u42 u43 u44 u45 u46 u47 u48 u49 u50 u51 u52 u53 u54 u55 u56 u57 u58 u59 u60 u61 u62 u63 u64 u65 u66 u67 u68 u69 u70 u71 u72 u73 u74 u75 u76 u77 u78 u79 u80 u81 u82 u83 u84 u85 u86 u87 u88 u89 u90 u91 u92 u93 u94 u95 u96 u97 u98 u99 u100 u101 u102 u103 u104 u105 u106 u107 u108 u109 u110 u111 u112 u113 u114 u115 u116 u117 u118 u119 u120 u121 u122 u123 u124 u125 u126 u127 u128 u129 u130 u131 u132 u133 u134 u135 u136 u137 u138 u139 u140 u141 u142 u143 u144 u145 u146 u147 u148 u149 u150 u151 u152 u153 u154 u155 u156 u157 u158 u159 u160 u161 u162 u163 u164 u165 u166 u167 u168 u169 u170 u171 u172 u173 u174 u175 u176 u177 u178 u179 u180 u181 u182 u183 u184 u185 u186 u187 u188 u189 u190 u191 u192 u193 u194 u195 u196 u197 u198 : Value} {A' Am Al : Option Addr} {nb' c' n cm cl : Nat} {a b : Nat → Int} {W w : World} (hBW : Below W.heap.size W w) (hX : CxArg w Am n (fun j => qz (a j)) (fun j => qz (b j))) (hL : LgArg w Al (n - 1) (lT a b) (lL a b)) (hM : Mk n a b)
    (hA1 : ∀ w', Below W.heap.size W w' → Calls Try.prog 5 #[.slice A' nb' c', .int .i64 1, .int .i64 33] w' (fun e w'' => ∃ r : Nat, r < 33 ∧ e = .returned (.int .i64 (r : Int)) ∧ w' = w''))
    (hA2 : ∀ w', Below W.heap.size W w' → Calls Try.prog 5 #[.slice A' nb' c', .int .i64 2, .int .i64 33] w' (fun e w'' => ∃ r : Nat, r < 33 ∧ e = .returned (.int .i64 (r : Int)) ∧ w' = w'')) :
    (seqAt 8 (bodyOf Try.f3)).wp Try.prog (QW W) { tmps := #[u0, .slice A' nb' c', u2, u3, u4, .int .i64 (n : Int), .slice Am n cm, .slice Al (n - 1) cl, u8, u9, u10, u11, u12, u13, u14, u15, u16, u17, u18, u19, u20, u21, u22, u23, u24, u25, u26, u27, u28, u29, u30, u31, u32, u33, u34, u35, u36, u37, u38, u39, u40, u41, u42, u43, u44, u45, u46, u47, u48, u49, u50, u51, u52, u53, u54, u55, u56, u57, u58, u59, u60, u61, u62, u63, u64, u65, u66, u67, u68, u69, u70, u71, u72, u73, u74, u75, u76, u77, u78, u79, u80, u81, u82, u83, u84, u85, u86, u87, u88, u89, u90, u91, u92, u93, u94, u95, u96, u97, u98, u99, u100, u101, u102, u103, u104, u105, u106, u107, u108, u109, u110, u111, u112, u113, u114, u115, u116, u117, u118, u119, u120, u121, u122, u123, u124, u125, u126, u127, u128, u129, u130, u131, u132, u133, u134, u135, u136, u137, u138, u139, u140, u141, u142, u143, u144, u145, u146, u147, u148, u149, u150, u151, u152, u153, u154, u155, u156, u157, u158, u159, u160, u161, u162, u163, u164, u165, u166, u167, u168, u169, u170, u171, u172, u173, u174, u175, u176, u177, u178, u179, u180, u181, u182, u183, u184, u185, u186, u187, u188, u189, u190, u191, u192, u193, u194, u195, u196, u197, u198], defers := [] } w := by
  have HX := Lib.hid hX
  have HL := Lib.hid hL
  have HM := Lib.hid hM
  have HA1 := Lib.hid hA1
  have HA2 := Lib.hid hA2
  have HBW := Lib.hid hBW
  have hWs := hBW.size
  have h2 := hM.n2
  have h9 := hM.n9
  clear hX hL hM hA1 hA2 hBW
  dsimp only [seqAt, bodyOf, Try.f3]
  unfold QW
  apply wp_seq_k
  intro K1 hK1
  have HK1 := Lib.hid hK1
  clear hK1
  go_wp2
  go_loopw [94] (fun k wr => ∃ m : Nat, m ≤ n - 1 ∧ k = .int .i64 (m : Int) ∧ Below w.heap.size w wr) (fun k _ => n - (intOf k).toNat)
  case atStart => exact ⟨0, by omega, rfl, Below.refl _ _⟩
  case round =>
    rename World => wO
    obtain ⟨m, hm, rfl, hB⟩ := hrel
    have HB := Lib.hid hB
    by_cases hlt : m < n - 1
    · have hlt' : (m : Int) < ((n - 1 : Nat) : Int) := by omega
      have hm0 : (0 : Int) ≤ (m : Int) := by omega
      obtain ⟨g, rfl, hg, tu, lo, c0, c1, hT, -, otu, olo⟩ := HL.out.below hB m hlt
      obtain ⟨-, -, -, k⟩ := leg_facts HM.out (show m + 1 < n by omega)
      have t0 : flt .f32 (cn .f32 tu) 0 = false := by rw [hT]; exact k.t0
      have t1 : fgt .f32 (cn .f32 tu) 1065353216 = false := by rw [hT]; exact k.t1
      clear hB hT k c1 otu olo
      go_wp2
      go_roundw
      case rel => exact ⟨m + 1, by omega, by go_num, HB.out⟩
      case measure => first | (simp [intOf]; done) | (simp [intOf]; omega)
    · obtain rfl : m = n - 1 := by omega
      have hlt' : ¬ (((n - 1 : Nat) : Int) < ((n - 1 : Nat) : Int)) := by omega
      clear hB
      go_wp2
      refine HK1.out _ _ ?_
      exact wlC (HBW.out.trans (HB.out.mono hWs)) (HX.out.below HB.out) HM.out HA1.out HA2.out
end Go.Proofs.Ytnkfbinppikhkaa
