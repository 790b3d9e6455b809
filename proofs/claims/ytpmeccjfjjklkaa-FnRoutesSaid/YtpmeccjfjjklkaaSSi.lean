/- Contracts of impl.areAll at whole numbers with RoutesShared's own question, and of isWorkers. No condition. -/
import Derived.Test.YtpmeccjfjjklkaaSS
namespace Go.Proofs.Ytpmeccjfjjklkaa
open Go.RowKit
set_option linter.unusedSimpArgs false
theorem isWorkers_c (x : Int) (w : World) : Calls Try.prog 66 #[.int .i64 x] w fun e w' => e = .returned (.bool (decide (1 ≤ x) && decide (x ≤ 8))) ∧ w = w' := by
  have H := Lib.hid (within_c x 1 8)
  go_enter Try.func66, Try.ntmps66
  go_wp2_with (go_at_call 51; ((with_reducible refine (H.out _).mono ?_); rintro e w' ⟨rfl, rfl⟩))
  go_ret
  exact ⟨rfl, rfl⟩
/-- What the question answers, and where it stands. -/
def Ask (v : World) (p : Nat) (P : Int → Bool) : Prop := p < v.heap.size ∧ ∀ w', Below v.heap.size v w' → ∀ x, Calls Try.prog 68 #[.int .i64 x, .pointer (some ⟨p, 0, none⟩)] w' (Ret (RV (.bool (P x))) w')
theorem Ask.below {v w : World} {p : Nat} {P : Int → Bool} (h : Ask v p P) (hb : Below v.heap.size v w) : Ask w p P := ⟨Nat.lt_of_lt_of_le h.1 hb.size, fun w' hb' x => h.2 w' (hb.trans (hb'.mono hb.size)) x⟩
set_option maxHeartbeats 400000 in
theorem rs1_c (p g n cg h m ch : Nat) (P : Int → Bool) (x : Int) (w : World) (c0 : w.cell? ⟨p, 0, none⟩ = some (.slice (some ⟨g, 0, none⟩) n cg)) (c1 : w.cell? ⟨p, 1, none⟩ = some (.slice (some ⟨h, 0, none⟩) m ch)) (HV : ∀ w', Below w.heap.size w w' → Calls Try.prog 62 #[.agg #[.slice (some ⟨g, 0, none⟩) n cg, .slice (some ⟨h, 0, none⟩) m ch], .int .i64 x] w' (Ret (RV (.bool (P x))) w')) :
    Calls Try.prog 68 #[.int .i64 x, .pointer (some ⟨p, 0, none⟩)] w (Ret (RV (.bool (P x))) w) := by
  have hlt := block_lt_of_cell c0
  simp only at hlt
  have H := Lib.hid HV
  clear HV
  generalize P x = q at H
  go_enter Try.func68, Try.ntmps68
  go_wp2_with (go_at_call 62; ((with_reducible refine (H.out _ (by (with_reducible repeat (first | exact Below.refl _ _ | apply below_alloc | apply below_dN | apply below_d | refine below_setCell ?_ (by dsimp only; omega) | refine below_call (by assumption) ?_)))).mono ?_); rintro e w1 ⟨⟨v, rfl, rfl⟩, hb⟩); have hu2 : ∀ n : Nat, n < n + 1 + 1 := (fun n => by omega); have hu3 : ∀ n : Nat, n < n + 1 + 1 + 1 := (fun n => by omega); obtain ⟨hc, hfz⟩ := bcell hb; (try simp only [World.heap_drewN] at hc hfz); have hs_ := hb.size; (try simp at hs_); (try have hz0 : w.heap.size < w1.heap.size := (by omega)); (try have hz1 : w.heap.size + 1 < w1.heap.size := (by omega)); (try have hz2 : w.heap.size + 2 < w1.heap.size := (by omega)); (try have hz3 : w.heap.size + 3 < w1.heap.size := (by omega)); (try have hza : wa.heap.size < w1.heap.size := (by omega)); (try have hza1 : wa.heap.size + 1 < w1.heap.size := (by omega)); (try have hzb : wb.heap.size < w1.heap.size := (by omega)); (try have hzb1 : wb.heap.size + 1 < w1.heap.size := (by omega)); (try have hzc : wc.heap.size < w1.heap.size := (by omega)); (try have hzd : wd.heap.size < w1.heap.size := (by omega)))
  go_ret
  exact ⟨⟨_, rfl, rfl⟩, by (with_reducible repeat (first | exact Below.refl _ _ | apply below_alloc | apply below_dN | apply below_d | refine below_setCell ?_ (by dsimp only; omega) | refine below_call (by assumption) ?_))⟩
set_option maxHeartbeats 400000 in
theorem closI_c (p c : Nat) (P : Int → Bool) (x : Int) (w : World) (hA : Ask w p P) (hcl : w.cell? ⟨c, 0, none⟩ = some (.func (.func 68) #[] #[.pointer (some ⟨p, 0, none⟩)])) :
    Calls Try.prog 80 #[.int .i64 x, .pointer (some ⟨c, 0, none⟩)] w (Ret (RV (.bool (!P x))) w) := by
  have hlt := block_lt_of_cell hcl
  simp only at hlt
  have hlt2 := hA.1
  have HV := Lib.hid (fun w' hb => hA.2 w' hb x)
  clear hA
  generalize P x = q at HV
  go_enter Try.func80, Try.ntmps80
  go_wp2_with (go_at_call 68; ((with_reducible refine (HV.out _ (by (with_reducible repeat (first | exact Below.refl _ _ | apply below_alloc | apply below_dN | apply below_d | refine below_setCell ?_ (by dsimp only; omega) | refine below_call (by assumption) ?_)))).mono ?_); rintro e w1 ⟨⟨v, rfl, rfl⟩, hb⟩); have hu2 : ∀ n : Nat, n < n + 1 + 1 := (fun n => by omega); have hu3 : ∀ n : Nat, n < n + 1 + 1 + 1 := (fun n => by omega); obtain ⟨hc, hfz⟩ := bcell hb; (try simp only [World.heap_drewN] at hc hfz); have hs_ := hb.size; (try simp at hs_); (try have hz0 : w.heap.size < w1.heap.size := (by omega)); (try have hz1 : w.heap.size + 1 < w1.heap.size := (by omega)); (try have hz2 : w.heap.size + 2 < w1.heap.size := (by omega)); (try have hz3 : w.heap.size + 3 < w1.heap.size := (by omega)); (try have hza : wa.heap.size < w1.heap.size := (by omega)); (try have hza1 : wa.heap.size + 1 < w1.heap.size := (by omega)); (try have hzb : wb.heap.size < w1.heap.size := (by omega)); (try have hzb1 : wb.heap.size + 1 < w1.heap.size := (by omega)); (try have hzc : wc.heap.size < w1.heap.size := (by omega)); (try have hzd : wd.heap.size < w1.heap.size := (by omega)))
  go_ret
  exact ⟨⟨_, rfl, rfl⟩, by (with_reducible repeat (first | exact Below.refl _ _ | apply below_alloc | apply below_dN | apply below_d | refine below_setCell ?_ (by dsimp only; omega) | refine below_call (by assumption) ?_))⟩
set_option maxHeartbeats 1000000 in
theorem indexI_c (g c p m cap : Nat) (f : Nat → Int) (P : Int → Bool) (w : World) (hm : m < 4611686018427387904) (hR : Dr w g m cap f) (hA : Ask w p P) (hcl : w.cell? ⟨c, 0, none⟩ = some (.func (.func 68) #[] #[.pointer (some ⟨p, 0, none⟩)])) :
    Calls Try.prog 89 #[.slice (some ⟨g, 0, none⟩) m cap, .func (.func 80) #[] #[.pointer (some ⟨c, 0, none⟩)]] w (Ret (fun v => ∃ k : Int, v = .int .i64 k ∧ decide (0 ≤ k) = !allB (fun j => P (f j)) m) w) := by
  have hclt : c < w.heap.size := block_lt_of_cell hcl
  go_enter Try.func89, Try.ntmps89
  go_wp2
  go_loopw [8] (fun k wr => ∃ i : Nat, i ≤ m ∧ k = .int .i64 i ∧ (∀ j, j < i → P (f j) = true) ∧ Below w.heap.size w wr) (fun k _ => m - (intOf k).toNat)
  case atStart => exact ⟨0, by omega, rfl, by omega, by (with_reducible repeat (first | exact Below.refl _ _ | apply below_alloc | apply below_dN | apply below_d | refine below_setCell ?_ (by dsimp only; omega) | refine below_call (by assumption) ?_))⟩
  case round =>
    obtain ⟨i, hi, rfl, hall, hB⟩ := hrel
    have HA := Lib.hid hall
    clear hall
    by_cases hlt : i < m
    · have hR' := hR.below hB
      have r0 := hR'.cell hlt
      have hgl := hR'.lt
      have hcl' : wr.cell? ⟨c, 0, none⟩ = some (.func (.func 68) #[] #[.pointer (some ⟨p, 0, none⟩)]) := by rw [hB.cell (p := ⟨c, 0, none⟩) hclt]; exact hcl
      have hclt' : c < wr.heap.size := Nat.lt_of_lt_of_le hclt hB.size
      have hA' := hA.below hB
      have hpt := hA'.1
      have HC := Lib.hid (fun (w' : World) (hb : Below wr.heap.size wr w') => closI_c p c P (f i) w' (hA'.below hb) ((hb.cell (p := ⟨c, 0, none⟩) hclt').trans hcl'))
      have HR := Lib.hid hR
      have HB := Lib.hid hB
      have HNEXT := Lib.hid (fun (h : P (f i) = true) (j : Nat) (hj : j < i + 1) => show P (f j) = true from if e : j = i then by rw [e]; exact h else HA.out j (by omega))
      have HF := Lib.hid (fun (h : P (f i) = false) => allB_false (f := fun j => P (f j)) hlt h)
      clear hR hR' hB hA hA' hcl
      generalize f i = z at *
      generalize P z = q at HC HNEXT HF
      cases q
      · have HF2 := Lib.hid (HF.out rfl)
        clear HF HNEXT
        go_wp2_with (first | (go_at_call 80; ((with_reducible refine (HC.out _ (by (with_reducible repeat (first | exact Below.refl _ _ | apply below_alloc | apply below_dN | apply below_d | refine below_setCell ?_ (by dsimp only; omega) | refine below_call (by assumption) ?_)))).mono ?_); rintro e w1 ⟨⟨v, rfl, rfl⟩, hb⟩)))
        go_ret
        exact ⟨⟨_, rfl, i, rfl, by rw [HF2.out]; simp⟩, by have := HB.out; (with_reducible repeat (first | exact Below.refl _ _ | apply below_alloc | apply below_dN | apply below_d | refine below_setCell ?_ (by dsimp only; omega) | refine below_call (by assumption) ?_))⟩
      · have HN := Lib.hid (HNEXT.out rfl)
        clear HF HNEXT
        go_wp2_with (first | (go_at_call 80; ((with_reducible refine (HC.out _ (by (with_reducible repeat (first | exact Below.refl _ _ | apply below_alloc | apply below_dN | apply below_d | refine below_setCell ?_ (by dsimp only; omega) | refine below_call (by assumption) ?_)))).mono ?_); rintro e w1 ⟨⟨v, rfl, rfl⟩, hb⟩)))
        go_roundw
        case rel => exact ⟨i + 1, by omega, by go_num, HN.out, by have := HB.out; (with_reducible repeat (first | exact Below.refl _ _ | apply below_alloc | apply below_dN | apply below_d | refine below_setCell ?_ (by dsimp only; omega) | refine below_call (by assumption) ?_))⟩
        case measure => first | (simp [intOf]; done) | (simp [intOf]; omega)
    · obtain rfl : i = m := by omega
      have HT := Lib.hid (allB_true (f := fun j => P (f j)) HA.out)
      go_wp2
      go_ret
      exact ⟨⟨_, rfl, -1, rfl, by rw [HT.out]; simp⟩, by (with_reducible repeat (first | exact Below.refl _ _ | apply below_alloc | apply below_dN | apply below_d | refine below_setCell ?_ (by dsimp only; omega) | refine below_call (by assumption) ?_))⟩
set_option maxHeartbeats 400000 in
theorem contI_c (g c p m cap : Nat) (f : Nat → Int) (P : Int → Bool) (w : World) (hm : m < 4611686018427387904) (hR : Dr w g m cap f) (hA : Ask w p P) (hcl : w.cell? ⟨c, 0, none⟩ = some (.func (.func 68) #[] #[.pointer (some ⟨p, 0, none⟩)])) :
    Calls Try.prog 79 #[.slice (some ⟨g, 0, none⟩) m cap, .func (.func 80) #[] #[.pointer (some ⟨c, 0, none⟩)]] w (Ret (RV (.bool (!allB (fun j => P (f j)) m))) w) := by
  have HC := Lib.hid (indexI_c g c p m cap f P w hm hR hA hcl)
  clear hR hcl hA
  go_enter Try.func79, Try.ntmps79
  go_wp2_with (first | (go_at_call 89; ((with_reducible refine (HC.out).mono ?_); rintro e w1 ⟨⟨v, rfl, k, rfl, hk⟩, hb⟩)))
  go_ret
  exact ⟨⟨_, rfl, by simp [RV, hk]⟩, by (with_reducible repeat (first | exact Below.refl _ _ | apply below_alloc | apply below_dN | apply below_d | refine below_setCell ?_ (by dsimp only; omega) | refine below_call (by assumption) ?_))⟩
set_option maxHeartbeats 400000 in
theorem areAllI_c (g p m cap : Nat) (f : Nat → Int) (P : Int → Bool) (w : World) (hm : m < 4611686018427387904) (hR : Dr w g m cap f) (hA : Ask w p P) :
    Calls Try.prog 67 #[.slice (some ⟨g, 0, none⟩) m cap, .func (.func 68) #[] #[.pointer (some ⟨p, 0, none⟩)]] w (Ret (RV (.bool (allB (fun j => P (f j)) m))) w) := by
  have hpt := hA.1
  have HC := Lib.hid (fun (w' : World) (hB : Below w.heap.size w w') (hcl : w'.cell? ⟨w.heap.size, 0, none⟩ = some (.func (.func 68) #[] #[.pointer (some ⟨p, 0, none⟩)])) => contI_c g w.heap.size p m cap f P w' hm (hR.below hB) (hA.below hB) hcl)
  clear hR hA
  go_enter Try.func67, Try.ntmps67
  go_wp2_with (first | (go_at_call 79; ((with_reducible refine (HC.out _ (by (with_reducible repeat (first | exact Below.refl _ _ | apply below_alloc | apply below_dN | apply below_d | refine below_setCell ?_ (by dsimp only; omega) | refine below_call (by assumption) ?_))) (by simp)).mono ?_); rintro e w1 ⟨⟨v, rfl, rfl⟩, hb⟩)))
  go_ret
  exact ⟨⟨_, rfl, by simp [RV]⟩, by (with_reducible repeat (first | exact Below.refl _ _ | apply below_alloc | apply below_dN | apply below_d | refine below_setCell ?_ (by dsimp only; omega) | refine below_call (by assumption) ?_))⟩
end Go.Proofs.Ytpmeccjfjjklkaa
