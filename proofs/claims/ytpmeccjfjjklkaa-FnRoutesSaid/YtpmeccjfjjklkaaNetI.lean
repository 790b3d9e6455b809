/- Contract of impl.ValidNet. No condition. -/
import Derived.Test.YtpmeccjfjjklkaaNet
namespace Go.Proofs.Ytpmeccjfjjklkaa
open Go.RowKit
set_option linter.unusedSimpArgs false
def rdV (n : Nat) (x y z : Int) : Bool := (decide (0 ≤ x) && decide (x ≤ (n : Int) - 1)) && ((decide (0 ≤ y) && decide (y ≤ (n : Int) - 1)) && (!(x == y) && (decide (1 ≤ z) && decide (z ≤ 1000000))))
set_option maxRecDepth 100000 in
set_option maxHeartbeats 2000000 in
theorem vn1_c (n pc : Nat) (x y z : Int) (w : World) (hcl : w.cell? ⟨pc, 0, none⟩ = some (.int .i64 ((n : Int) - 1))) :
    Calls Try.prog 50 #[.agg #[.int .i64 x, .int .i64 y, .int .i64 z], .pointer (some ⟨pc, 0, none⟩)] w (Ret (RV (.bool (rdV n x y z))) w) := by
  have hlt := block_lt_of_cell hcl
  simp only at hlt
  have i1 := within_c x 0 ((n : Int) - 1)
  have i2 := within_c y 0 ((n : Int) - 1)
  have i3 := within_c z 1 1000000
  unfold rdV
  cases k1 : (decide (0 ≤ x) && decide (x ≤ (n : Int) - 1)) <;> cases k2 : (decide (0 ≤ y) && decide (y ≤ (n : Int) - 1)) <;> cases k3 : (x == y) <;> cases k4 : (decide (1 ≤ z) && decide (z ≤ 1000000)) <;>
  (rw [k1] at i1
   rw [k2] at i2
   rw [k4] at i3
   have I1 := Lib.hid i1
   have I2 := Lib.hid i2
   have I3 := Lib.hid i3
   have k5 : (x != y) = !(x == y) := rfl
   rw [k3] at k5
   simp only [Bool.not_true, Bool.not_false] at k5
   clear i1 i2 i3
   go_enter Try.func50, Try.ntmps50
   go_wp2_with (first | (go_at_call 51; (with_reducible refine ((I1).out _).mono ?_); rintro e w' ⟨rfl, rfl⟩) | (go_at_call 51; (with_reducible refine ((I2).out _).mono ?_); rintro e w' ⟨rfl, rfl⟩) | (go_at_call 51; (with_reducible refine ((I3).out _).mono ?_); rintro e w' ⟨rfl, rfl⟩))
   go_ret
   exact ⟨⟨_, rfl, rfl⟩, by (with_reducible repeat (first | exact Below.refl _ _ | apply below_alloc | apply below_dN | apply below_d | refine below_setCell ?_ (by dsimp only; omega) | refine below_call (by assumption) ?_))⟩)
theorem rdV_eq (n : Nat) (a b l : Nat → Int) (j : Nat) : rdV n (a j) (b j) (l j) = rdOk n a b l j := rfl
set_option maxHeartbeats 400000 in
theorem clos_c (n c pc : Nat) (x y z : Int) (w : World) (hcl : w.cell? ⟨c, 0, none⟩ = some (.func (.func 50) #[] #[.pointer (some ⟨pc, 0, none⟩)])) (hpc : w.cell? ⟨pc, 0, none⟩ = some (.int .i64 ((n : Int) - 1))) :
    Calls Try.prog 76 #[.agg #[.int .i64 x, .int .i64 y, .int .i64 z], .pointer (some ⟨c, 0, none⟩)] w (Ret (RV (.bool (!rdV n x y z))) w) := by
  have hlt := block_lt_of_cell hcl
  simp only at hlt
  have hlt2 := block_lt_of_cell hpc
  simp only at hlt2
  have HV := Lib.hid (fun w' h => vn1_c n pc x y z w' h)
  generalize rdV n x y z = q at HV
  go_enter Try.func76, Try.ntmps76
  go_wp2_with (go_at_call 50; ((with_reducible refine (HV.out _ (by first | assumption | (go_simp; done))).mono ?_); rintro e w1 ⟨⟨v, rfl, rfl⟩, hb⟩); have hu2 : ∀ n : Nat, n < n + 1 + 1 := (fun n => by omega); have hu3 : ∀ n : Nat, n < n + 1 + 1 + 1 := (fun n => by omega); obtain ⟨hc, hfz⟩ := bcell hb; (try simp only [World.heap_drewN] at hc hfz); have hs_ := hb.size; (try simp at hs_); (try have hz0 : w.heap.size < w1.heap.size := (by omega)); (try have hz1 : w.heap.size + 1 < w1.heap.size := (by omega)); (try have hz2 : w.heap.size + 2 < w1.heap.size := (by omega)); (try have hz3 : w.heap.size + 3 < w1.heap.size := (by omega)); (try have hza : wa.heap.size < w1.heap.size := (by omega)); (try have hza1 : wa.heap.size + 1 < w1.heap.size := (by omega)); (try have hzb : wb.heap.size < w1.heap.size := (by omega)); (try have hzb1 : wb.heap.size + 1 < w1.heap.size := (by omega)); (try have hzc : wc.heap.size < w1.heap.size := (by omega)); (try have hzd : wd.heap.size < w1.heap.size := (by omega)))
  go_ret
  exact ⟨⟨_, rfl, rfl⟩, by (with_reducible repeat (first | exact Below.refl _ _ | apply below_alloc | apply below_dN | apply below_d | refine below_setCell ?_ (by dsimp only; omega) | refine below_call (by assumption) ?_))⟩
set_option maxHeartbeats 1000000 in
theorem indexRd_c (g c pc n m cap : Nat) (a b l : Nat → Int) (w : World) (hm : m < 4611686018427387904) (hR : RdBlk w g m a b l) (hcl : w.cell? ⟨c, 0, none⟩ = some (.func (.func 50) #[] #[.pointer (some ⟨pc, 0, none⟩)])) (hpc : w.cell? ⟨pc, 0, none⟩ = some (.int .i64 ((n : Int) - 1))) :
    Calls Try.prog 87 #[.slice (some ⟨g, 0, none⟩) m cap, .func (.func 76) #[] #[.pointer (some ⟨c, 0, none⟩)]] w (Ret (fun v => ∃ k : Int, v = .int .i64 k ∧ decide (0 ≤ k) = !allB (rdOk n a b l) m) w) := by
  have hclt : c < w.heap.size := block_lt_of_cell hcl
  have hpct : pc < w.heap.size := block_lt_of_cell hpc
  go_enter Try.func87, Try.ntmps87
  go_wp2
  go_loopw [8] (fun k wr => ∃ i : Nat, i ≤ m ∧ k = .int .i64 i ∧ (∀ j, j < i → rdOk n a b l j = true) ∧ Below w.heap.size w wr) (fun k _ => m - (intOf k).toNat)
  case atStart => exact ⟨0, by omega, rfl, by omega, by (with_reducible repeat (first | exact Below.refl _ _ | apply below_alloc | apply below_dN | apply below_d | refine below_setCell ?_ (by dsimp only; omega) | refine below_call (by assumption) ?_))⟩
  case round =>
    obtain ⟨i, hi, rfl, hall, hB⟩ := hrel
    have HA := Lib.hid hall
    clear hall
    by_cases hlt : i < m
    · have hR' := hR.below hB hR.lt
      have r0 := hR'.c0 hlt
      have r1 := hR'.c1 hlt
      have r2 := hR'.c2 hlt
      have hgl := hR'.lt
      have hcl' : wr.cell? ⟨c, 0, none⟩ = some (.func (.func 50) #[] #[.pointer (some ⟨pc, 0, none⟩)]) := by rw [hB.cell (p := ⟨c, 0, none⟩) hclt]; exact hcl
      have hpc' : wr.cell? ⟨pc, 0, none⟩ = some (.int .i64 ((n : Int) - 1)) := by rw [hB.cell (p := ⟨pc, 0, none⟩) hpct]; exact hpc
      have hclt' : c < wr.heap.size := Nat.lt_of_lt_of_le hclt hB.size
      have hpct' : pc < wr.heap.size := Nat.lt_of_lt_of_le hpct hB.size
      have HR := Lib.hid hR
      have HB := Lib.hid hB
      clear hR hR' hcl hpc hB
      have HC := Lib.hid (fun (w' : World) h1 h2 => clos_c n c pc (a i) (b i) (l i) w' h1 h2)
      have HNEXT := Lib.hid (fun (h : rdV n (a i) (b i) (l i) = true) (j : Nat) (hj : j < i + 1) => show rdOk n a b l j = true from if e : j = i then by rw [e]; exact h else HA.out j (by omega))
      have HF := Lib.hid (fun (h : rdV n (a i) (b i) (l i) = false) => allB_false hlt (show rdOk n a b l i = false from h))
      generalize rdV n (a i) (b i) (l i) = q at HC HNEXT HF
      cases q
      · have HF2 := Lib.hid (HF.out rfl)
        clear HF HNEXT
        go_wp2_with (first | (go_at_call 76; ((with_reducible refine (HC.out _ (by first | assumption | (go_simp; done)) (by first | assumption | (go_simp; done))).mono ?_); rintro e w1 ⟨⟨v, rfl, rfl⟩, hb⟩)))
        go_ret
        exact ⟨⟨_, rfl, i, rfl, by rw [HF2.out]; simp⟩, by have := HB.out; (with_reducible repeat (first | exact Below.refl _ _ | apply below_alloc | apply below_dN | apply below_d | refine below_setCell ?_ (by dsimp only; omega) | refine below_call (by assumption) ?_))⟩
      · have HN := Lib.hid (HNEXT.out rfl)
        clear HF HNEXT
        go_wp2_with (first | (go_at_call 76; ((with_reducible refine (HC.out _ (by first | assumption | (go_simp; done)) (by first | assumption | (go_simp; done))).mono ?_); rintro e w1 ⟨⟨v, rfl, rfl⟩, hb⟩)))
        go_roundw
        case rel => exact ⟨i + 1, by omega, by go_num, HN.out, by have := HB.out; (with_reducible repeat (first | exact Below.refl _ _ | apply below_alloc | apply below_dN | apply below_d | refine below_setCell ?_ (by dsimp only; omega) | refine below_call (by assumption) ?_))⟩
        case measure => first | (simp [intOf]; done) | (simp [intOf]; omega)
    · obtain rfl : i = m := by omega
      have HT := Lib.hid (allB_true HA.out)
      go_wp2
      go_ret
      exact ⟨⟨_, rfl, -1, rfl, by rw [HT.out]; simp⟩, by (with_reducible repeat (first | exact Below.refl _ _ | apply below_alloc | apply below_dN | apply below_d | refine below_setCell ?_ (by dsimp only; omega) | refine below_call (by assumption) ?_))⟩
set_option maxHeartbeats 400000 in
theorem contRd_c (g c pc n m cap : Nat) (a b l : Nat → Int) (w : World) (hm : m < 4611686018427387904) (hR : RdBlk w g m a b l) (hcl : w.cell? ⟨c, 0, none⟩ = some (.func (.func 50) #[] #[.pointer (some ⟨pc, 0, none⟩)])) (hpc : w.cell? ⟨pc, 0, none⟩ = some (.int .i64 ((n : Int) - 1))) :
    Calls Try.prog 75 #[.slice (some ⟨g, 0, none⟩) m cap, .func (.func 76) #[] #[.pointer (some ⟨c, 0, none⟩)]] w (Ret (RV (.bool (!allB (rdOk n a b l) m))) w) := by
  have HC := Lib.hid (indexRd_c g c pc n m cap a b l w hm hR hcl hpc)
  clear hR hcl hpc
  go_enter Try.func75, Try.ntmps75
  go_wp2_with (first | (go_at_call 87; ((with_reducible refine (HC.out).mono ?_); rintro e w1 ⟨⟨v, rfl, k, rfl, hk⟩, hb⟩)))
  go_ret
  exact ⟨⟨_, rfl, by simp [RV, hk]⟩, by (with_reducible repeat (first | exact Below.refl _ _ | apply below_alloc | apply below_dN | apply below_d | refine below_setCell ?_ (by dsimp only; omega) | refine below_call (by assumption) ?_))⟩
set_option maxHeartbeats 400000 in
theorem areAllRd_c (g pc n m cap : Nat) (a b l : Nat → Int) (w : World) (hm : m < 4611686018427387904) (hR : RdBlk w g m a b l) (hpc : w.cell? ⟨pc, 0, none⟩ = some (.int .i64 ((n : Int) - 1))) :
    Calls Try.prog 49 #[.slice (some ⟨g, 0, none⟩) m cap, .func (.func 50) #[] #[.pointer (some ⟨pc, 0, none⟩)]] w (Ret (RV (.bool (allB (rdOk n a b l) m))) w) := by
  have hpct : pc < w.heap.size := block_lt_of_cell hpc
  have HC := Lib.hid (fun (w' : World) (hB : Below w.heap.size w w') (hcl : w'.cell? ⟨w.heap.size, 0, none⟩ = some (.func (.func 50) #[] #[.pointer (some ⟨pc, 0, none⟩)])) => contRd_c g w.heap.size pc n m cap a b l w' hm (hR.below hB hR.lt) hcl ((hB.cell (p := ⟨pc, 0, none⟩) hpct).trans hpc))
  clear hR hpc
  go_enter Try.func49, Try.ntmps49
  go_wp2_with (first | (go_at_call 75; ((with_reducible refine (HC.out _ (by (with_reducible repeat (first | exact Below.refl _ _ | apply below_alloc | apply below_dN | apply below_d | refine below_setCell ?_ (by dsimp only; omega) | refine below_call (by assumption) ?_))) (by simp)).mono ?_); rintro e w1 ⟨⟨v, rfl, rfl⟩, hb⟩)))
  go_ret
  exact ⟨⟨_, rfl, by simp [RV]⟩, by (with_reducible repeat (first | exact Below.refl _ _ | apply below_alloc | apply below_dN | apply below_d | refine below_setCell ?_ (by dsimp only; omega) | refine below_call (by assumption) ?_))⟩
set_option maxRecDepth 100000 in
set_option maxHeartbeats 1000000 in
theorem iValidNet_c (g h n m cg ch : Nat) (X Y : Nat → Nat) (a b l : Nat → Int) (w : World) (hg : g < w.heap.size) (hn : n ≤ 1048576) (hm : m ≤ 1048576) (hP : PlCells w g n X Y) (hR : RdBlk w h m a b l) :
    Calls Try.prog 13 #[.agg #[.slice (some ⟨g, 0, none⟩) n cg, .slice (some ⟨h, 0, none⟩) m ch]] w (Ret (RV (.bool (netOk n m X Y a b l))) w) := by
  have HA := Lib.hid (fun (w' : World) (hB : Below w.heap.size w w') => iArePlaces_c g n cg X Y w' (Nat.lt_of_lt_of_le hg hB.size) hn (fun j hj => by
    obtain ⟨r, s, h1, h2, h3⟩ := hP j hj
    exact ⟨r, s, (hB.cell (p := ⟨g, j * 2, none⟩) hg).trans h1, (hB.cell (p := ⟨g, j * 2 + 1, none⟩) hg).trans h2, h3⟩))
  have HR := Lib.hid (fun (w' : World) (hB : Below w.heap.size w w') pc hpc => areAllRd_c h pc n m ch a b l w' (by omega) (hR.below hB hR.lt) hpc)
  unfold netOk
  clear hP hR
  generalize arePl n X Y = q at HA
  generalize allB (rdOk n a b l) m = r at HR
  have hmd : decide (m ≤ 64) = decide ((m : Int) ≤ 64) := by rw [Bool.eq_iff_iff]; simp; omega
  rw [hmd]
  cases q
  · go_enter Try.func13, Try.ntmps13
    go_wp2_with (first | (go_at_call 47; go_in) | (go_at_call 48; ((with_reducible refine (HA.out _ (by (with_reducible repeat (first | exact Below.refl _ _ | apply below_alloc | apply below_dN | apply below_d | refine below_setCell ?_ (by dsimp only; omega) | refine below_call (by assumption) ?_)))).mono ?_); rintro e w1 ⟨⟨v, rfl, rfl⟩, hb⟩); have hu2 : ∀ n : Nat, n < n + 1 + 1 := (fun n => by omega); have hu3 : ∀ n : Nat, n < n + 1 + 1 + 1 := (fun n => by omega); obtain ⟨hc, hfz⟩ := bcell hb; (try simp only [World.heap_drewN] at hc hfz); have hs_ := hb.size; (try simp at hs_); (try have hz0 : w.heap.size < w1.heap.size := (by omega)); (try have hz1 : w.heap.size + 1 < w1.heap.size := (by omega)); (try have hz2 : w.heap.size + 2 < w1.heap.size := (by omega)); (try have hz3 : w.heap.size + 3 < w1.heap.size := (by omega)); (try have hza : wa.heap.size < w1.heap.size := (by omega)); (try have hza1 : wa.heap.size + 1 < w1.heap.size := (by omega)); (try have hzb : wb.heap.size < w1.heap.size := (by omega)); (try have hzb1 : wb.heap.size + 1 < w1.heap.size := (by omega)); (try have hzc : wc.heap.size < w1.heap.size := (by omega)); (try have hzd : wd.heap.size < w1.heap.size := (by omega))))
    go_ret
    exact ⟨⟨_, rfl, rfl⟩, by (with_reducible repeat (first | exact Below.refl _ _ | apply below_alloc | apply below_dN | apply below_d | refine below_setCell ?_ (by dsimp only; omega) | refine below_call (by assumption) ?_))⟩
  · by_cases h64 : (m : Int) ≤ 64
    · rw [decide_eq_true h64]
      go_enter Try.func13, Try.ntmps13
      go_wp2_with (first | (go_at_call 47; go_in) | (go_at_call 48; ((with_reducible refine (HA.out _ (by (with_reducible repeat (first | exact Below.refl _ _ | apply below_alloc | apply below_dN | apply below_d | refine below_setCell ?_ (by dsimp only; omega) | refine below_call (by assumption) ?_)))).mono ?_); rintro e w1 ⟨⟨v, rfl, rfl⟩, hb⟩); have hu2 : ∀ n : Nat, n < n + 1 + 1 := (fun n => by omega); have hu3 : ∀ n : Nat, n < n + 1 + 1 + 1 := (fun n => by omega); obtain ⟨hc, hfz⟩ := bcell hb; (try simp only [World.heap_drewN] at hc hfz); have hs_ := hb.size; (try simp at hs_); (try have hz0 : w.heap.size < w1.heap.size := (by omega)); (try have hz1 : w.heap.size + 1 < w1.heap.size := (by omega)); (try have hz2 : w.heap.size + 2 < w1.heap.size := (by omega)); (try have hz3 : w.heap.size + 3 < w1.heap.size := (by omega)); (try have hza : wa.heap.size < w1.heap.size := (by omega)); (try have hza1 : wa.heap.size + 1 < w1.heap.size := (by omega)); (try have hzb : wb.heap.size < w1.heap.size := (by omega)); (try have hzb1 : wb.heap.size + 1 < w1.heap.size := (by omega)); (try have hzc : wc.heap.size < w1.heap.size := (by omega)); (try have hzd : wd.heap.size < w1.heap.size := (by omega))) | (go_at_call 49; ((with_reducible refine (HR.out _ (by (with_reducible repeat (first | exact Below.refl _ _ | apply below_alloc | apply below_dN | apply below_d | refine below_setCell ?_ (by dsimp only; omega) | refine below_call (by assumption) ?_))) (w.heap.size + 1) (by first | assumption | (simp [hc]; done) | (go_simp; done))).mono ?_); rintro e w1 ⟨⟨v, rfl, rfl⟩, hb⟩); have hu2 : ∀ n : Nat, n < n + 1 + 1 := (fun n => by omega); have hu3 : ∀ n : Nat, n < n + 1 + 1 + 1 := (fun n => by omega); obtain ⟨hc, hfz⟩ := bcell hb; (try simp only [World.heap_drewN] at hc hfz); have hs_ := hb.size; (try simp at hs_); (try have hz0 : w.heap.size < w1.heap.size := (by omega)); (try have hz1 : w.heap.size + 1 < w1.heap.size := (by omega)); (try have hz2 : w.heap.size + 2 < w1.heap.size := (by omega)); (try have hz3 : w.heap.size + 3 < w1.heap.size := (by omega)); (try have hza : wa.heap.size < w1.heap.size := (by omega)); (try have hza1 : wa.heap.size + 1 < w1.heap.size := (by omega)); (try have hzb : wb.heap.size < w1.heap.size := (by omega)); (try have hzb1 : wb.heap.size + 1 < w1.heap.size := (by omega)); (try have hzc : wc.heap.size < w1.heap.size := (by omega)); (try have hzd : wd.heap.size < w1.heap.size := (by omega))))
      go_ret
      exact ⟨⟨_, rfl, rfl⟩, by (with_reducible repeat (first | exact Below.refl _ _ | apply below_alloc | apply below_dN | apply below_d | refine below_setCell ?_ (by dsimp only; omega) | refine below_call (by assumption) ?_))⟩
    · rw [decide_eq_false h64]
      go_enter Try.func13, Try.ntmps13
      go_wp2_with (first | (go_at_call 47; go_in) | (go_at_call 48; ((with_reducible refine (HA.out _ (by (with_reducible repeat (first | exact Below.refl _ _ | apply below_alloc | apply below_dN | apply below_d | refine below_setCell ?_ (by dsimp only; omega) | refine below_call (by assumption) ?_)))).mono ?_); rintro e w1 ⟨⟨v, rfl, rfl⟩, hb⟩); have hu2 : ∀ n : Nat, n < n + 1 + 1 := (fun n => by omega); have hu3 : ∀ n : Nat, n < n + 1 + 1 + 1 := (fun n => by omega); obtain ⟨hc, hfz⟩ := bcell hb; (try simp only [World.heap_drewN] at hc hfz); have hs_ := hb.size; (try simp at hs_); (try have hz0 : w.heap.size < w1.heap.size := (by omega)); (try have hz1 : w.heap.size + 1 < w1.heap.size := (by omega)); (try have hz2 : w.heap.size + 2 < w1.heap.size := (by omega)); (try have hz3 : w.heap.size + 3 < w1.heap.size := (by omega)); (try have hza : wa.heap.size < w1.heap.size := (by omega)); (try have hza1 : wa.heap.size + 1 < w1.heap.size := (by omega)); (try have hzb : wb.heap.size < w1.heap.size := (by omega)); (try have hzb1 : wb.heap.size + 1 < w1.heap.size := (by omega)); (try have hzc : wc.heap.size < w1.heap.size := (by omega)); (try have hzd : wd.heap.size < w1.heap.size := (by omega))))
      go_ret
      exact ⟨⟨_, rfl, rfl⟩, by (with_reducible repeat (first | exact Below.refl _ _ | apply below_alloc | apply below_dN | apply below_d | refine below_setCell ?_ (by dsimp only; omega) | refine below_call (by assumption) ?_))⟩
end Go.Proofs.Ytpmeccjfjjklkaa
