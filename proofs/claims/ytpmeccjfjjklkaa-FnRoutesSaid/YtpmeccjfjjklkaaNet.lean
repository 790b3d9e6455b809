/- Contracts of nets: their size, their copy, held against each other, asked whether they are nets. No condition. -/
import Derived.Test.YtpmeccjfjjklkaaRds
import Derived.Deep.RegionHeld3
namespace Go.Proofs.Ytpmeccjfjjklkaa
open Go.RowKit
set_option linter.unusedSimpArgs false

def allB (f : Nat → Bool) (n : Nat) : Bool := (List.range n).all f
theorem allB_true {f : Nat → Bool} {n : Nat} (h : ∀ j, j < n → f j = true) : allB f n = true := by simpa [allB] using h
theorem allB_false {f : Nat → Bool} {n m : Nat} (hm : m < n) (h : f m = false) : allB f n = false := by
  simp only [allB, List.all_eq_false, List.mem_range]
  exact ⟨m, hm, by simp [h]⟩
theorem allB_of {f : Nat → Bool} {n : Nat} (h : allB f n = true) : ∀ j, j < n → f j = true := by simpa [allB] using h
theorem allP_of {X Y : Nat → Nat} {n : Nat} (h : allP X Y n = true) : ∀ j, j < n → vplace (X j) (Y j) = true := by simpa [allP] using h
/-- Whether a road is one of n places. -/
def rdOk (n : Nat) (a b l : Nat → Int) (j : Nat) : Bool := (decide (0 ≤ a j) && decide (a j ≤ (n : Int) - 1)) && ((decide (0 ≤ b j) && decide (b j ≤ (n : Int) - 1)) && (!(a j == b j) && (decide (1 ≤ l j) && decide (l j ≤ 1000000))))
def netOk (n m : Nat) (X Y : Nat → Nat) (a b l : Nat → Int) : Bool := arePl n X Y && (decide (m ≤ 64) && allB (rdOk n a b l) m)

set_option maxRecDepth 100000 in
set_option maxHeartbeats 2000000 in
theorem l07Net_c (p g h n m cg ch : Nat) (X Y : Nat → Nat) (a b l : Nat → Int) (w : World) (hn : n ≤ 1048576) (hm : m ≤ 1048576) (c0 : w.cell? ⟨p, 0, none⟩ = some (.slice (some ⟨g, 0, none⟩) n cg)) (c1 : w.cell? ⟨p, 1, none⟩ = some (.slice (some ⟨h, 0, none⟩) m ch)) (hP : PlCells w g n X Y) (hR : RdBlk w h m a b l) :
    Calls Try.prog 46 #[.pointer (some ⟨p, 0, none⟩)] w (Ret (RV (.bool (netOk n m X Y a b l))) w) := by
  have hA := l02Are_c g n cg X Y w hn hP
  clear hP
  cases hpl : arePl n X Y
  · rw [hpl] at hA
    have HA := Lib.hid hA
    have hk : netOk n m X Y a b l = false := by unfold netOk; rw [hpl]; rfl
    rw [hk]
    clear hA hpl hk hR
    go_enter Try.func46, Try.ntmps46
    go_wp2_with (first | (go_at_call 73; (with_reducible refine (HA.out).mono ?_); rintro e w' ⟨rfl, rfl⟩))
    go_ret
    exact ⟨⟨_, rfl, rfl⟩, Below.refl _ _⟩
  · rw [hpl] at hA
    have HA := Lib.hid hA
    clear hA
    by_cases hm64 : m ≤ 64
    · have hm64' : ¬ ((64 : Int) < (m : Int)) := by omega
      have hk : netOk n m X Y a b l = allB (rdOk n a b l) m := by unfold netOk; rw [hpl, decide_eq_true hm64]; rfl
      rw [hk]
      clear hpl hk
      go_enter Try.func46, Try.ntmps46
      go_wp2_with (first | (go_at_call 73; (with_reducible refine (HA.out).mono ?_); rintro e w' ⟨rfl, rfl⟩))
      go_loopw [31] (fun k wr => ∃ i : Nat, i ≤ m ∧ k = .int .i64 i ∧ (∀ j, j < i → rdOk n a b l j = true) ∧ Below w.heap.size w wr) (fun k _ => m - (intOf k).toNat)
      case atStart => exact ⟨0, by omega, rfl, by omega, by (with_reducible repeat (first | exact Below.refl _ _ | apply below_alloc | apply below_dN | apply below_d | refine below_setCell ?_ (by dsimp only; omega) | refine below_call (by assumption) ?_))⟩
      case round =>
        obtain ⟨i, hi, rfl, hall, hB⟩ := hrel
        have c0' : wr.cell? ⟨p, 0, none⟩ = some (.slice (some ⟨g, 0, none⟩) n cg) := (hB.cell (p := ⟨p, 0, none⟩) (block_lt_of_cell c0)).trans c0
        have c1' : wr.cell? ⟨p, 1, none⟩ = some (.slice (some ⟨h, 0, none⟩) m ch) := (hB.cell (p := ⟨p, 1, none⟩) (block_lt_of_cell c1)).trans c1
        have hR' := hR.below hB hR.lt
        have HB := Lib.hid hB
        clear hB c0 c1 hR
        have HALL := Lib.hid hall
        clear hall
        by_cases hlt : i < m
        · have r0 := hR'.c0 hlt
          have r1 := hR'.c1 hlt
          have r2 := hR'.c2 hlt
          have hhl := hR'.lt
          have HR := Lib.hid hR'
          clear hR'
          have hdef : rdOk n a b l i = ((decide (0 ≤ a i) && decide (a i ≤ (n : Int) - 1)) && ((decide (0 ≤ b i) && decide (b i ≤ (n : Int) - 1)) && (!(a i == b i) && (decide (1 ≤ l i) && decide (l i ≤ 1000000))))) := rfl
          have HNEXT := Lib.hid (fun (h : rdOk n a b l i = true) (j : Nat) (hj : j < i + 1) => show rdOk n a b l j = true from if e : j = i then by rw [e]; exact h else HALL.out j (by omega))
          have HF := Lib.hid (fun (h : rdOk n a b l i = false) => allB_false hlt h)
          generalize rdOk n a b l i = q at hdef HNEXT HF
          generalize a i = x at *
          generalize b i = y at *
          generalize l i = z at *
          have i1 := l00In_c x 0 ((n : Int) - 1)
          have i2 := l00In_c y 0 ((n : Int) - 1)
          have i3 := l00In_c z 1 1000000
          cases k1 : (decide (0 ≤ x) && decide (x ≤ (n : Int) - 1))
          · rw [k1] at hdef
            have HF2 := Lib.hid (HF.out hdef)
            clear hdef HF HNEXT
            (try rw [k1] at i1)
            (try rw [k2] at i2)
            (try rw [k4] at i3)
            have I1 := Lib.hid i1
            have I2 := Lib.hid i2
            have I3 := Lib.hid i3
            clear i1 i2 i3
            go_upto_region 8 with fail
            (refine region_below (by kernel_rfl) (by kernel_rfl) ?_; (repeat (first | go_big_quiet_step ((first | (go_at_call 65; with_reducible exact regrown_same (I1.out _)) | (go_at_call 65; with_reducible exact regrown_same (I2.out _)) | (go_at_call 65; with_reducible exact regrown_same (I3.out _)))) | quiet_step ((first | (go_at_call 65; with_reducible exact regrown_same (I1.out _)) | (go_at_call 65; with_reducible exact regrown_same (I2.out _)) | (go_at_call 65; with_reducible exact regrown_same (I3.out _)))))); refine wpQuiet_nil ?_; intro w1 hb; obtain ⟨hc, hfz⟩ := bcell hb; (try simp only [World.heap_drewN] at hc hfz); have hz := hb.size)
            go_wp2
            go_ret
            exact ⟨⟨_, rfl, by rw [HF2.out]; rfl⟩, by have := HB.out; (with_reducible repeat (first | exact Below.refl _ _ | apply below_alloc | apply below_dN | apply below_d | refine below_setCell ?_ (by dsimp only; omega) | refine below_call (by assumption) ?_))⟩
          · cases k2 : (decide (0 ≤ y) && decide (y ≤ (n : Int) - 1))
            · rw [k1, k2] at hdef
              have HF2 := Lib.hid (HF.out hdef)
              clear hdef HF HNEXT
              (try rw [k1] at i1)
              (try rw [k2] at i2)
              (try rw [k4] at i3)
              have I1 := Lib.hid i1
              have I2 := Lib.hid i2
              have I3 := Lib.hid i3
              clear i1 i2 i3
              go_upto_region 8 with fail
              (refine region_below (by kernel_rfl) (by kernel_rfl) ?_; (repeat (first | go_big_quiet_step ((first | (go_at_call 65; with_reducible exact regrown_same (I1.out _)) | (go_at_call 65; with_reducible exact regrown_same (I2.out _)) | (go_at_call 65; with_reducible exact regrown_same (I3.out _)))) | quiet_step ((first | (go_at_call 65; with_reducible exact regrown_same (I1.out _)) | (go_at_call 65; with_reducible exact regrown_same (I2.out _)) | (go_at_call 65; with_reducible exact regrown_same (I3.out _)))))); refine wpQuiet_nil ?_; intro w1 hb; obtain ⟨hc, hfz⟩ := bcell hb; (try simp only [World.heap_drewN] at hc hfz); have hz := hb.size)
              go_wp2
              go_ret
              exact ⟨⟨_, rfl, by rw [HF2.out]; rfl⟩, by have := HB.out; (with_reducible repeat (first | exact Below.refl _ _ | apply below_alloc | apply below_dN | apply below_d | refine below_setCell ?_ (by dsimp only; omega) | refine below_call (by assumption) ?_))⟩
            · cases k3 : (x == y)
              · cases k4 : (decide (1 ≤ z) && decide (z ≤ 1000000))
                · rw [k1, k2, k3, k4] at hdef
                  have HF2 := Lib.hid (HF.out hdef)
                  clear hdef HF HNEXT
                  (try rw [k1] at i1)
                  (try rw [k2] at i2)
                  (try rw [k4] at i3)
                  have I1 := Lib.hid i1
                  have I2 := Lib.hid i2
                  have I3 := Lib.hid i3
                  clear i1 i2 i3
                  go_upto_region 8 with fail
                  (refine region_below (by kernel_rfl) (by kernel_rfl) ?_; (repeat (first | go_big_quiet_step ((first | (go_at_call 65; with_reducible exact regrown_same (I1.out _)) | (go_at_call 65; with_reducible exact regrown_same (I2.out _)) | (go_at_call 65; with_reducible exact regrown_same (I3.out _)))) | quiet_step ((first | (go_at_call 65; with_reducible exact regrown_same (I1.out _)) | (go_at_call 65; with_reducible exact regrown_same (I2.out _)) | (go_at_call 65; with_reducible exact regrown_same (I3.out _)))))); refine wpQuiet_nil ?_; intro w1 hb; obtain ⟨hc, hfz⟩ := bcell hb; (try simp only [World.heap_drewN] at hc hfz); have hz := hb.size)
                  go_wp2
                  go_ret
                  exact ⟨⟨_, rfl, by rw [HF2.out]; rfl⟩, by have := HB.out; (with_reducible repeat (first | exact Below.refl _ _ | apply below_alloc | apply below_dN | apply below_d | refine below_setCell ?_ (by dsimp only; omega) | refine below_call (by assumption) ?_))⟩
                · rw [k1, k2, k3, k4] at hdef
                  have HN := Lib.hid (HNEXT.out hdef)
                  clear hdef HF HNEXT
                  (try rw [k1] at i1)
                  (try rw [k2] at i2)
                  (try rw [k4] at i3)
                  have I1 := Lib.hid i1
                  have I2 := Lib.hid i2
                  have I3 := Lib.hid i3
                  clear i1 i2 i3
                  go_upto_region 8 with fail
                  (refine region_below (by kernel_rfl) (by kernel_rfl) ?_; (repeat (first | go_big_quiet_step ((first | (go_at_call 65; with_reducible exact regrown_same (I1.out _)) | (go_at_call 65; with_reducible exact regrown_same (I2.out _)) | (go_at_call 65; with_reducible exact regrown_same (I3.out _)))) | quiet_step ((first | (go_at_call 65; with_reducible exact regrown_same (I1.out _)) | (go_at_call 65; with_reducible exact regrown_same (I2.out _)) | (go_at_call 65; with_reducible exact regrown_same (I3.out _)))))); refine wpQuiet_nil ?_; intro w1 hb; obtain ⟨hc, hfz⟩ := bcell hb; (try simp only [World.heap_drewN] at hc hfz); have hz := hb.size)
                  go_wp2
                  go_roundw
                  case rel => exact ⟨i + 1, by omega, by go_num, HN.out, by have := HB.out; (with_reducible repeat (first | exact Below.refl _ _ | apply below_alloc | apply below_dN | apply below_d | refine below_setCell ?_ (by dsimp only; omega) | refine below_call (by assumption) ?_))⟩
                  case measure => first | (simp [intOf]; done) | (simp [intOf]; omega)
              · rw [k1, k2, k3] at hdef
                have HF2 := Lib.hid (HF.out hdef)
                clear hdef HF HNEXT
                (try rw [k1] at i1)
                (try rw [k2] at i2)
                (try rw [k4] at i3)
                have I1 := Lib.hid i1
                have I2 := Lib.hid i2
                have I3 := Lib.hid i3
                clear i1 i2 i3
                go_upto_region 8 with fail
                (refine region_below (by kernel_rfl) (by kernel_rfl) ?_; (repeat (first | go_big_quiet_step ((first | (go_at_call 65; with_reducible exact regrown_same (I1.out _)) | (go_at_call 65; with_reducible exact regrown_same (I2.out _)) | (go_at_call 65; with_reducible exact regrown_same (I3.out _)))) | quiet_step ((first | (go_at_call 65; with_reducible exact regrown_same (I1.out _)) | (go_at_call 65; with_reducible exact regrown_same (I2.out _)) | (go_at_call 65; with_reducible exact regrown_same (I3.out _)))))); refine wpQuiet_nil ?_; intro w1 hb; obtain ⟨hc, hfz⟩ := bcell hb; (try simp only [World.heap_drewN] at hc hfz); have hz := hb.size)
                go_wp2
                go_ret
                exact ⟨⟨_, rfl, by rw [HF2.out]; rfl⟩, by have := HB.out; (with_reducible repeat (first | exact Below.refl _ _ | apply below_alloc | apply below_dN | apply below_d | refine below_setCell ?_ (by dsimp only; omega) | refine below_call (by assumption) ?_))⟩
        · obtain rfl : i = m := by omega
          have HT := Lib.hid (allB_true HALL.out)
          go_wp2
          go_ret
          exact ⟨⟨_, rfl, by rw [HT.out]; rfl⟩, by have := HB.out; (with_reducible repeat (first | exact Below.refl _ _ | apply below_alloc | apply below_dN | apply below_d | refine below_setCell ?_ (by dsimp only; omega) | refine below_call (by assumption) ?_))⟩
    · have hm64' : (64 : Int) < (m : Int) := by omega
      have hk : netOk n m X Y a b l = false := by unfold netOk; rw [hpl, decide_eq_false hm64]; rfl
      rw [hk]
      clear hpl hk hR
      go_enter Try.func46, Try.ntmps46
      go_wp2_with (first | (go_at_call 73; (with_reducible refine (HA.out).mono ?_); rintro e w' ⟨rfl, rfl⟩))
      go_ret
      exact ⟨⟨_, rfl, rfl⟩, Below.refl _ _⟩
end Go.Proofs.Ytpmeccjfjjklkaa
