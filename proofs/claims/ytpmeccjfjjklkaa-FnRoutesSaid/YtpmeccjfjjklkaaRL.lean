/- Contracts of RouteLongs in both spellings. No condition. -/
import Derived.Test.YtpmeccjfjjklkaaMkN
import Derived.Test.YtpmeccjfjjklkaaRtW
namespace Go.Proofs.Ytpmeccjfjjklkaa
open Go.RowKit
set_option linter.unusedSimpArgs false
def frIn (n : Nat) (fr : Int) : Bool := decide (0 ≤ fr) && decide (fr ≤ (n : Int) - 1)
def rlOk (n m : Nat) (X Y : Nat → Nat) (a b l : Nat → Int) (fr : Int) : Bool := netOk n m X Y a b l && frIn n fr
theorem PlCells.dn {w w' : World} {g n : Nat} {X Y : Nat → Nat} (h : PlCells w g n X Y) (hg : g < w.heap.size) (hB : Below w.heap.size w w') : PlCells w' g n X Y := fun j hj => by
  obtain ⟨r, s, h1, h2, h3⟩ := h j hj
  exact ⟨r, s, (hB.cell (p := ⟨_, j * 2, none⟩) hg).trans h1, (hB.cell (p := ⟨_, j * 2 + 1, none⟩) hg).trans h2, h3⟩
set_option maxRecDepth 100000 in
set_option maxHeartbeats 1000000 in
theorem l07From_c (p g h n m cg ch : Nat) (X Y : Nat → Nat) (a b l : Nat → Int) (fr : Int) (w : World) (hn : n ≤ 1048576) (hm : m ≤ 1048576) (c0 : w.cell? ⟨p, 0, none⟩ = some (.slice (some ⟨g, 0, none⟩) n cg)) (c1 : w.cell? ⟨p, 1, none⟩ = some (.slice (some ⟨h, 0, none⟩) m ch)) (hP : PlCells w g n X Y) (hR : RdBlk w h m a b l) :
    Calls Try.prog 60 #[.pointer (some ⟨p, 0, none⟩), .int .i64 fr] w (Ret (RV (.bool (rlOk n m X Y a b l fr))) w) := by
  have HN := Lib.hid (l07Net_c p g h n m cg ch X Y a b l w hn hm c0 c1 hP hR)
  have HI := Lib.hid (l00In_c fr 0 ((n : Int) - 1))
  have hpl := block_lt_of_cell c0
  simp only at hpl
  unfold rlOk
  clear hP hR
  generalize netOk n m X Y a b l = q at HN
  cases q
  · go_enter Try.func60, Try.ntmps60
    go_wp2_with (first | (go_at_call 46; ((with_reducible refine (HN.out).mono ?_); rintro e w1 ⟨⟨v, rfl, rfl⟩, hb⟩); have hu2 : ∀ n : Nat, n < n + 1 + 1 := (fun n => by omega); have hu3 : ∀ n : Nat, n < n + 1 + 1 + 1 := (fun n => by omega); obtain ⟨hc, hfz⟩ := bcell hb; (try simp only [World.heap_drewN] at hc hfz); have hs_ := hb.size; (try simp at hs_); (try have hz0 : w.heap.size < w1.heap.size := (by omega)); (try have hz1 : w.heap.size + 1 < w1.heap.size := (by omega)); (try have hz2 : w.heap.size + 2 < w1.heap.size := (by omega)); (try have hz3 : w.heap.size + 3 < w1.heap.size := (by omega)); (try have hza : wa.heap.size < w1.heap.size := (by omega)); (try have hza1 : wa.heap.size + 1 < w1.heap.size := (by omega)); (try have hzb : wb.heap.size < w1.heap.size := (by omega)); (try have hzb1 : wb.heap.size + 1 < w1.heap.size := (by omega)); (try have hzc : wc.heap.size < w1.heap.size := (by omega)); (try have hzd : wd.heap.size < w1.heap.size := (by omega))))
    go_ret
    exact ⟨⟨_, rfl, by simp [RV]⟩, by (with_reducible repeat (first | exact Below.refl _ _ | apply below_alloc | apply below_dN | apply below_d | refine below_setCell ?_ (by dsimp only; omega) | refine below_call (by assumption) ?_))⟩
  · go_enter Try.func60, Try.ntmps60
    go_wp2_with (first | (go_at_call 46; ((with_reducible refine (HN.out).mono ?_); rintro e w1 ⟨⟨v, rfl, rfl⟩, hb⟩); have hu2 : ∀ n : Nat, n < n + 1 + 1 := (fun n => by omega); have hu3 : ∀ n : Nat, n < n + 1 + 1 + 1 := (fun n => by omega); obtain ⟨hc, hfz⟩ := bcell hb; (try simp only [World.heap_drewN] at hc hfz); have hs_ := hb.size; (try simp at hs_); (try have hz0 : w.heap.size < w1.heap.size := (by omega)); (try have hz1 : w.heap.size + 1 < w1.heap.size := (by omega)); (try have hz2 : w.heap.size + 2 < w1.heap.size := (by omega)); (try have hz3 : w.heap.size + 3 < w1.heap.size := (by omega)); (try have hza : wa.heap.size < w1.heap.size := (by omega)); (try have hza1 : wa.heap.size + 1 < w1.heap.size := (by omega)); (try have hzb : wb.heap.size < w1.heap.size := (by omega)); (try have hzb1 : wb.heap.size + 1 < w1.heap.size := (by omega)); (try have hzc : wc.heap.size < w1.heap.size := (by omega)); (try have hzd : wd.heap.size < w1.heap.size := (by omega))) | (go_at_call 65; ((with_reducible refine (HI.out _).mono ?_); rintro e w' ⟨rfl, rfl⟩)))
    go_ret
    exact ⟨⟨_, rfl, by simp [RV, frIn]⟩, by (with_reducible repeat (first | exact Below.refl _ _ | apply below_alloc | apply below_dN | apply below_d | refine below_setCell ?_ (by dsimp only; omega) | refine below_call (by assumption) ?_))⟩
set_option maxRecDepth 100000 in
set_option maxHeartbeats 1000000 in
theorem isStop_c (g h n m cg ch : Nat) (X Y : Nat → Nat) (a b l : Nat → Int) (fr : Int) (w : World) (hg : g < w.heap.size) (hn : n ≤ 1048576) (hm : m ≤ 1048576) (hP : PlCells w g n X Y) (hR : RdBlk w h m a b l) :
    Calls Try.prog 62 #[.agg #[.slice (some ⟨g, 0, none⟩) n cg, .slice (some ⟨h, 0, none⟩) m ch], .int .i64 fr] w (Ret (RV (.bool (rlOk n m X Y a b l fr))) w) := by
  have HN := Lib.hid (fun (w' : World) (hB : Below w.heap.size w w') => iValidNet_c g h n m cg ch X Y a b l w' (Nat.lt_of_lt_of_le hg hB.size) hn hm (hP.dn hg hB) (hR.below hB hR.lt))
  have HI := Lib.hid (within_c fr 0 ((n : Int) - 1))
  unfold rlOk
  clear hP hR
  generalize netOk n m X Y a b l = q at HN
  cases q
  · go_enter Try.func62, Try.ntmps62
    go_wp2_with (first | (go_at_call 47; go_in) | (go_at_call 13; ((with_reducible refine (HN.out _ (by (with_reducible repeat (first | exact Below.refl _ _ | apply below_alloc | apply below_dN | apply below_d | refine below_setCell ?_ (by dsimp only; omega) | refine below_call (by assumption) ?_)))).mono ?_); rintro e w1 ⟨⟨v, rfl, rfl⟩, hb⟩); have hu2 : ∀ n : Nat, n < n + 1 + 1 := (fun n => by omega); have hu3 : ∀ n : Nat, n < n + 1 + 1 + 1 := (fun n => by omega); obtain ⟨hc, hfz⟩ := bcell hb; (try simp only [World.heap_drewN] at hc hfz); have hs_ := hb.size; (try simp at hs_); (try have hz0 : w.heap.size < w1.heap.size := (by omega)); (try have hz1 : w.heap.size + 1 < w1.heap.size := (by omega)); (try have hz2 : w.heap.size + 2 < w1.heap.size := (by omega)); (try have hz3 : w.heap.size + 3 < w1.heap.size := (by omega)); (try have hza : wa.heap.size < w1.heap.size := (by omega)); (try have hza1 : wa.heap.size + 1 < w1.heap.size := (by omega)); (try have hzb : wb.heap.size < w1.heap.size := (by omega)); (try have hzb1 : wb.heap.size + 1 < w1.heap.size := (by omega)); (try have hzc : wc.heap.size < w1.heap.size := (by omega)); (try have hzd : wd.heap.size < w1.heap.size := (by omega))))
    go_ret
    exact ⟨⟨_, rfl, by simp [RV]⟩, by (with_reducible repeat (first | exact Below.refl _ _ | apply below_alloc | apply below_dN | apply below_d | refine below_setCell ?_ (by dsimp only; omega) | refine below_call (by assumption) ?_))⟩
  · go_enter Try.func62, Try.ntmps62
    go_wp2_with (first | (go_at_call 47; go_in) | (go_at_call 13; ((with_reducible refine (HN.out _ (by (with_reducible repeat (first | exact Below.refl _ _ | apply below_alloc | apply below_dN | apply below_d | refine below_setCell ?_ (by dsimp only; omega) | refine below_call (by assumption) ?_)))).mono ?_); rintro e w1 ⟨⟨v, rfl, rfl⟩, hb⟩); have hu2 : ∀ n : Nat, n < n + 1 + 1 := (fun n => by omega); have hu3 : ∀ n : Nat, n < n + 1 + 1 + 1 := (fun n => by omega); obtain ⟨hc, hfz⟩ := bcell hb; (try simp only [World.heap_drewN] at hc hfz); have hs_ := hb.size; (try simp at hs_); (try have hz0 : w.heap.size < w1.heap.size := (by omega)); (try have hz1 : w.heap.size + 1 < w1.heap.size := (by omega)); (try have hz2 : w.heap.size + 2 < w1.heap.size := (by omega)); (try have hz3 : w.heap.size + 3 < w1.heap.size := (by omega)); (try have hza : wa.heap.size < w1.heap.size := (by omega)); (try have hza1 : wa.heap.size + 1 < w1.heap.size := (by omega)); (try have hzb : wb.heap.size < w1.heap.size := (by omega)); (try have hzb1 : wb.heap.size + 1 < w1.heap.size := (by omega)); (try have hzc : wc.heap.size < w1.heap.size := (by omega)); (try have hzd : wd.heap.size < w1.heap.size := (by omega))) | (go_at_call 51; ((with_reducible refine (HI.out _).mono ?_); rintro e w' ⟨rfl, rfl⟩)))
    go_ret
    exact ⟨⟨_, rfl, by simp [RV, frIn]⟩, by (with_reducible repeat (first | exact Below.refl _ _ | apply below_alloc | apply below_dN | apply below_d | refine below_setCell ?_ (by dsimp only; omega) | refine below_call (by assumption) ?_))⟩
theorem rlOk_facts {n m : Nat} {X Y : Nat → Nat} {a b l : Nat → Int} {fr : Int} (h : rlOk n m X Y a b l fr = true) : netOk n m X Y a b l = true ∧ ∃ f : Nat, fr = f ∧ f < n := by
  unfold rlOk frIn at h
  simp only [Bool.and_eq_true, decide_eq_true_eq] at h
  exact ⟨h.1, fr.toNat, by omega, by omega⟩
theorem IArr.some {w : World} {lo g n cap : Nat} {d : Nat → Int} (h : lo ≤ g) (hD : Dr w g n cap d) : IArr w lo (.slice (.some ⟨g, 0, none⟩) n cap) n d := .inr ⟨g, cap, rfl, h, hD⟩
/-- What both spellings return. -/
def RLR (n m : Nat) (X Y : Nat → Nat) (a b l : Nat → Int) (fr : Int) (w : World) (e : Ending) (w' : World) : Prop := ∃ v, e = .returned (.tuple #[v, .bool (rlOk n m X Y a b l fr)]) ∧ IArr w' w.heap.size v (if rlOk n m X Y a b l fr then n else 0) (rt n m (eN a) (eN b) l fr.toNat) ∧ Below w.heap.size w w'
set_option maxRecDepth 100000 in
set_option maxHeartbeats 1000000 in
theorem sRL_c (g h n m cg ch : Nat) (X Y : Nat → Nat) (a b l : Nat → Int) (fr : Int) (w : World) (hg : g < w.heap.size) (hn : n ≤ 1048576) (hm : m ≤ 1048576) (hP : PlCells w g n X Y) (hR : RdBlk w h m a b l) :
    Calls Try.prog 27 #[.agg #[.slice (some ⟨g, 0, none⟩) n cg, .slice (some ⟨h, 0, none⟩) m ch], .int .i64 fr] w (RLR n m X Y a b l fr w) := by
  have HF := Lib.hid (fun (w' : World) (hB : Below w.heap.size w w') c0 c1 => l07From_c w.heap.size g h n m cg ch X Y a b l fr w' hn hm c0 c1 (hP.dn hg hB) (hR.below hB hR.lt))
  unfold RLR
  cases hq : rlOk n m X Y a b l fr
  · rw [hq] at HF
    clear hP hR hq
    go_enter Try.func27, Try.ntmps27
    go_wp2_with (first | (go_at_call 60; ((with_reducible refine (HF.out _ (by (with_reducible repeat (first | exact Below.refl _ _ | apply below_alloc | apply below_dN | apply below_d | refine below_setCell ?_ (by dsimp only; omega) | refine below_call (by assumption) ?_))) (by simp) (by simp)).mono ?_); rintro e w1 ⟨⟨v, rfl, rfl⟩, hb⟩); have hu2 : ∀ n : Nat, n < n + 1 + 1 := (fun n => by omega); have hu3 : ∀ n : Nat, n < n + 1 + 1 + 1 := (fun n => by omega); obtain ⟨hc, hfz⟩ := bcell hb; (try simp only [World.heap_drewN] at hc hfz); have hs_ := hb.size; (try simp at hs_); (try have hz0 : w.heap.size < w1.heap.size := (by omega)); (try have hz1 : w.heap.size + 1 < w1.heap.size := (by omega)); (try have hz2 : w.heap.size + 2 < w1.heap.size := (by omega)); (try have hz3 : w.heap.size + 3 < w1.heap.size := (by omega)); (try have hza : wa.heap.size < w1.heap.size := (by omega)); (try have hza1 : wa.heap.size + 1 < w1.heap.size := (by omega)); (try have hzb : wb.heap.size < w1.heap.size := (by omega)); (try have hzb1 : wb.heap.size + 1 < w1.heap.size := (by omega)); (try have hzc : wc.heap.size < w1.heap.size := (by omega)); (try have hzd : wd.heap.size < w1.heap.size := (by omega))))
    go_ret2
    exact ⟨_, rfl, .inl ⟨rfl, rfl⟩, by (with_reducible repeat (first | exact Below.refl _ _ | apply below_alloc | apply below_dN | apply below_d | refine below_setCell ?_ (by dsimp only; omega) | refine below_call (by assumption) ?_))⟩
  · obtain ⟨hk, f, rfl, hf⟩ := rlOk_facts hq
    rw [hq] at HF
    have HL := Lib.hid (fun (w' : World) (hB : Below w.heap.size w w') c0 c1 => l07Longs_c w.heap.size g h n m cg ch X Y a b l f w' hf hk c0 c1 (hR.below hB hR.lt))
    rw [Int.toNat_natCast]
    generalize rt n m (eN a) (eN b) l f = d at HL
    clear hP hR hq hk
    have hb0 : Below w.heap.size w (w.alloc (.cells #[.slice (some ⟨g, 0, none⟩) n cg, .slice (some ⟨h, 0, none⟩) m ch] 31)) := by (with_reducible repeat (first | exact Below.refl _ _ | apply below_alloc | apply below_dN | apply below_d | refine below_setCell ?_ (by dsimp only; omega) | refine below_call (by assumption) ?_))
    have hs0 : (w.alloc (.cells #[.slice (some ⟨g, 0, none⟩) n cg, .slice (some ⟨h, 0, none⟩) m ch] 31)).heap.size = w.heap.size + 1 := by simp
    have hN := ntc.newAt (w := w) (p := w.heap.size) (u := .slice (some ⟨g, 0, none⟩) n cg) (v := .slice (some ⟨h, 0, none⟩) m ch) rfl
    go_enter Try.func27, Try.ntmps27
    go_upto_region 3 with (first | (go_at_call 60; ((with_reducible refine (HF.out _ hb0 hN.c0 hN.c1).mono ?_); rintro e w1 ⟨⟨v, rfl, rfl⟩, hb⟩)))
    have hN1 := hN.below hb
    have n0 := hN1.c0
    have n1 := hN1.c1
    have hB1 := hb0.trans (hb.mono (by omega))
    go_wp2_with (go_at_call 61; ((with_reducible refine (HL.out _ hB1 n0 n1).mono ?_); rintro e w2 ⟨q, cap, rfl, hq, hD, hb2⟩))
    go_ret2
    have := hB1.size
    exact ⟨.slice (some ⟨q, 0, none⟩) n cap, rfl, IArr.some (by omega) hD, hB1.trans (hb2.mono this)⟩
set_option maxRecDepth 100000 in
set_option maxHeartbeats 1000000 in
theorem iRL_c (g h n m cg ch : Nat) (X Y : Nat → Nat) (a b l : Nat → Int) (fr : Int) (w : World) (hg : g < w.heap.size) (hn : n ≤ 1048576) (hm : m ≤ 1048576) (hP : PlCells w g n X Y) (hR : RdBlk w h m a b l) :
    Calls Try.prog 28 #[.agg #[.slice (some ⟨g, 0, none⟩) n cg, .slice (some ⟨h, 0, none⟩) m ch], .int .i64 fr] w (RLR n m X Y a b l fr w) := by
  have HF := Lib.hid (fun (w' : World) (hB : Below w.heap.size w w') => isStop_c g h n m cg ch X Y a b l fr w' (Nat.lt_of_lt_of_le hg hB.size) hn hm (hP.dn hg hB) (hR.below hB hR.lt))
  unfold RLR
  cases hq : rlOk n m X Y a b l fr
  · rw [hq] at HF
    clear hP hR hq
    go_enter Try.func28, Try.ntmps28
    go_wp2_with (first | (go_at_call 62; ((with_reducible refine (HF.out _ (by (with_reducible repeat (first | exact Below.refl _ _ | apply below_alloc | apply below_dN | apply below_d | refine below_setCell ?_ (by dsimp only; omega) | refine below_call (by assumption) ?_)))).mono ?_); rintro e w1 ⟨⟨v, rfl, rfl⟩, hb⟩); have hu2 : ∀ n : Nat, n < n + 1 + 1 := (fun n => by omega); have hu3 : ∀ n : Nat, n < n + 1 + 1 + 1 := (fun n => by omega); obtain ⟨hc, hfz⟩ := bcell hb; (try simp only [World.heap_drewN] at hc hfz); have hs_ := hb.size; (try simp at hs_); (try have hz0 : w.heap.size < w1.heap.size := (by omega)); (try have hz1 : w.heap.size + 1 < w1.heap.size := (by omega)); (try have hz2 : w.heap.size + 2 < w1.heap.size := (by omega)); (try have hz3 : w.heap.size + 3 < w1.heap.size := (by omega)); (try have hza : wa.heap.size < w1.heap.size := (by omega)); (try have hza1 : wa.heap.size + 1 < w1.heap.size := (by omega)); (try have hzb : wb.heap.size < w1.heap.size := (by omega)); (try have hzb1 : wb.heap.size + 1 < w1.heap.size := (by omega)); (try have hzc : wc.heap.size < w1.heap.size := (by omega)); (try have hzd : wd.heap.size < w1.heap.size := (by omega))))
    go_ret2
    exact ⟨_, rfl, .inl ⟨rfl, rfl⟩, by (with_reducible repeat (first | exact Below.refl _ _ | apply below_alloc | apply below_dN | apply below_d | refine below_setCell ?_ (by dsimp only; omega) | refine below_call (by assumption) ?_))⟩
  · obtain ⟨hk, f, rfl, hf⟩ := rlOk_facts hq
    rw [hq] at HF
    have HL := Lib.hid (fun (w' : World) (hB : Below w.heap.size w w') => routes_c g h n m cg ch X Y a b l f w' hf hk (hR.below hB hR.lt))
    rw [Int.toNat_natCast]
    generalize rt n m (eN a) (eN b) l f = d at HL
    clear hP hR hq hk
    have hb0 : Below w.heap.size w (w.alloc (.cells #[.slice (some ⟨g, 0, none⟩) n cg, .slice (some ⟨h, 0, none⟩) m ch] 31)) := by (with_reducible repeat (first | exact Below.refl _ _ | apply below_alloc | apply below_dN | apply below_d | refine below_setCell ?_ (by dsimp only; omega) | refine below_call (by assumption) ?_))
    have hs0 : (w.alloc (.cells #[.slice (some ⟨g, 0, none⟩) n cg, .slice (some ⟨h, 0, none⟩) m ch] 31)).heap.size = w.heap.size + 1 := by simp
    have hN := ntc.newAt (w := w) (p := w.heap.size) (u := .slice (some ⟨g, 0, none⟩) n cg) (v := .slice (some ⟨h, 0, none⟩) m ch) rfl
    go_enter Try.func28, Try.ntmps28
    go_upto_region 3 with (first | (go_at_call 62; ((with_reducible refine (HF.out _ hb0).mono ?_); rintro e w1 ⟨⟨v, rfl, rfl⟩, hb⟩)))
    have hN1 := hN.below hb
    have n0 := hN1.c0
    have n1 := hN1.c1
    have n2 := hN1.lt
    have hB1 := hb0.trans (hb.mono (by omega))
    go_wp2_with (go_at_call 63; ((with_reducible refine (HL.out _ hB1).mono ?_); rintro e w2 ⟨q, cap, rfl, hq, hD, hb2⟩))
    go_ret2
    have := hB1.size
    exact ⟨.slice (some ⟨q, 0, none⟩) n cap, rfl, IArr.some (by omega) hD, hB1.trans (hb2.mono this)⟩
end Go.Proofs.Ytpmeccjfjjklkaa
