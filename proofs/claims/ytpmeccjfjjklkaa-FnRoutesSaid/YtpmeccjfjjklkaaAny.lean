/- What the program's routes are at a drawn net. No condition. -/
import Derived.Test.YtpmeccjfjjklkaaRtQ
import Derived.Test.YtpmeccjfjjklkaaZr
import Derived.Test.YtpmeccjfjjklkaaDrm
import Derived.Test.YtpmeccjfjjklkaaB10
namespace Go.Proofs.Ytpmeccjfjjklkaa
open Go.RowKit
set_option linter.unusedSimpArgs false
section
variable {g n cg m ch : Nat} {A : Option Addr} {X Y : Nat → Nat} {a b l : Nat → Int} {w : World}
theorem vn_any (hg : g < w.heap.size) (hn : n ≤ 1048576) (hm : m ≤ 1048576) (hP : PlCells w g n X Y) (hR : RdA w A m ch a b l) : Calls Try.prog 13 #[.agg #[.slice (some ⟨g, 0, none⟩) n cg, .slice A m ch]] w (Ret (RV (.bool (netOk n m X Y a b l))) w) := by
  rcases hR with ⟨rfl, rfl, rfl⟩ | ⟨h, rfl, hR⟩
  · exact iValidNet0_c g n cg X Y a b l w hg hn hP
  · exact iValidNet_c g h n m cg ch X Y a b l w hg hn hm hP hR
theorem rl_any (fr : Int) (hg : g < w.heap.size) (hn : n ≤ 1048576) (hm : m ≤ 1048576) (hP : PlCells w g n X Y) (hR : RdA w A m ch a b l) : Calls Try.prog 28 #[.agg #[.slice (some ⟨g, 0, none⟩) n cg, .slice A m ch], .int .i64 fr] w (RLR n m X Y a b l fr w) := by
  rcases hR with ⟨rfl, rfl, rfl⟩ | ⟨h, rfl, hR⟩
  · exact iRL0_c g n cg X Y a b l fr w hg hn hP
  · exact iRL_c g h n m cg ch X Y a b l fr w hg hn hm hP hR
theorem ro_any (fr most : Int) (hg : g < w.heap.size) (hn : n ≤ 1048576) (hm : m ≤ 1048576) (hP : PlCells w g n X Y) (hR : RdA w A m ch a b l) : Calls Try.prog 33 #[.agg #[.slice (some ⟨g, 0, none⟩) n cg, .slice A m ch], .int .i64 fr, .int .i64 most] w (ROR n m X Y a b l fr most w) := by
  rcases hR with ⟨rfl, rfl, rfl⟩ | ⟨h, rfl, hR⟩
  · exact iRO0_c g n cg X Y a b l fr most w hg hn hP
  · exact iRO_c g h n m cg ch X Y a b l fr most w hg hn hm hP hR
theorem rs_any (f k cf : Nat) (d : Nat → Int) (wk : Int) (hg : g < w.heap.size) (hn : n ≤ 1048576) (hm : m ≤ 1048576) (hk : k ≤ 1048576) (hP : PlCells w g n X Y) (hR : RdA w A m ch a b l) (hD : Dr w f k cf d) : Calls Try.prog 36 #[.agg #[.slice (some ⟨g, 0, none⟩) n cg, .slice A m ch], .slice (some ⟨f, 0, none⟩) k cf, .int .i64 wk] w (RSR n m X Y a b l k d wk w) := by
  rcases hR with ⟨rfl, rfl, rfl⟩ | ⟨h, rfl, hR⟩
  · exact iRS0_c g n cg f k cf X Y a b l d wk w hg hn hk hP hD
  · exact iRS_c g h n m cg ch f k cf X Y a b l d wk w hg hn hm hk hP hR hD
theorem rp_any (fr tg : Int) (hg : g < w.heap.size) (hn : n ≤ 1048576) (hm : m ≤ 1048576) (hP : PlCells w g n X Y) (hR : RdA w A m ch a b l) : Calls Try.prog 41 #[.agg #[.slice (some ⟨g, 0, none⟩) n cg, .slice A m ch], .int .i64 fr, .int .i64 tg] w (RPR n m X Y a b l fr tg w) := by
  rcases hR with ⟨rfl, rfl, rfl⟩ | ⟨h, rfl, hR⟩
  · exact iRP0_c g n cg X Y a b l fr tg w hg hn hP
  · exact iRP_c g h n m cg ch X Y a b l fr tg w hg hn hm hP hR
end
theorem rlOk_in {n m p : Nat} {X Y : Nat → Nat} {a b l : Nat → Int} (h : netOk n m X Y a b l = true) (hp : p < n) : rlOk n m X Y a b l (p : Int) = true := by
  unfold rlOk frIn
  rw [h]
  simp
  omega
theorem IArr.pos {w : World} {lo n : Nat} {v : Value} {d : Nat → Int} (h : IArr w lo v n d) (hn : 0 < n) : ∃ g cap, v = .slice (Option.some ⟨g, 0, none⟩) n cap ∧ lo ≤ g ∧ Dr w g n cap d := by
  rcases h with ⟨h0, -⟩ | h
  · omega
  · exact h
/-- What RouteLongs returns at a place of the net. -/
def RLd (n : Nat) (D : Nat → Int) (w : World) (e : Ending) (w' : World) : Prop := ∃ g cap, e = .returned (.tuple #[.slice (some ⟨g, 0, none⟩) n cap, .bool true]) ∧ Dr w' g n cap D ∧ Below w.heap.size w w'
theorem rl_law {n m p : Nat} {X Y : Nat → Nat} {a b l : Nat → Int} (h : netOk n m X Y a b l = true) (hp : p < n) {w : World} {e : Ending} {w' : World} (hx : RLR n m X Y a b l (p : Int) w e w') : RLd n (rt n m (eN a) (eN b) l p) w e w' := by
  unfold RLR at hx
  rw [rlOk_in h hp, Int.toNat_natCast, if_pos rfl] at hx
  obtain ⟨v, rfl, h1, h2⟩ := hx
  obtain ⟨g, cap, rfl, -, h3⟩ := h1.pos (by omega)
  exact ⟨g, cap, rfl, h3, h2⟩
/-- What RoutesShared returns at two places of the net. -/
def RSd (n : Nat) (D E : Nat → Int) (w : World) (e : Ending) (w' : World) : Prop := ∃ o co q0 c0 q1 c1, e = .returned (.tuple #[.slice (some ⟨o, 0, none⟩) 2 co, .bool true]) ∧ o < w'.heap.size ∧ w'.cell? ⟨o, 0, none⟩ = some (.slice (some ⟨q0, 0, none⟩) n c0) ∧ w'.cell? ⟨o, 1, none⟩ = some (.slice (some ⟨q1, 0, none⟩) n c1) ∧ Dr w' q0 n c0 D ∧ Dr w' q1 n c1 E ∧ Below w.heap.size w w'
def two (p q : Nat) (j : Nat) : Int := if j = 0 then (p : Int) else (q : Int)
theorem rs_law {n m p q : Nat} {X Y : Nat → Nat} {a b l : Nat → Int} {wk : Int} (h : netOk n m X Y a b l = true) (hp : p < n) (hq : q < n) (h1 : 1 ≤ wk) (h8 : wk ≤ 8) {w : World} {e : Ending} {w' : World} (hx : RSR n m X Y a b l 2 (two p q) wk w e w') : RSd n (rt n m (eN a) (eN b) l p) (rt n m (eN a) (eN b) l q) w e w' := by
  have hk : rsOk n m X Y a b l 2 (two p q) wk = true := by
    unfold rsOk
    rw [h, decide_eq_true h1, decide_eq_true h8, allB_true fun j hj => by
      match j, hj with
      | 0, _ => exact rlOk_in h hp
      | 1, _ => exact rlOk_in h hq]
    rfl
  unfold RSR at hx
  rw [hk, if_pos rfl] at hx
  obtain ⟨v, rfl, ⟨qq, cc, hT, hD, -⟩, hB⟩ := hx
  obtain ⟨o, co, rfl, ho, -, e0⟩ := hT.at1 (j := 0) (by omega)
  obtain ⟨o', co', e', ho', -, e1⟩ := hT.at1 (j := 1) (by omega)
  simp only [Value.slice.injEq, Option.some.injEq, Addr.mk.injEq] at e'
  obtain ⟨⟨rfl, -⟩, -, rfl⟩ := e'
  exact ⟨o, co, qq 0, cc 0, qq 1, cc 1, rfl, ho, e0, e1, (hD 0 (by omega)).2, (hD 1 (by omega)).2, hB⟩
/-- What RoutePath returns at two places of the net. -/
def RPd (n m p q : Nat) (a b : Nat → Nat) (l D : Nat → Int) (B : Bool) (w : World) (e : Ending) (w' : World) : Prop := ∃ v L N P, e = .returned (.tuple #[v, .int .i64 L, .bool B]) ∧ (B = true → L = D q ∧ Pth n m a b l p q D P ∧ N = P.length) ∧ IArr w' w.heap.size v N (nthI P) ∧ Below w.heap.size w w'
theorem rp_law {n m p q : Nat} {X Y : Nat → Nat} {a b l : Nat → Int} (h : netOk n m X Y a b l = true) (hp : p < n) (hq : q < n) {B : Bool} (hB : decide (0 ≤ rt n m (eN a) (eN b) l p q) = B) {w : World} {e : Ending} {w' : World} (hx : RPR n m X Y a b l (p : Int) (q : Int) w e w') : RPd n m p q (eN a) (eN b) l (rt n m (eN a) (eN b) l p) B w e w' := by
  have hk : rpOk n m X Y a b l (p : Int) (q : Int) = B := by
    unfold rpOk
    rw [rlOk_in h hp, rlOk_in h hq, Int.toNat_natCast, Int.toNat_natCast, hB]
    rfl
  unfold RPR at hx
  rw [hk] at hx
  obtain ⟨v, rfl, h1, h2⟩ := hx
  refine ⟨v, _, _, _, rfl, fun hb => ?_, h1, h2⟩
  subst hb
  obtain ⟨⟨hn1, hn64⟩, -, hRd, -⟩ := netOk_facts h
  have hd : 0 ≤ rt n m (eN a) (eN b) l p q := by simpa using hB
  rw [if_pos rfl, if_pos rfl, Int.toNat_natCast, Int.toNat_natCast]
  unfold rpL
  rw [Int.toNat_natCast, Int.toNat_natCast]
  exact ⟨rfl, pth_ok (rt_long hRd hn64 hp) hq hd, rfl⟩
/-- What ReachOf returns at a place of the net. -/
def ROd (n : Nat) (D : Nat → Int) (most : Int) (w : World) (e : Ending) (w' : World) : Prop := ∃ g cap, e = .returned (.tuple #[.slice (some ⟨g, 0, none⟩) (pkL (roP D most) n).length cap, .bool true]) ∧ Dr w' g (pkL (roP D most) n).length cap (nthI (pkL (roP D most) n)) ∧ Below w.heap.size w w'
theorem ro_law {n m p : Nat} {X Y : Nat → Nat} {a b l : Nat → Int} {most : Int} (h : netOk n m X Y a b l = true) (hp : p < n) (h0 : 0 ≤ most) (h1 : most ≤ 1000000000) {w : World} {e : Ending} {w' : World} (hx : ROR n m X Y a b l (p : Int) most w e w') : ROd n (rt n m (eN a) (eN b) l p) most w e w' := by
  obtain ⟨⟨hn1, hn64⟩, -, hRd, -⟩ := netOk_facts h
  have hL := rt_long hRd hn64 hp
  have hk : roOk n m X Y a b l (p : Int) most = true := by
    unfold roOk
    rw [rlOk_in h hp, decide_eq_true h0, decide_eq_true h1]
    rfl
  unfold ROR roL at hx
  rw [hk, if_pos rfl, Int.toNat_natCast] at hx
  obtain ⟨v, rfl, h2, h3⟩ := hx
  have hP : roP (rt n m (eN a) (eN b) l p) most p = true := by
    unfold roP
    rw [hL.zero]
    simp [h0]
  have hpos : 0 < (pkL (roP (rt n m (eN a) (eN b) l p) most) n).length := by
    have := (List.getElem?_eq_some_iff.1 (pkL_pre _ p hP n hp)).1
    omega
  obtain ⟨g, cap, rfl, -, h4⟩ := h2.pos hpos
  exact ⟨g, cap, rfl, h4, h3⟩
end Go.Proofs.Ytpmeccjfjjklkaa
