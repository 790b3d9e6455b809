/- Slices of bools. No condition. -/
import Derived.Test.YtpajakindpbepaaGI
namespace Go.Proofs.Ytpajakindpbepaa
open Go.RowKit
set_option linter.unusedSimpArgs false



/-- A row of whole numbers. -/
def Db (w : World) (g n cap : Nat) (d : Nat → Bool) : Prop := ∃ F : Nat → Value, w.rowIs g 4 cap F ∧ n ≤ cap ∧ ∀ j, j < n → F j = .bool (d j)
namespace Db
variable {w : World} {g n cap : Nat} {d : Nat → Bool}
theorem cell (h : Db w g n cap d) {j : Nat} (hj : j < n) : w.cell? ⟨g, j, none⟩ = some (.bool (d j)) := by
  obtain ⟨F, h1, h2, h3⟩ := h
  rw [← h3 j hj]
  exact h1.cell (by omega)
theorem fr (h : Db w g n cap d) (j : Nat) : w.frozen? ⟨g, j, none⟩ = false := by
  obtain ⟨F, h1, -⟩ := h
  exact h1.frozen j
theorem lt (h : Db w g n cap d) : g < w.heap.size := by
  obtain ⟨F, h1, -⟩ := h
  exact h1.lt
theorem le (h : Db w g n cap d) : n ≤ cap := by obtain ⟨F, -, h2, -⟩ := h; exact h2
theorem below {w' : World} (h : Db w g n cap d) (hb : Below w.heap.size w w') : Db w' g n cap d := by
  obtain ⟨F, h1, h2⟩ := h
  exact ⟨F, h1.of_block (hb.block g h1.lt), h2⟩
theorem set (h : Db w g n cap d) (b : Nat) (v : Bool) : Db (w.setCell ⟨g, b, none⟩ (.bool v)) g n cap (fun j => if j = b then v else d j) := by
  obtain ⟨F, h1, h2, h3⟩ := h
  refine ⟨_, h1.set b _, h2, fun j hj => ?_⟩
  by_cases e : j = b
  · simp only [if_pos e]
  · simp only [if_neg e]; exact h3 j hj
theorem congr {d' : Nat → Bool} (h : Db w g n cap d) (hd : ∀ j, j < n → d j = d' j) : Db w g n cap d' := by
  obtain ⟨F, h1, h2, h3⟩ := h
  exact ⟨F, h1, h2, fun j hj => by rw [h3 j hj, hd j hj]⟩
theorem drew (h : Db w g n cap d) : Db w.drew g n cap d := h
end Db
theorem own_db {w : World} {B n : Nat} {v : Value} {xs : List Value} {d : Nat → Bool} (h : w.ownsRow B 4 1 v n xs) (hn : 0 < n) (hx : ∀ j, j < n → xs[j]? = some (.bool (d j))) : ∃ g cap, v = .slice (some ⟨g, 0, none⟩) n cap ∧ B ≤ g ∧ Db w g n cap d := by
  rcases h.2 with ⟨rfl, e⟩ | ⟨g, cap, cur, rfl, h1, h2, h3, h4, h5, h6⟩
  · omega
  · refine ⟨g, cap, rfl, h1, fun i => (cur[i]?).getD undef, ⟨cur, h2, by omega, fun i hi => ?_⟩, h3, fun i hi => ?_⟩
    · show cur[i]? = some ((cur[i]?).getD undef)
      rw [Array.getElem?_eq_getElem (by omega)]; rfl
    · have e := hx i hi
      rw [← h6, List.getElem?_take, if_pos (by omega), Array.getElem?_toList] at e
      show (cur[i]?).getD undef = _
      rw [e]; rfl
theorem info_bo : (Try.prog.info? 4).map (fun i => (i.zero, i.size, i.bytes)) = some (some (.bool false), 1, 1) := by kernel_rfl

/-- A slice of whole numbers that may be written. -/
def BArr (w : World) (lo : Nat) (v : Value) (n : Nat) (d : Nat → Bool) : Prop := (n = 0 ∧ v = .slice none 0 0) ∨ ∃ g cap, v = .slice (some ⟨g, 0, none⟩) n cap ∧ lo ≤ g ∧ Db w g n cap d
theorem BArr.below {w w' : World} {lo n : Nat} {v : Value} {d : Nat → Bool} (h : BArr w lo v n d) (hb : Below w.heap.size w w') : BArr w' lo v n d := h.imp id (fun ⟨g, cap, e, h1, h2⟩ => ⟨g, cap, e, h1, h2.below hb⟩)
def BArg (w : World) (A : Option Addr) (n : Nat) (d : Nat → Bool) : Prop := ∀ j, j < n → ∃ g, A = some ⟨g, 0, none⟩ ∧ g < w.heap.size ∧ w.cell? ⟨g, j, none⟩ = some (.bool (d j))
theorem BArr.arg {w : World} {lo n : Nat} {v : Value} {d : Nat → Bool} (h : BArr w lo v n d) : ∃ A c, v = .slice A n c ∧ BArg w A n d := by
  rcases h with ⟨rfl, rfl⟩ | ⟨g, cap, rfl, -, h2⟩
  · exact ⟨none, 0, rfl, fun j hj => absurd hj (by omega)⟩
  · exact ⟨_, _, rfl, fun j hj => ⟨g, rfl, h2.lt, h2.cell hj⟩⟩
theorem BArg.below {w w' : World} {A : Option Addr} {n : Nat} {d : Nat → Bool} (h : BArg w A n d) (hb : Below w.heap.size w w') : BArg w' A n d := fun j hj => by
  obtain ⟨g, e, h0, h1⟩ := h j hj
  exact ⟨g, e, Nat.lt_of_lt_of_le h0 hb.size, (hb.cell (p := ⟨g, j, none⟩) h0).trans h1⟩
set_option maxRecDepth 100000 in
set_option maxHeartbeats 1000000 in
theorem eqB_c (A A' : Option Addr) (n c c' : Nat) (d : Nat → Bool) (w : World) (hn : n ≤ 1048576) (hA : BArg w A n d) (hA' : BArg w A' n d) :
    Calls Try.prog 33 #[.slice A n c, .slice A' n c'] w (Ret (RV (.bool true)) w) := by
  go_enter Try.func33, Try.ntmps33
  go_wp2
  go_loopw [5] (fun k wr => ∃ m : Nat, m ≤ n ∧ k = .int .i64 m ∧ Below w.heap.size w wr) (fun k _ => n - (intOf k).toNat)
  case atStart => exact ⟨0, by omega, rfl, by (with_reducible repeat (first | exact Below.refl _ _ | apply below_alloc | apply below_dN | apply below_d | refine below_setCell ?_ (by dsimp only; omega) | refine below_call (by assumption) ?_))⟩
  case round =>
    obtain ⟨m, hm, rfl, hB⟩ := hrel
    by_cases hlt : m < n
    · obtain ⟨g, rfl, hg, h0⟩ := hA.below hB m hlt
      obtain ⟨g', rfl, hg', h0'⟩ := hA'.below hB m hlt
      have HA := Lib.hid hA
      have HA' := Lib.hid hA'
      have HB := Lib.hid hB
      clear hA hA' hB
      go_wp2
      (refine region_below (by kernel_rfl) (by kernel_rfl) ?_; (repeat (first | go_big_quiet_step (fail) | quiet_step (fail))); refine wpQuiet_nil ?_; intro w1 hb; obtain ⟨hc, hfz⟩ := bcell hb; (try simp only [World.heap_drewN] at hc hfz); have hz := hb.size)
      go_wp2
      go_roundw
      case rel => exact ⟨m + 1, by omega, by go_num, by have := HB.out; (with_reducible repeat (first | exact Below.refl _ _ | apply below_alloc | apply below_dN | apply below_d | refine below_setCell ?_ (by dsimp only; omega) | refine below_call (by assumption) ?_))⟩
      case measure => first | (simp [intOf]; done) | (simp [intOf]; omega)
    · obtain rfl : m = n := by omega
      go_wp2
      go_ret
      exact ⟨⟨_, rfl, rfl⟩, by (with_reducible repeat (first | exact Below.refl _ _ | apply below_alloc | apply below_dN | apply below_d | refine below_setCell ?_ (by dsimp only; omega) | refine below_call (by assumption) ?_))⟩
theorem eqBo {w : World} {lo lo' n : Nat} {v v' : Value} {d : Nat → Bool} (hn : n ≤ 1048576) (h : BArr w lo v n d) (h' : BArr w lo' v' n d) : Calls Try.prog 33 #[v, v'] w (Ret (RV (.bool true)) w) := by
  obtain ⟨A, c, rfl, hA⟩ := h.arg
  obtain ⟨A', c', rfl, hA'⟩ := h'.arg
  exact eqB_c A A' n c c' d w hn hA hA'
/-- What a marked row holds. -/
def m3 (k i : Nat) : Bool := decide (((k : Int) + (i : Int)).tmod 3 = 0)
def mkb (k n : Nat) (d : Nat → Bool) (i : Nat) : Bool := if i < n then m3 k i else d i
set_option maxRecDepth 100000 in
set_option maxHeartbeats 1000000 in
theorem markB_c (lo : Nat) (v : Value) (n k : Nat) (d : Nat → Bool) (w : World) (hlo : lo ≤ w.heap.size) (hn : n ≤ 1048576) (hk : k ≤ 1048576) (h : BArr w lo v n d) :
    Calls Try.prog 34 #[v, .int .i64 k] w fun e w' => e = .returned (.int .i64 ((k : Int) + (n : Int))) ∧ BArr w' lo v n (mkb k n d) ∧ Below lo w w' := by
  rcases h with ⟨rfl, rfl⟩ | ⟨g, cap, rfl, hg, hrow⟩
  · go_enter Try.func34, Try.ntmps34
    go_wp2
    go_loopw [1, 5] (fun kk i wr => kk = .int .i64 k ∧ i = .int .i64 0 ∧ w = wr) (fun _ _ _ => 0)
    case atStart => exact ⟨rfl, rfl, rfl⟩
    case round =>
      obtain ⟨rfl, rfl, rfl⟩ := hrel
      go_wp2
      go_ret
      exact ⟨by simp, .inl ⟨rfl, rfl⟩, Below.refl _ _⟩
  · go_enter Try.func34, Try.ntmps34
    go_wp2
    go_loopw [1, 5] (fun kk i wr => ∃ m : Nat, m ≤ n ∧ kk = .int .i64 ((k : Int) + (m : Int)) ∧ i = .int .i64 m ∧ Db wr g n cap (mkb k m d) ∧ Below lo w wr) (fun _ i _ => n - (intOf i).toNat)
    case atStart => exact ⟨0, by omega, by simp, rfl, hrow.congr (fun i _ => by simp [mkb]), Below.refl _ _⟩
    case round =>
      obtain ⟨m, hm, rfl, rfl, hr, hB⟩ := hrel
      by_cases hlt : m < n
      · have c0 := hr.cell hlt
        have f0 := hr.fr m
        have hl := hr.lt
        have HR := Lib.hid hr
        have HB := Lib.hid hB
        clear hr hB
        go_wp2
        go_roundw
        case rel => exact ⟨m + 1, by omega, by go_num, by go_num, (HR.out.set m _).congr (fun i hi => by
          unfold mkb
          by_cases e : i = m
          · subst e; rw [if_pos rfl, if_pos (by omega)]; (first | rfl | simp [m3])
          · rw [if_neg e]
            by_cases e2 : i < m
            · rw [if_pos e2, if_pos (by omega)]
            · rw [if_neg e2, if_neg (by omega)]), HB.out.setCell (p := ⟨g, m, none⟩) hg _⟩
        case measure => first | (simp [intOf]; done) | (simp [intOf]; omega)
      · obtain rfl : m = n := by omega
        have HR := Lib.hid hr
        have HB := Lib.hid hB
        clear hr hB
        go_wp2
        go_ret
        exact ⟨rfl, .inr ⟨g, cap, rfl, hg, HR.out⟩, HB.out⟩
theorem ne3 (x : Int) : (!decide (x % 3 = 0) == (x % 3 == 0)) = false := by by_cases h : x % 3 = 0 <;> simp [h]
set_option maxRecDepth 100000 in
set_option maxHeartbeats 1000000 in
theorem heldB_c (lo : Nat) (v : Value) (n k : Nat) (d : Nat → Bool) (w : World) (hn : n ≤ 1048576) (hk : k ≤ 1048576) (h : BArr w lo v n (mkb k n d)) :
    Calls Try.prog 35 #[v, .int .i64 k] w (Ret (RV (.int .i64 ((k : Int) + (n : Int)))) w) := by
  rcases h with ⟨rfl, rfl⟩ | ⟨g, cap, rfl, hg, hrow⟩
  · go_enter Try.func35, Try.ntmps35
    go_wp2
    go_loopw [1, 5] (fun kk i wr => kk = .int .i64 k ∧ i = .int .i64 0 ∧ w = wr) (fun _ _ _ => 0)
    case atStart => exact ⟨rfl, rfl, rfl⟩
    case round =>
      obtain ⟨rfl, rfl, rfl⟩ := hrel
      go_wp2
      go_ret
      exact ⟨⟨_, rfl, by simp [RV]⟩, Below.refl _ _⟩
  · go_enter Try.func35, Try.ntmps35
    go_wp2
    go_loopw [1, 5] (fun kk i wr => ∃ m : Nat, m ≤ n ∧ kk = .int .i64 ((k : Int) + (m : Int)) ∧ i = .int .i64 m ∧ Below w.heap.size w wr) (fun _ i _ => n - (intOf i).toNat)
    case atStart => exact ⟨0, by omega, by simp, rfl, Below.refl _ _⟩
    case round =>
      obtain ⟨m, hm, rfl, rfl, hB⟩ := hrel
      by_cases hlt : m < n
      · have hr := hrow.below hB
        have c0 := hr.cell hlt
        rw [show mkb k n d m = m3 k m by unfold mkb; rw [if_pos hlt], m3] at c0
        have hne := ne3 ((k : Int) + (m : Int))
        have hl := hr.lt
        have HR := Lib.hid hrow
        have HB := Lib.hid hB
        clear hrow hB hr
        go_wp2
        go_roundw
        case rel => exact ⟨m + 1, by omega, by go_num, by go_num, by have := HB.out; (with_reducible repeat (first | exact Below.refl _ _ | apply below_alloc | apply below_dN | apply below_d | refine below_setCell ?_ (by dsimp only; omega) | refine below_call (by assumption) ?_))⟩
        case measure => first | (simp [intOf]; done) | (simp [intOf]; omega)
      · obtain rfl : m = n := by omega
        have HB := Lib.hid hB
        clear hB
        go_wp2
        go_ret
        exact ⟨⟨_, rfl, rfl⟩, HB.out⟩
theorem own_barr {w : World} {B n : Nat} {v : Value} {xs : List Value} {d : Nat → Bool} (h : w.ownsRow B 4 1 v n xs) (hx : ∀ j, j < n → xs[j]? = some (.bool (d j))) : BArr w B v n d := by
  by_cases hn : 0 < n
  · obtain ⟨g, cap, rfl, h1, h2⟩ := own_db h hn hx
    exact .inr ⟨g, cap, rfl, h1, h2⟩
  · obtain rfl : n = 0 := by omega
    rcases h.2 with ⟨rfl, e⟩ | ⟨g, cap, cur, rfl, h1, h2, h3, h4, h5, h6⟩
    · exact .inl ⟨rfl, rfl⟩
    · refine .inr ⟨g, cap, rfl, h1, fun i => (cur[i]?).getD undef, ⟨cur, h2, by omega, fun i hi => ?_⟩, Nat.zero_le _, fun i hi => absurd hi (by omega)⟩
      show cur[i]? = some ((cur[i]?).getD undef)
      rw [Array.getElem?_eq_getElem (by omega)]; rfl
theorem BArr.lo {w : World} {B B' n : Nat} {v : Value} {d : Nat → Bool} (h : BArr w B v n d) (hB : B' ≤ B) : BArr w B' v n d := h.imp id (fun ⟨g, cap, e, h1, h2⟩ => ⟨g, cap, e, Nat.le_trans hB h1, h2⟩)
/-- What a slice of whole numbers and a word are returned as. -/
def BRes (K : Bool) (N : Nat) (D : Nat → Bool) (w : World) (e : Ending) (w' : World) : Prop := ∃ v, e = .returned (.tuple #[v, .bool K]) ∧ BArr w' w.heap.size v N D ∧ Below w.heap.size w w'
theorem BArr.some {w : World} {lo g n cap : Nat} {d : Nat → Bool} (h : lo ≤ g) (hD : Db w g n cap d) : BArr w lo (.slice (.some ⟨g, 0, none⟩) n cap) n d := .inr ⟨g, cap, rfl, h, hD⟩
theorem Db.of_block {w w' : World} {g n cap : Nat} {d : Nat → Bool} (h : Db w g n cap d) (hb : w'.heap[g]? = w.heap[g]?) : Db w' g n cap d := by
  obtain ⟨F, h1, h2, h3⟩ := h
  exact ⟨F, World.rowIs.of_block h1 hb, h2, h3⟩
theorem markB1 (lo : Nat) (v : Value) (n : Nat) (d : Nat → Bool) (w : World) (hlo : lo ≤ w.heap.size) (hn : n ≤ 1048576) (h : BArr w lo v n d) :
    Calls Try.prog 34 #[v, .int .i64 1] w fun e w' => e = .returned (.int .i64 (1 + (n : Int))) ∧ BArr w' lo v n (mkb 1 n d) ∧ Below lo w w' := markB_c lo v n 1 d w hlo hn (by omega) h
theorem heldB1 (lo : Nat) (v : Value) (n : Nat) (d : Nat → Bool) (w : World) (hn : n ≤ 1048576) (h : BArr w lo v n (mkb 1 n d)) :
    Calls Try.prog 35 #[v, .int .i64 1] w (Ret (RV (.int .i64 (1 + (n : Int)))) w) := heldB_c lo v n 1 d w hn (by omega) h
end Go.Proofs.Ytpajakindpbepaa
