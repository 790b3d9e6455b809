/- A drawn net: places of a source's numbers. No condition. -/
import Derived.Test.YtpmeccjfjjklkaaSrd
import Derived.Deep.RegionLaw
namespace Go.Proofs.Ytpmeccjfjjklkaa
open Go.RowKit Go.IntWalk
set_option linter.unusedSimpArgs false
theorem info_plD : (Try.prog.info? 75).map (fun i => (i.zero, i.size, i.bytes)) = some (some (.agg #[.float .f32 0, .float .f32 0]), 2, 8) := by kernel_rfl
theorem info_rdD : (Try.prog.info? 69).map (fun i => (i.zero, i.size, i.bytes)) = some (some (.agg #[.int .i64 0, .int .i64 0, .int .i64 0]), 3, 24) := by kernel_rfl
theorem two_newD (w : World) (b : Nat) (hb : b = w.heap.size) (x y : Value) (t : TypeId) : ∀ j u, [x, y][j]? = some u → (w.alloc (.cells #[x, y] t)).cell? ((⟨b, 0, none⟩ : Addr).add j) = some u := by
  subst hb
  intro j u hu
  match j, hu with
  | 0, hu => cases hu; simp [Addr.add]
  | 1, hu => cases hu; simp [Addr.add]
theorem three_newD (w : World) (b : Nat) (hb : b = w.heap.size) (x y z : Value) (t : TypeId) : ∀ j u, [x, y, z][j]? = some u → (w.alloc (.cells #[x, y, z] t)).cell? ((⟨b, 0, none⟩ : Addr).add j) = some u := by
  subst hb
  intro j u hu
  match j, hu with
  | 0, hu => cases hu; simp [Addr.add]
  | 1, hu => cases hu; simp [Addr.add]
  | 2, hu => cases hu; simp [Addr.add]
theorem World.ownsRow.keep1 {w w' : World} {lo g : Nat} {e : TypeId} {size : Nat} {v : Value} {n : Nat} {xs : List Value} (h : w.ownsRow lo e size v n xs) (hk : Keep1 g w w') (hg : g < lo) : w'.ownsRow lo e size v n xs := by
  refine ⟨h.1, h.2.imp id ?_⟩
  rintro ⟨q, cap, cur, rfl, h1, h2, h3⟩
  exact ⟨q, cap, cur, rfl, h1, (hk q (Array.getElem?_eq_some_iff.1 h2).1 (by omega)).trans h2, h3⟩
theorem Keep1.trans {g : Nat} {w1 w2 w3 : World} (h : Keep1 g w1 w2) (h' : Keep1 g w2 w3) (hs : w1.heap.size ≤ w2.heap.size) : Keep1 g w1 w3 := fun b hb hne => (h' b (by omega) hne).trans (h b hb hne)
theorem Keep1.of_below {g : Nat} {w1 w2 : World} (h : Below w1.heap.size w1 w2) : Keep1 g w1 w2 := fun b hb _ => h.block b hb
/-- A source of bytes that has given at most so many numbers. -/
def SG (g n c : Nat) (A : Option Addr) (B : Nat) (w : World) : Prop := (∃ (i : Nat) (sd : Int), i ≤ B ∧ tri 109 w g (.slice A n c) (.int .i64 (i : Int)) (.int .u64 sd)) ∧ ByArg w A n ∧ ∀ a, A = some a → 0 < n → a.block < g
theorem SG.lt {g n c : Nat} {A : Option Addr} {B : Nat} {w : World} (h : SG g n c A B w) : g < w.heap.size := by
  obtain ⟨⟨i, sd, h1, h2⟩, -⟩ := h
  exact h2.lt
theorem SG.keep {g n c : Nat} {A : Option Addr} {B : Nat} {w w' : World} (h : SG g n c A B w) (hk : ∀ b, b ≤ g → w'.heap[b]? = w.heap[b]?) (hs : w.heap.size ≤ w'.heap.size) : SG g n c A B w' := by
  obtain ⟨⟨i, sd, h1, h2⟩, h3, h4⟩ := h
  refine ⟨⟨i, sd, h1, h2.blk (hk g (Nat.le_refl _))⟩, fun j hj => ?_, h4⟩
  obtain ⟨a, k, e, h0, h1, h2⟩ := h3 j hj
  have hb := hk a.block (by have := h4 a e (by omega); omega)
  refine ⟨a, k, e, Nat.lt_of_lt_of_le h0 hs, ?_, h2⟩
  rw [← h1]
  exact World.cell?_of_block (by rw [block_add]; exact hb)
theorem SG.below {g n c : Nat} {A : Option Addr} {B : Nat} {w w' : World} (h : SG g n c A B w) (hb : Below w.heap.size w w') : SG g n c A B w' := h.keep (fun b hb' => hb.block b (by have := h.lt; omega)) hb.size
set_option maxRecDepth 100000 in
set_option maxHeartbeats 2000000 in
theorem pickS (g n c m B : Nat) (A : Option Addr) (w : World) (hm : 1 ≤ m) (hm2 : m ≤ 200) (hB : B ≤ 1048500) (hn : n ≤ 1048576) (h : SG g n c A B w) :
    Calls Try.prog 71 #[.pointer (some ⟨g, 0, none⟩), .int .i64 m] w (fun e w' => ∃ k : Nat, k < m ∧ e = .returned (.int .i64 (k : Int)) ∧ SG g n c A (B + 1) w' ∧ Keep1 g w w' ∧ Below g w w') := by
  obtain ⟨⟨i, sd, h1, h2⟩, h3, h4⟩ := h
  by_cases e : 2 ≤ m
  · refine (pick_c g n c i m A sd w e hm2 (by omega) (by omega) h3 h4 h2).mono ?_
    rintro e w' ⟨k, hk, rfl, ⟨sd', hT⟩, hK, hb⟩
    exact ⟨k, hk, rfl, ⟨⟨i + 1, sd', by omega, hT⟩, h3.below h4 hb, h4⟩, hK, hb⟩
  · obtain rfl : m = 1 := by omega
    have hS : SG g n c A (B + 1) w := ⟨⟨i, sd, by omega, h2⟩, h3, h4⟩
    have HS := Lib.hid hS
    clear h1 h2 h3 h4 hS
    go_enter Try.func71, Try.ntmps71
    go_wp2
    go_ret
    exact ⟨0, by omega, rfl, HS.out, fun _ _ _ => rfl, Below.refl _ _⟩
theorem below_loD {lo k : Nat} {w w' : World} (h : Below lo w w') : Below lo w (w'.drewN k) := ⟨h.os, h.tape, h.output, h.size, h.block⟩
/-- Where a drawn place lies. -/
def nP (k : Nat) : Nat := fop .quo .f32 (cn .f32 (fofI .f32 ((k : Int) - 32))) (cn .f32 1124073472)
def eP (k : Nat) : Nat := fop .quo .f32 (cn .f32 (fofI .f32 ((k : Int) - 64))) (cn .f32 1124073472)
theorem nP_ok : ∀ k : Fin 65, (fge .f32 (nP k.val) 3196059648 && fle .f32 (nP k.val) 1048576000) = true := by decide +kernel
theorem eP_ok : ∀ k : Fin 128, (fge .f32 (eP k.val) 3204448256 && flt .f32 (eP k.val) 1056964608) = true := by decide +kernel
theorem vp_ok {k j : Nat} (hk : k < 65) (hj : j < 128) : vplace (nP k) (eP j) = true := by
  have h1 := nP_ok ⟨k, hk⟩
  have h2 := eP_ok ⟨j, hj⟩
  simp only [Bool.and_eq_true] at h1 h2
  unfold vplace
  simp [h1.1, h1.2, h2.1, h2.2]
/-- Two cells of one block. -/
def duo (T : TypeId) (w : World) (p : Nat) (u v : Value) : Prop := w.rowIs p T 2 (fun i => if i = 0 then u else v)
theorem duo.c0 {T : TypeId} {w : World} {p : Nat} {u v : Value} (h : duo T w p u v) : w.cell? ⟨p, 0, none⟩ = some u := World.rowIs.cell h (i := 0) (by omega)
theorem duo.c1 {T : TypeId} {w : World} {p : Nat} {u v : Value} (h : duo T w p u v) : w.cell? ⟨p, 1, none⟩ = some v := World.rowIs.cell h (i := 1) (by omega)
theorem duo.fr {T : TypeId} {w : World} {p : Nat} {u v : Value} (h : duo T w p u v) (i : Nat) : w.frozen? ⟨p, i, none⟩ = false := World.rowIs.frozen h i
theorem duo.lt {T : TypeId} {w : World} {p : Nat} {u v : Value} (h : duo T w p u v) : p < w.heap.size := World.rowIs.lt h
theorem duo.newAt {T : TypeId} {w : World} {p : Nat} {u v : Value} (hp : p = w.heap.size) : duo T (w.alloc (.cells #[u, v] T)) p u v := by
  subst hp
  exact World.rowIs_alloc w _ _ _ (fun i hi => by
    match i, hi with
    | 0, _ => rfl
    | 1, _ => rfl)
/-- What the drawing of a place returns. -/
def DOK (g n c B : Nat) (A : Option Addr) (w : World) (e : Ending) (w' : World) : Prop := ∃ x y, e = .returned (.agg #[.float .f32 x, .float .f32 y]) ∧ vplace (cn .f32 x) (cn .f32 y) = true ∧ SG g n c A (B + 2) w' ∧ Keep1 g w w' ∧ Below g w w'
set_option maxRecDepth 100000 in
set_option maxHeartbeats 4000000 in
theorem drawOk_c (g n c B : Nat) (A : Option Addr) (w : World) (hB : B ≤ 1000000) (hn : n ≤ 1048576) (h : SG g n c A B w) :
    Calls Try.prog 82 #[.pointer (some ⟨g, 0, none⟩)] w (DOK g n c B A w) := by
  have hgl := h.lt
  have HP1 := Lib.hid (fun w' (h : SG g n c A B w') => show Calls Try.prog 71 #[.pointer (some ⟨g, 0, none⟩), .int .i64 65] w' _ from pickS g n c 65 B A w' (by omega) (by omega) (by omega) hn h)
  have HP2 := Lib.hid (fun w' (h : SG g n c A (B + 1) w') => show Calls Try.prog 71 #[.pointer (some ⟨g, 0, none⟩), .int .i64 128] w' _ from pickS g n c 128 (B + 1) A w' (by omega) (by omega) (by omega) hn h)
  have hb0 : Below w.heap.size w (w.alloc (.cells #[.float .f32 0, .float .f32 0] 75)) := by (with_reducible repeat (first | exact Below.refl _ _ | apply below_alloc | apply below_dN | apply below_d | refine below_setCell ?_ (by dsimp only; omega) | refine below_call (by assumption) ?_))
  have tQ : duo 75 (w.alloc (.cells #[.float .f32 0, .float .f32 0] 75)) w.heap.size (.float .f32 0) (.float .f32 0) := duo.newAt rfl
  have hs0 : (w.alloc (.cells #[.float .f32 0, .float .f32 0] 75)).heap.size = w.heap.size + 1 := by simp
  have HS0 := Lib.hid (h.below hb0)
  have HB0 := Lib.hid hb0
  have HTQ := Lib.hid tQ
  clear h hb0 tQ
  go_enter Try.func82, Try.ntmps82
  go_upto_region 2 with (first | (refine wpL_farith rfl _ _ _ _ _ rfl rfl _ _ _ rfl rfl ?_; intro x n1 hx0 hw0) | (go_at_call 71; ((with_reducible refine (HP1.out _ HS0.out).mono ?_); rintro e w1 ⟨k, hk, rfl, hS1, hK1, hB1⟩)))
  have hx : cn .f32 x = nP k := hx0
  have hs1 := hB1.size
  have hS1' : SG g n c A (B + 1) (w1.drewN n1) := hS1.below (below_dN (Below.refl _ _))
  have tQ1 : duo 75 (w1.drewN n1) w.heap.size (.float .f32 0) (.float .f32 0) := World.rowIs.of_block HTQ.out (hK1 w.heap.size (by omega) (by omega))
  have HS1 := Lib.hid hS1'
  have HTQ := Lib.hid tQ1
  clear hS1' hS1 tQ1
  go_wp2_with (first | (refine wpL_farith rfl _ _ _ _ _ rfl rfl _ _ _ rfl rfl ?_; intro y n2 hy0 hw1) | (go_at_call 71; ((with_reducible refine (HP2.out _ HS1.out).mono ?_); rintro e w2 ⟨j, hj, rfl, hS2, hK2, hB2⟩); have tQ2 : duo 75 w2 w.heap.size (.float .f32 0) (.float .f32 0) := World.rowIs.of_block HTQ.out (hK2 w.heap.size (show w.heap.size < w1.heap.size by omega) (by omega)); have q0 := tQ2.c0; have q1 := tQ2.c1; have ql := tQ2.lt; have qf0 := tQ2.fr 0; have qf1 := tQ2.fr 1))
  have hy : cn .f32 y = eP j := hy0
  refine bodyPost_ret (v := .agg #[.float .f32 x, .float .f32 y]) (by simp [results, Try.results82, go_sem, *] <;> (first | rfl | exact ⟨rfl, rfl⟩ | exact ⟨rfl, rfl, rfl⟩ | exact ⟨rfl, rfl, rfl, rfl⟩)) rfl ?_
  have hk12 : Keep1 g w w2 := (Keep1.of_below HB0.out).trans (hK1.trans (show Keep1 g w1 w2 from hK2) hs1) (by omega)
  have hb12 : Below g w w2 := ((HB0.out.mono (by omega)).trans hB1).trans (show Below g w1 w2 from ⟨hB2.os, hB2.tape, hB2.output, hB2.size, hB2.block⟩)
  have hs2 := hB2.size
  have hs2' : w1.heap.size ≤ w2.heap.size := hs2
  refine ⟨x, y, rfl, by rw [hx, hy]; exact vp_ok hk hj, ?_, ?_, ?_⟩
  · exact hS2.keep (fun b hb => (Below.heap_setCell _ _ _ _ (by simp only; omega)).trans (Below.heap_setCell _ _ _ _ (by simp only; omega))) (by simp [World.setCell])
  · exact fun b hb hne => ((Below.heap_setCell _ _ _ _ (by simp only; omega)).trans (Below.heap_setCell _ _ _ _ (by simp only; omega))).trans (hk12 b hb hne)
  · exact ((below_loD hb12).setCell (p := ⟨w.heap.size, 0, none⟩) (by simp only; omega) _).setCell (p := ⟨w.heap.size, 1, none⟩) (by simp only; omega) _
def PlV (xs : List Value) (i : Nat) : Prop := ∀ j, j < i → ∃ x y, xs[j * 2]? = some (.float .f32 x) ∧ xs[j * 2 + 1]? = some (.float .f32 y) ∧ vplace (cn .f32 x) (cn .f32 y) = true
theorem PlV.snoc {xs : List Value} {i x y : Nat} (h : PlV xs i) (hl : xs.length = i * 2) (hv : vplace (cn .f32 x) (cn .f32 y) = true) : PlV (xs ++ [.float .f32 x, .float .f32 y]) (i + 1) := fun j hj => by
  by_cases e : j = i
  · subst e
    exact ⟨x, y, by rw [List.getElem?_append_right (by omega), hl]; simp, by rw [List.getElem?_append_right (by omega), hl, show j * 2 + 1 - j * 2 = 1 by omega]; rfl, hv⟩
  · obtain ⟨x', y', h1, h2, h3⟩ := h j (by omega)
    exact ⟨x', y', by rw [List.getElem?_append_left (by omega)]; exact h1, by rw [List.getElem?_append_left (by omega)]; exact h2, h3⟩
theorem own_plD {w : World} {B n : Nat} {v : Value} {xs : List Value} (h : w.ownsRow B 75 2 v n xs) (hn : 0 < n) (hx : PlV xs n) : ∃ g cap X Y, v = .slice (some ⟨g, 0, none⟩) n cap ∧ B ≤ g ∧ g < w.heap.size ∧ PlCells w g n X Y ∧ allP X Y n = true := by
  rcases h.2 with ⟨rfl, e⟩ | ⟨g, cap, cur, rfl, h1, h2, h3, h4, h5, h6⟩
  · omega
  · have hrow : w.rowIs g 75 (cap * 2) (fun i => (cur[i]?).getD undef) := ⟨cur, h2, by omega, fun i hi => by
      show cur[i]? = some ((cur[i]?).getD undef)
      rw [Array.getElem?_eq_getElem (by omega)]; rfl⟩
    have hc : ∀ i, i < n * 2 → ∀ u, xs[i]? = some u → w.cell? ⟨g, i, none⟩ = some u := fun i hi u hu => by
      rw [← h6, List.getElem?_take, if_pos (by omega), Array.getElem?_toList] at hu
      rw [hrow.cell (i := i) (by omega), hu]; rfl
    have hb : ∀ j : Nat, ∃ p : Nat × Nat, j < n → ∃ x y, xs[j * 2]? = some (.float .f32 x) ∧ xs[j * 2 + 1]? = some (.float .f32 y) ∧ vplace (cn .f32 x) (cn .f32 y) = true ∧ p = (cn .f32 x, cn .f32 y) := fun j => by
      by_cases hj : j < n
      · obtain ⟨x, y, e1, e2, e3⟩ := hx j hj
        exact ⟨(cn .f32 x, cn .f32 y), fun _ => ⟨x, y, e1, e2, e3, rfl⟩⟩
      · exact ⟨(0, 0), fun h => absurd h hj⟩
    refine ⟨g, cap, fun j => (hb j).choose.1, fun j => (hb j).choose.2, rfl, h1, hrow.lt, fun j hj => ?_, allP_true fun j hj => ?_⟩
    · obtain ⟨x, y, e1, e2, e3, e4⟩ := (hb j).choose_spec hj
      exact ⟨x, y, hc _ (by omega) _ e1, hc _ (by omega) _ e2, by show _ = (hb j).choose.1; rw [e4], by show _ = (hb j).choose.2; rw [e4]⟩
    · obtain ⟨x, y, e1, e2, e3, e4⟩ := (hb j).choose_spec hj
      show vplace (hb j).choose.1 (hb j).choose.2 = true
      rw [e4]; exact e3
/-- What the drawing of places keeps. -/
def DPR (g nb c B : Nat) (A : Option Addr) (w : World) (i : Nat) (v : Value) (wr : World) : Prop := ∃ xs, wr.ownsRow w.heap.size 75 2 v i xs ∧ PlV xs i ∧ SG g nb c A (B + 2 * i) wr ∧ Keep1 g w wr ∧ Below g w wr
/-- What the drawing of places returns. -/
def DPP (g nb c B cnt : Nat) (A : Option Addr) (w : World) (e : Ending) (w' : World) : Prop := ∃ q cap X Y, e = .returned (.slice (some ⟨q, 0, none⟩) cnt cap) ∧ w.heap.size ≤ q ∧ q < w'.heap.size ∧ PlCells w' q cnt X Y ∧ allP X Y cnt = true ∧ SG g nb c A (B + 2 * cnt) w' ∧ Keep1 g w w' ∧ Below g w w'
theorem SG.le {g n c : Nat} {A : Option Addr} {B B' : Nat} {w : World} (h : SG g n c A B w) (hb : B ≤ B') : SG g n c A B' w := by
  obtain ⟨⟨i, sd, h1, h2⟩, h3⟩ := h
  exact ⟨⟨i, sd, by omega, h2⟩, h3⟩
set_option maxRecDepth 100000 in
set_option maxHeartbeats 4000000 in
theorem drawPl_c (g nb c B cnt : Nat) (A : Option Addr) (w : World) (hB : B ≤ 1000) (hc1 : 1 ≤ cnt) (hc : cnt ≤ 10) (hn : nb ≤ 1048576) (h : SG g nb c A B w) :
    Calls Try.prog 72 #[.pointer (some ⟨g, 0, none⟩), .int .i64 cnt] w (DPP g nb c B cnt A w) := by
  have hgl := h.lt
  have HD := Lib.hid (fun (i : Nat) w' (hi : i < cnt) (h : SG g nb c A (B + 2 * i) w') => drawOk_c g nb c (B + 2 * i) A w' (by omega) hn h)
  obtain ⟨i0, hi, hI0, hI1, hI2⟩ := info_parts info_plD
  have HS := Lib.hid h
  clear h
  go_enter Try.func72, Try.ntmps72
  go_wp2
  go_loopw [1, 5] (fun nv v wr => ∃ i : Nat, i ≤ cnt ∧ nv = .int .i64 ((cnt : Int) - (i : Int)) ∧ DPR g nb c B A w i v wr) (fun nv _ _ => (intOf nv).toNat)
  case atStart => exact ⟨0, by omega, by simp, [], ⟨rfl, .inr ⟨w.heap.size, 0, #[], rfl, Nat.le_refl _, heap_alloc_new _ _, Nat.le_refl _, by simp [maxLen], rfl, rfl⟩⟩, fun j hj => absurd hj (by omega), HS.out.below (by (with_reducible repeat (first | exact Below.refl _ _ | apply below_alloc | apply below_dN | apply below_d | refine below_setCell ?_ (by dsimp only; omega) | refine below_call (by assumption) ?_))), Keep1.of_below (by (with_reducible repeat (first | exact Below.refl _ _ | apply below_alloc | apply below_dN | apply below_d | refine below_setCell ?_ (by dsimp only; omega) | refine below_call (by assumption) ?_))), (Below.refl _ _).alloc (Nat.le_of_lt hgl) _⟩
  case round =>
    rename World => wO
    obtain ⟨i, hic, rfl, xs, hown, hxs, hS, hK, hBO⟩ := hrel
    have HOWN := Lib.hid hown
    have HXS := Lib.hid hxs
    have HSO := Lib.hid hS
    have HK := Lib.hid hK
    have HBO := Lib.hid hBO
    have hsO := hBO.size
    clear hown hxs hS hK hBO
    by_cases hlt : i < cnt
    · have hlt' : (0 : Int) < (cnt : Int) - (i : Int) := by omega
      go_wp2_with (first | (go_at_call 82; ((with_reducible refine (HD.out i _ hlt HSO.out).mono ?_); rintro e w5 ⟨x, y, rfl, hv, hS5, hK5, hB5⟩); have hown5 := World.ownsRow.keep1 HOWN.out hK5 hgl; have hs5 := hB5.size) | (at_builtin; refine wpList_append_own _ rfl (.tmp 11) (.tmp 14) 28 rfl w.heap.size 75 i0 (.agg #[.float .f32 0, .float .f32 0]) 2 8 Try.underlying28 hi hI0 hI1 hI2 rfl (by decide) _ _ _ rfl (hown5.alloc _) ⟨w5.heap.size, 0, none⟩ 1 1 [.float .f32 x, .float .f32 y] rfl rfl (two_newD _ _ rfl _ _ _) (by intro z hz; simp at hz; rcases hz with rfl | rfl <;> rfl) (by unfold maxLen; omega) (by omega) (by simp; omega) ?_; intro v1 w6 hown6 hgrow6 hnil6))
      go_roundw
      case rel =>
        have hneq : ∀ q, q < w.heap.size → some q ≠ Value.ownBlock _ := fun q hq e => by have := (hown5.lt _ e.symm).1; omega
        have hb6 : ∀ q, q < w.heap.size → w6.heap[q]? = w5.heap[q]? := fun q hq => (hgrow6.block q (by simp; omega) (hneq q hq)).trans (((Below.refl w5.heap.size w5).alloc (Nat.le_refl _) _).block q (by omega))
        have hgr := ((Below.refl g w5).alloc (by omega) (.cells #[.float .f32 x, .float .f32 y] 75)).grown hgrow6 (by simp; omega) (fun j hj => by have := (hown5.lt j hj).1; omega)
        refine ⟨i + 1, by omega, by go_num, xs ++ [.float .f32 x, .float .f32 y], hown6, HXS.out.snoc HOWN.out.1 hv, ?_, ?_, ?_⟩
        · exact (hS5.keep (fun b hb => hb6 b (by omega)) hgr.size).le (by omega)
        · exact fun b hb hne => (hb6 b hb).trans ((HK.out.trans hK5 hsO) b hb hne)
        · exact (HBO.out.trans hB5).trans hgr
      case measure => first | (simp [intOf]; done) | (simp [intOf]; omega)
    · obtain rfl : i = cnt := by omega
      have hlt' : ¬ ((0 : Int) < (i : Int) - (i : Int)) := by omega
      obtain ⟨q, cap, X, Y, rfl, hq1, hq2, hP, hV⟩ := own_plD HOWN.out (by omega) HXS.out
      have HP := Lib.hid hP
      clear hP
      go_wp2
      go_ret
      exact ⟨q, cap, X, Y, rfl, hq1, hq2, HP.out, hV, HSO.out, HK.out, HBO.out⟩
end Go.Proofs.Ytpmeccjfjjklkaa
