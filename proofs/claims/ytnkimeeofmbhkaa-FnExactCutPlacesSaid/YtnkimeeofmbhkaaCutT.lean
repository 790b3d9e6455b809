/- Rows of places that may be written: marked, held. No condition. -/
import Derived.Test.YtnkimeeofmbhkaaLArePl
namespace Go.Proofs.Ytnkimeeofmbhkaa
open Go.RowKit
set_option linter.unusedSimpArgs false
def Keep1 (g : Nat) (w w' : World) : Prop := ∀ b, b < w.heap.size → b ≠ g → w'.heap[b]? = w.heap[b]?
theorem Keep1.refl (g : Nat) (w : World) : Keep1 g w w := fun _ _ _ => rfl
theorem Keep1.set {g i : Nat} {w w' : World} (h : Keep1 g w w') (z : Value) : Keep1 g w (w'.setCell ⟨g, i, none⟩ z) := fun b hb hne => (Below.heap_setCell _ _ _ _ hne).trans (h b hb hne)
set_option maxRecDepth 100000 in
set_option maxHeartbeats 1000000 in
theorem markPl_c (lo g n k : Nat) (F : Nat → Value) (w : World) (hlo : lo ≤ g) (hn : n ≤ 1048576) (hk : k ≤ 8388608) (hrow : w.rowIs g 24 (n * 2) F) :
    Calls Try.prog 18 #[.slice (some ⟨g, 0, none⟩) n n, .int .i64 k] w fun e w' => e = .returned (.int .i64 ((k : Int) + 2 * (n : Int))) ∧ Below lo w w' ∧ Keep1 g w w' := by
  go_enter Try.func18, Try.ntmps18
  go_wp2
  go_loopw [1, 5] (fun kk i wr => ∃ m : Nat, ∃ f, m ≤ n ∧ kk = .int .i64 ((k : Int) + 2 * (m : Int)) ∧ i = .int .i64 m ∧ wr.rowIs g 24 (n * 2) f ∧ Below lo w wr ∧ Keep1 g w wr) (fun _ i _ => n - (intOf i).toNat)
  case atStart => exact ⟨0, F, by omega, by simp, rfl, hrow, Below.refl _ _, Keep1.refl _ _⟩
  case round =>
    obtain ⟨m, f, hm, rfl, rfl, hr, hB, hK⟩ := hrel
    by_cases hlt : m < n
    · have HB := Lib.hid hB
      have HK := Lib.hid hK
      have hl := hr.lt
      have c0 := hr.cell (i := m * 2) (by omega)
      have c1 := hr.cell (i := m * 2 + 1) (by omega)
      have f0 := hr.frozen (m * 2)
      have f1 := hr.frozen (m * 2 + 1)
      have HR := Lib.hid hr
      clear hr hB hK
      go_wp2
      go_roundw
      case rel => exact ⟨m + 1, _, by omega, by go_num, by go_num, (HR.out.set (m * 2) _).set (m * 2 + 1) _, (HB.out.setCell (p := ⟨g, m * 2, none⟩) hlo _).setCell (p := ⟨g, m * 2 + 1, none⟩) hlo _, (HK.out.set _).set _⟩
      case measure => first | (simp [intOf]; done) | (simp [intOf]; omega)
    · obtain rfl : m = n := by omega
      have HB := Lib.hid hB
      have HK := Lib.hid hK
      clear hr hB hK
      go_wp2
      go_ret
      exact ⟨rfl, HB.out, HK.out⟩
theorem fofI_nan (k : FloatKind) (n : Int) : nanB k (fofI k n) = false := write_ok k (d := .number (n < 0) n.natAbs 0) rfl
theorem fofI_self (n : Int) : feq .f32 (fofI .f32 n) (fofI .f32 n) = true := by rw [feq_self, fofI_nan]; rfl
/-- Every other block is as it was. -/
def KeepV (v : Value) (w w' : World) : Prop := ∀ b, b < w.heap.size → v.ownBlock ≠ some b → w'.heap[b]? = w.heap[b]?
/-- A row that may be written. -/
def TRow (t : TypeId) (s : Nat) (w : World) (lo : Nat) (v : Value) (n : Nat) (f : Nat → Value) : Prop := (v = .slice none 0 0 ∧ n = 0) ∨ ∃ g cap N, v = .slice (some ⟨g, 0, none⟩) n cap ∧ lo ≤ g ∧ n * s ≤ N ∧ ∃ F, w.rowIs g t N F ∧ ∀ i, i < n * s → F i = f i
namespace TRow
variable {t : TypeId} {s : Nat} {w w' : World} {lo n : Nat} {v : Value} {f : Nat → Value}
theorem below (h : TRow t s w lo v n f) (hb : Below w.heap.size w w') : TRow t s w' lo v n f := h.imp id (fun ⟨g, cap, N, e, h1, h2, F, h3, h4⟩ => ⟨g, cap, N, e, h1, h2, F, h3.of_block (hb.block g h3.lt), h4⟩)
theorem keep (h : TRow t s w lo v n f) (hk : ∀ b, b < w.heap.size → lo ≤ b → v.ownBlock = some b → w'.heap[b]? = w.heap[b]?) : TRow t s w' lo v n f := by
  rcases h with h | ⟨g, cap, N, rfl, h1, h2, F, h3, h4⟩
  · exact .inl h
  · exact .inr ⟨g, cap, N, rfl, h1, h2, F, h3.of_block (hk g h3.lt h1 rfl), h4⟩
theorem lo_le {lo' : Nat} (h : TRow t s w lo v n f) (hl : lo' ≤ lo) : TRow t s w lo' v n f := h.imp id (fun ⟨g, cap, N, e, h1, h2⟩ => ⟨g, cap, N, e, Nat.le_trans hl h1, h2⟩)
theorem own {B : Nat} {xs : List Value} (h : w.ownsRow B t s v n xs) (hf : ∀ i, i < n * s → xs[i]? = some (f i)) : TRow t s w B v n f := by
  rcases h.2 with ⟨rfl, e⟩ | ⟨g, cap, cur, rfl, h1, h2, h3, h4, h5, h6⟩
  · exact .inl ⟨rfl, e⟩
  · have hs : n * s ≤ cap * s := Nat.mul_le_mul_right s h3
    refine .inr ⟨g, cap, cap * s, rfl, h1, hs, fun i => (cur[i]?).getD undef, ⟨cur, h2, by omega, fun i hi => ?_⟩, fun i hi => ?_⟩
    · show cur[i]? = some ((cur[i]?).getD undef)
      rw [Array.getElem?_eq_getElem (by omega)]; rfl
    · have e := hf i hi
      rw [← h6, List.getElem?_take, if_pos hi, Array.getElem?_toList] at e
      show (cur[i]?).getD undef = _
      rw [e]; rfl
theorem ne {t' : TypeId} {s' lo' n' : Nat} {v' : Value} {f' : Nat → Value} (h : TRow t s w lo v n f) (h' : TRow t' s' w lo' v' n' f') (ht : t ≠ t') (b : Nat) (hb : v.ownBlock = some b) : v'.ownBlock ≠ some b := by
  rcases h with ⟨rfl, -⟩ | ⟨g, cap, N, rfl, h1, h2, F, ⟨c, h3, -⟩, h4⟩
  · exact absurd hb (by simp [Value.ownBlock])
  · rcases h' with ⟨rfl, -⟩ | ⟨g', cap', N', rfl, h1', h2', F', ⟨c', h3', -⟩, h4'⟩
    · simp [Value.ownBlock]
    · intro hb'
      simp only [Value.ownBlock, Option.some.injEq] at hb hb'
      obtain rfl := hb.trans hb'.symm
      rw [h3] at h3'
      injection h3' with h3'
      injection h3' with _ e
      exact ht e
theorem lt (h : TRow t s w lo v n f) {b : Nat} (hb : v.ownBlock = some b) : b < w.heap.size := by
  rcases h with ⟨rfl, -⟩ | ⟨g, cap, N, rfl, h1, h2, F, h3, h4⟩
  · exact absurd hb (by simp [Value.ownBlock])
  · simp only [Value.ownBlock, Option.some.injEq] at hb
    subst hb
    exact h3.lt
end TRow
/-- What a marked row holds. -/
def mkp (k n : Nat) (f : Nat → Value) (i : Nat) : Value := if i < 2 * n then .float .f32 (fofI .f32 ((k : Int) + (i : Int))) else f i
set_option maxRecDepth 100000 in
set_option maxHeartbeats 1000000 in
theorem markPlV_c (lo : Nat) (v : Value) (n k : Nat) (f : Nat → Value) (w : World) (hlo : lo ≤ w.heap.size) (hn : n ≤ 1048576) (hk : k ≤ 8388608) (h : TRow 24 2 w lo v n f) :
    Calls Try.prog 18 #[v, .int .i64 k] w fun e w' => e = .returned (.int .i64 ((k : Int) + 2 * (n : Int))) ∧ TRow 24 2 w' lo v n (mkp k n f) ∧ KeepV v w w' ∧ Below lo w w' := by
  rcases h with ⟨rfl, rfl⟩ | ⟨g, cap, N, rfl, hg, hN, F, hrow, hF⟩
  · go_enter Try.func18, Try.ntmps18
    go_wp2
    go_loopw [1, 5] (fun kk i wr => kk = .int .i64 k ∧ i = .int .i64 0 ∧ w = wr) (fun _ _ _ => 0)
    case atStart => exact ⟨rfl, rfl, rfl⟩
    case round =>
      obtain ⟨rfl, rfl, rfl⟩ := hrel
      go_wp2
      go_ret
      exact ⟨by simp, .inl ⟨rfl, rfl⟩, fun _ _ _ => rfl, Below.refl _ _⟩
  · have hlg : g < w.heap.size := hrow.lt
    go_enter Try.func18, Try.ntmps18
    go_wp2
    go_loopw [1, 5] (fun kk i wr => ∃ m : Nat, m ≤ n ∧ kk = .int .i64 ((k : Int) + 2 * (m : Int)) ∧ i = .int .i64 m ∧ wr.rowIs g 24 N (mkp k m F) ∧ Keep1 g w wr ∧ Below lo w wr) (fun _ i _ => n - (intOf i).toNat)
    case atStart => exact ⟨0, by omega, by simp, rfl, hrow.congr (fun i _ => by simp [mkp]), Keep1.refl _ _, Below.refl _ _⟩
    case round =>
      obtain ⟨m, hm, rfl, rfl, hr, hK, hB⟩ := hrel
      have hsz := hB.size
      by_cases hlt : m < n
      · have HB := Lib.hid hB
        have HK := Lib.hid hK
        clear hB hK
        have hl := hr.lt
        have c0 := hr.cell (i := m * 2) (by omega)
        have c1 := hr.cell (i := m * 2 + 1) (by omega)
        have f0 := hr.frozen (m * 2)
        have f1 := hr.frozen (m * 2 + 1)
        have HR := Lib.hid hr
        clear hr hrow hF
        go_wp2
        go_roundw
        case rel => exact ⟨m + 1, by omega, by go_num, by go_num, ((HR.out.set (m * 2) _).set (m * 2 + 1) _).congr (fun i hi => by
          unfold mkp
          by_cases e : i = m * 2 + 1
          · subst e; rw [if_pos rfl, if_pos (by omega)]; congr 2; omega
          · rw [if_neg e]
            by_cases e2 : i = m * 2
            · subst e2; rw [if_pos rfl, if_pos (by omega)]; congr 2; omega
            · rw [if_neg e2]
              by_cases e3 : i < 2 * m
              · rw [if_pos e3, if_pos (by omega)]
              · rw [if_neg e3, if_neg (by omega)]), (HK.out.set _).set _, (HB.out.setCell (p := ⟨g, m * 2, none⟩) hg _).setCell (p := ⟨g, m * 2 + 1, none⟩) hg _⟩
        case measure => first | (simp [intOf]; done) | (simp [intOf]; omega)
      · obtain rfl : m = n := by omega
        have HR := Lib.hid hr
        have HB := Lib.hid hB
        have HK := Lib.hid hK
        have HF := Lib.hid hF
        clear hr hB hK hrow hF
        go_wp2
        go_ret
        exact ⟨rfl, .inr ⟨g, cap, N, rfl, hg, hN, _, HR.out, fun i hi => by unfold mkp; rw [HF.out i hi]⟩, fun b hb hne => HK.out b hb (fun e => hne (by rw [e]; rfl)), HB.out⟩
set_option maxRecDepth 100000 in
set_option maxHeartbeats 1000000 in
theorem heldPlV_c (lo : Nat) (v : Value) (n k : Nat) (f : Nat → Value) (w : World) (hn : n ≤ 1048576) (hk : k ≤ 8388608) (h : TRow 24 2 w lo v n (mkp k n f)) :
    Calls Try.prog 35 #[v, .int .i64 k] w (Ret (RV (.int .i64 ((k : Int) + 2 * (n : Int)))) w) := by
  rcases h with ⟨rfl, rfl⟩ | ⟨g, cap, N, rfl, hg, hN, F, hrow, hF⟩
  · go_enter Try.func35, Try.ntmps35
    go_wp2
    go_loopw [1, 5] (fun kk i wr => kk = .int .i64 k ∧ i = .int .i64 0 ∧ w = wr) (fun _ _ _ => 0)
    case atStart => exact ⟨rfl, rfl, rfl⟩
    case round =>
      obtain ⟨rfl, rfl, rfl⟩ := hrel
      go_wp2
      go_ret
      exact ⟨⟨_, rfl, by simp [RV]⟩, Below.refl _ _⟩
  · go_enter Try.func35, Try.ntmps35
    go_wp2
    go_loopw [1, 5] (fun kk i wr => ∃ m : Nat, m ≤ n ∧ kk = .int .i64 ((k : Int) + 2 * (m : Int)) ∧ i = .int .i64 m ∧ Below w.heap.size w wr) (fun _ i _ => n - (intOf i).toNat)
    case atStart => exact ⟨0, by omega, by simp, rfl, Below.refl _ _⟩
    case round =>
      obtain ⟨m, hm, rfl, rfl, hB⟩ := hrel
      by_cases hlt : m < n
      · have c0 := hrow.cell (i := m * 2) (by omega)
        have c1 := hrow.cell (i := m * 2 + 1) (by omega)
        have hl := hrow.lt
        rw [← hB.cell (p := ⟨g, m * 2, none⟩) hl, hF _ (by omega)] at c0
        rw [← hB.cell (p := ⟨g, m * 2 + 1, none⟩) hl, hF _ (by omega)] at c1
        have hlw : g < wr.heap.size := Nat.lt_of_lt_of_le hl hB.size
        rw [show mkp k n f (m * 2) = .float .f32 (fofI .f32 ((k : Int) + 2 * (m : Int))) by unfold mkp; rw [if_pos (by omega)]; congr 2; omega] at c0
        rw [show mkp k n f (m * 2 + 1) = .float .f32 (fofI .f32 ((k : Int) + 2 * (m : Int) + 1)) by unfold mkp; rw [if_pos (by omega)]; congr 2; omega] at c1
        have q0 := fofI_self ((k : Int) + 2 * (m : Int))
        have q1 := fofI_self ((k : Int) + 2 * (m : Int) + 1)
        have HB := Lib.hid hB
        clear hrow hB hF
        go_wp2
        go_roundw
        case rel => exact ⟨m + 1, by omega, by go_num, by go_num, by have := HB.out; (with_reducible repeat (first | exact Below.refl _ _ | apply below_alloc | apply below_dN | apply below_d | refine below_setCell ?_ (by dsimp only; omega) | refine below_call (by assumption) ?_))⟩
        case measure => first | (simp [intOf]; done) | (simp [intOf]; omega)
      · obtain rfl : m = n := by omega
        have HB := Lib.hid hB
        clear hB hF hrow
        go_wp2
        go_ret
        exact ⟨⟨_, rfl, rfl⟩, HB.out⟩
end Go.Proofs.Ytnkimeeofmbhkaa
