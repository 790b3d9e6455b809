/- Contracts of marking a net. No condition. -/
import Derived.Test.YtpmeccjfjjklkaaI64
import Derived.Test.YtpmeccjfjjklkaaRtJ
namespace Go.Proofs.Ytpmeccjfjjklkaa
open Go.RowKit
set_option linter.unusedSimpArgs false
def fofI (k : FloatKind) (n : Int) : Nat := k.nearest n
@[go_sem] theorem run_int_float {P : Program} (src dst : TypeId) (q : IntKind) (k : FloatKind) (n : Int) (w : World) (hs : (P.underlying src).isSome = true) (hd : P.underlying dst = some (.float k)) :
    (convert src dst (.int q n)).run P w = .ok (.float k (fofI k n)) w := by
  obtain ⟨s, hs'⟩ := Option.isSome_iff_exists.1 hs
  cases s <;> simp [convert, run_underlying hs', run_underlying hd, Conv.intToFloat, fofI]
@[go_sem, simp] theorem cn_fofI (k : FloatKind) (n : Int) : cn k (fofI k n) = fofI k n := cn_of (write_ok k (d := .number (n < 0) n.natAbs 0) rfl)

def Keep1 (g : Nat) (w w' : World) : Prop := ∀ b, b < w.heap.size → b ≠ g → w'.heap[b]? = w.heap[b]?
theorem Keep1.refl (g : Nat) (w : World) : Keep1 g w w := fun _ _ _ => rfl
theorem Keep1.set {g i : Nat} {w w' : World} (h : Keep1 g w w') (z : Value) : Keep1 g w (w'.setCell ⟨g, i, none⟩ z) := fun b hb hne => (Below.heap_setCell _ _ _ _ hne).trans (h b hb hne)
set_option maxRecDepth 100000 in
set_option maxHeartbeats 1000000 in
theorem markPl_c (lo g n k : Nat) (F : Nat → Value) (w : World) (hlo : lo ≤ g) (hn : n ≤ 1048576) (hk : k ≤ 8388608) (hrow : w.rowIs g 75 (n * 2) F) :
    Calls Try.prog 23 #[.slice (some ⟨g, 0, none⟩) n n, .int .i64 k] w fun e w' => e = .returned (.int .i64 ((k : Int) + 2 * (n : Int))) ∧ Below lo w w' ∧ Keep1 g w w' := by
  go_enter Try.func23, Try.ntmps23
  go_wp2
  go_loopw [1, 5] (fun kk i wr => ∃ m : Nat, ∃ f, m ≤ n ∧ kk = .int .i64 ((k : Int) + 2 * (m : Int)) ∧ i = .int .i64 m ∧ wr.rowIs g 75 (n * 2) f ∧ Below lo w wr ∧ Keep1 g w wr) (fun _ i _ => n - (intOf i).toNat)
  case atStart => exact ⟨0, F, by omega, by simp, rfl, hrow, Below.refl _ _, Keep1.refl _ _⟩
  case round =>
    obtain ⟨m, f, hm, rfl, rfl, hr, hB, hK⟩ := hrel
    by_cases hlt : m < n
    · have HB := Lib.hid hB
      have HK := Lib.hid hK
      have hl := hr.lt
      have c0 := hr.cell (i := m * 2) (by omega)
      have c1 := hr.cell (i := m * 2 + 1) (by omega)
      have f0 := hr.frozen (m * 2)
      have f1 := hr.frozen (m * 2 + 1)
      have HR := Lib.hid hr
      clear hr hB hK
      go_wp2
      go_roundw
      case rel => exact ⟨m + 1, _, by omega, by go_num, by go_num, (HR.out.set (m * 2) _).set (m * 2 + 1) _, (HB.out.setCell (p := ⟨g, m * 2, none⟩) hlo _).setCell (p := ⟨g, m * 2 + 1, none⟩) hlo _, (HK.out.set _).set _⟩
      case measure => first | (simp [intOf]; done) | (simp [intOf]; omega)
    · obtain rfl : m = n := by omega
      have HB := Lib.hid hB
      have HK := Lib.hid hK
      clear hr hB hK
      go_wp2
      go_ret
      exact ⟨rfl, HB.out, HK.out⟩
set_option maxRecDepth 100000 in
set_option maxHeartbeats 1000000 in
theorem markRd_c (lo g n k N : Nat) (F : Nat → Value) (w : World) (hlo : lo ≤ g) (hn : n ≤ 1048576) (hk : k ≤ 8388608) (hN : n * 3 ≤ N) (hrow : w.rowIs g 69 N F) :
    Calls Try.prog 24 #[.slice (some ⟨g, 0, none⟩) n n, .int .i64 k] w fun e w' => e = .returned (.int .i64 ((k : Int) + 3 * (n : Int))) ∧ Below lo w w' ∧ Keep1 g w w' := by
  go_enter Try.func24, Try.ntmps24
  go_wp2
  go_loopw [1, 5] (fun kk i wr => ∃ m : Nat, ∃ f, m ≤ n ∧ kk = .int .i64 ((k : Int) + 3 * (m : Int)) ∧ i = .int .i64 m ∧ wr.rowIs g 69 N f ∧ Below lo w wr ∧ Keep1 g w wr) (fun _ i _ => n - (intOf i).toNat)
  case atStart => exact ⟨0, F, by omega, by simp, rfl, hrow, Below.refl _ _, Keep1.refl _ _⟩
  case round =>
    obtain ⟨m, f, hm, rfl, rfl, hr, hB, hK⟩ := hrel
    by_cases hlt : m < n
    · have HB := Lib.hid hB
      have HK := Lib.hid hK
      have hl := hr.lt
      have c0 := hr.cell (i := m * 3) (by omega)
      have c1 := hr.cell (i := m * 3 + 1) (by omega)
      have c2 := hr.cell (i := m * 3 + 2) (by omega)
      have f0 := hr.frozen (m * 3)
      have f1 := hr.frozen (m * 3 + 1)
      have f2 := hr.frozen (m * 3 + 2)
      have HR := Lib.hid hr
      clear hr hB hK
      go_wp2
      go_roundw
      case rel => exact ⟨m + 1, _, by omega, by go_num, by go_num, ((HR.out.set (m * 3) _).set (m * 3 + 1) _).set (m * 3 + 2) _, ((HB.out.setCell (p := ⟨g, m * 3, none⟩) hlo _).setCell (p := ⟨g, m * 3 + 1, none⟩) hlo _).setCell (p := ⟨g, m * 3 + 2, none⟩) hlo _, ((HK.out.set _).set _).set _⟩
      case measure => first | (simp [intOf]; done) | (simp [intOf]; omega)
    · obtain rfl : m = n := by omega
      have HB := Lib.hid hB
      have HK := Lib.hid hK
      clear hr hB hK
      go_wp2
      go_ret
      exact ⟨rfl, HB.out, HK.out⟩
def Keep2 (g h : Nat) (w w' : World) : Prop := ∀ b, b < w.heap.size → b ≠ g → b ≠ h → w'.heap[b]? = w.heap[b]?
set_option maxRecDepth 100000 in
set_option maxHeartbeats 1000000 in
theorem markNet_c (lo g h n m k : Nat) (x y : Nat → Nat) (a b l : Nat → Int) (w : World) (hlo : lo ≤ w.heap.size) (hg : lo ≤ g) (hh : lo ≤ h) (hgh : g ≠ h) (hn : n ≤ 1048576) (hm : m ≤ 1048576) (hk : k ≤ 1048576) (hP : PlBlk w g n x y) (hR : RdBlk w h m a b l) :
    Calls Try.prog 25 #[.agg #[.slice (some ⟨g, 0, none⟩) n n, .slice (some ⟨h, 0, none⟩) m m], .int .i64 k] w fun e w' => e = .returned (.int .i64 ((k : Int) + 2 * (n : Int) + 3 * (m : Int))) ∧ Below lo w w' ∧ Keep2 g h w w' := by
  have hgl : g < w.heap.size := World.rowIs.lt hP
  have hhl := hR.lt
  have HP := Lib.hid (fun (w' : World) (hb : w'.heap[g]? = w.heap[g]?) => markPl_c lo g n k _ w' hg hn (by omega) (World.rowIs.of_block hP hb))
  obtain ⟨N, F, hN1, -, hN2⟩ := hR
  have hRr : ∀ w' : World, w'.heap[h]? = w.heap[h]? → Calls Try.prog 24 #[.slice (some ⟨h, 0, none⟩) m m, .int .i64 ((k : Int) + 2 * (n : Int))] w' fun e w'' => e = .returned (.int .i64 ((k : Int) + 2 * (n : Int) + 3 * (m : Int))) ∧ Below lo w' w'' ∧ Keep1 h w' w'' := fun w' hb => by
    have := markRd_c lo h m (k + 2 * n) N _ w' hh hm (by omega) hN1 (World.rowIs.of_block hN2 hb)
    rw [show ((k + 2 * n : Nat) : Int) = (k : Int) + 2 * (n : Int) by omega] at this
    exact this
  have HR := Lib.hid hRr
  have hal : ∀ (b : Nat) (o : Obj), b < w.heap.size → (w.alloc o).heap[b]? = w.heap[b]? := fun b o hb => by simp only [World.alloc]; rw [Array.getElem?_push_lt hb, Array.getElem?_eq_getElem hb]
  have HAL := Lib.hid hal
  clear hP hRr hal hN2
  go_enter Try.func25, Try.ntmps25
  go_upto_region 2 with (go_at_call 23; (with_reducible refine (HP.out _ (HAL.out _ _ hgl)).mono ?_); rintro e w1 ⟨rfl, hb1, hk1⟩)
  have hA : Below w.heap.size w (w.alloc (.cells #[.slice (some ⟨g, 0, none⟩) n n, .slice (some ⟨h, 0, none⟩) m m] 31)) := by (with_reducible repeat (first | exact Below.refl _ _ | apply below_alloc | apply below_dN | apply below_d | refine below_setCell ?_ (by dsimp only; omega) | refine below_call (by assumption) ?_))
  have hAs : (w.alloc (.cells #[.slice (some ⟨g, 0, none⟩) n n, .slice (some ⟨h, 0, none⟩) m m] 31)).heap.size = w.heap.size + 1 := by simp
  have hN := ntc.newAt (w := w) (p := w.heap.size) (u := .slice (some ⟨g, 0, none⟩) n n) (v := .slice (some ⟨h, 0, none⟩) m m) rfl
  have hN1 : ntc w1 w.heap.size (.slice (some ⟨g, 0, none⟩) n n) (.slice (some ⟨h, 0, none⟩) m m) := World.rowIs.of_block hN (hk1 _ (by rw [hAs]; omega) (by omega))
  have n1 := hN1.c1
  have n0 := hN1.c0
  have hs1 := hb1.size
  have hK1 := hk1 h (by rw [hAs]; omega) (Ne.symm hgh)
  rw [HAL.out _ _ hhl] at hK1
  go_wp2_with (go_at_call 24; (with_reducible refine (HR.out _ hK1).mono ?_); rintro e w2 ⟨rfl, hb2, hk2⟩)
  go_ret
  refine ⟨rfl, ((hA.mono hlo).trans hb1).trans hb2, fun b hb h1 h2 => ?_⟩
  rw [hk2 b (by omega) h2, hk1 b (by rw [hAs]; omega) h1, HAL.out _ _ hb]
end Go.Proofs.Ytpmeccjfjjklkaa
