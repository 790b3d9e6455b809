/- Contract of spec.l07Longs. No condition. -/
import Derived.Test.YtpmeccjfjjklkaaNet
import Derived.Test.YtpmeccjfjjklkaaRtD
import Derived.Deep.RegionHeld3
import Derived.Deep.CutBlock
import Derived.Deep.DeepCutAuto
namespace Go.Proofs.Ytpmeccjfjjklkaa
open Go.RowKit
set_option linter.unusedSimpArgs false

theorem own_below {w w' : World} {B : Nat} {e : TypeId} {size : Nat} {v : Value} {n : Nat} {xs : List Value} (h : w.ownsRow B e size v n xs) (hb : Below w.heap.size w w') : w'.ownsRow B e size v n xs := by
  refine ⟨h.1, h.2.imp id ?_⟩
  rintro ⟨g, cap, cur, rfl, h1, h2, h3⟩
  exact ⟨g, cap, cur, rfl, h1, (hb.block g (Array.getElem?_eq_some_iff.1 h2).1).trans h2, h3⟩
/-- A row of whole numbers. -/
def Dr (w : World) (g n cap : Nat) (d : Nat → Int) : Prop := ∃ F : Nat → Value, w.rowIs g 2 cap F ∧ n ≤ cap ∧ ∀ j, j < n → F j = .int .i64 (d j)
namespace Dr
variable {w : World} {g n cap : Nat} {d : Nat → Int}
theorem cell (h : Dr w g n cap d) {j : Nat} (hj : j < n) : w.cell? ⟨g, j, none⟩ = some (.int .i64 (d j)) := by
  obtain ⟨F, h1, h2, h3⟩ := h
  rw [← h3 j hj]
  exact h1.cell (by omega)
theorem fr (h : Dr w g n cap d) (j : Nat) : w.frozen? ⟨g, j, none⟩ = false := by
  obtain ⟨F, h1, -⟩ := h
  exact h1.frozen j
theorem lt (h : Dr w g n cap d) : g < w.heap.size := by
  obtain ⟨F, h1, -⟩ := h
  exact h1.lt
theorem le (h : Dr w g n cap d) : n ≤ cap := by obtain ⟨F, -, h2, -⟩ := h; exact h2
theorem below {w' : World} (h : Dr w g n cap d) (hb : Below w.heap.size w w') : Dr w' g n cap d := by
  obtain ⟨F, h1, h2⟩ := h
  exact ⟨F, h1.of_block (hb.block g h1.lt), h2⟩
theorem set (h : Dr w g n cap d) (b : Nat) (v : Int) : Dr (w.setCell ⟨g, b, none⟩ (.int .i64 v)) g n cap (fun j => if j = b then v else d j) := by
  obtain ⟨F, h1, h2, h3⟩ := h
  refine ⟨_, h1.set b _, h2, fun j hj => ?_⟩
  by_cases e : j = b
  · simp only [if_pos e]
  · simp only [if_neg e]; exact h3 j hj
theorem congr {d' : Nat → Int} (h : Dr w g n cap d) (hd : ∀ j, j < n → d j = d' j) : Dr w g n cap d' := by
  obtain ⟨F, h1, h2, h3⟩ := h
  exact ⟨F, h1, h2, fun j hj => by rw [h3 j hj, hd j hj]⟩
theorem drew (h : Dr w g n cap d) : Dr w.drew g n cap d := h
end Dr
theorem own_dr {w : World} {B n : Nat} {v : Value} {xs : List Value} {d : Nat → Int} (h : w.ownsRow B 2 1 v n xs) (hn : 0 < n) (hx : ∀ j, j < n → xs[j]? = some (.int .i64 (d j))) : ∃ g cap, v = .slice (some ⟨g, 0, none⟩) n cap ∧ B ≤ g ∧ Dr w g n cap d := by
  rcases h.2 with ⟨rfl, e⟩ | ⟨g, cap, cur, rfl, h1, h2, h3, h4, h5, h6⟩
  · omega
  · refine ⟨g, cap, rfl, h1, fun i => (cur[i]?).getD undef, ⟨cur, h2, by omega, fun i hi => ?_⟩, h3, fun i hi => ?_⟩
    · show cur[i]? = some ((cur[i]?).getD undef)
      rw [Array.getElem?_eq_getElem (by omega)]; rfl
    · have e := hx i hi
      rw [← h6, List.getElem?_take, if_pos (by omega), Array.getElem?_toList] at e
      show (cur[i]?).getD undef = _
      rw [e]; rfl
theorem info_i64 : (Try.prog.info? 2).map (fun i => (i.zero, i.size, i.bytes)) = some (some (.int .i64 0), 1, 8) := by kernel_rfl
/-- Roads that may be walked: their ends are places. -/
def eN (a : Nat → Int) (j : Nat) : Nat := (a j).toNat
theorem netOk_facts {n m : Nat} {X Y : Nat → Nat} {a b l : Nat → Int} (h : netOk n m X Y a b l = true) : (1 ≤ n ∧ n ≤ 64) ∧ m ≤ 64 ∧ RdsOk n m (eN a) (eN b) l ∧ ∀ j, j < m → a j = (eN a j : Int) ∧ b j = (eN b j : Int) := by
  simp only [netOk, arePl, Bool.and_eq_true, decide_eq_true_eq] at h
  obtain ⟨⟨-, hn⟩, hm, hr⟩ := h
  have each : ∀ j, j < m → (0 ≤ a j ∧ a j ≤ (n : Int) - 1) ∧ (0 ≤ b j ∧ b j ≤ (n : Int) - 1) ∧ a j ≠ b j ∧ 1 ≤ l j ∧ l j ≤ 1000000 := fun j hj => by
    have := allB_of hr j hj
    simp only [rdOk, Bool.and_eq_true, decide_eq_true_eq, Bool.not_eq_true', beq_eq_false_iff_ne] at this
    exact this
  refine ⟨hn, hm, fun j hj => ?_, fun j hj => ?_⟩
  · obtain ⟨⟨a1, a2⟩, ⟨b1, b2⟩, hab, l1, l2⟩ := each j hj
    unfold eN
    omega
  · obtain ⟨⟨a1, a2⟩, ⟨b1, b2⟩, hab, l1, l2⟩ := each j hj
    unfold eN
    omega
/-- The row's measure. -/
def muw (g n : Nat) (w : World) : Nat := sumN (fun j => pot (intOf ((w.cell? ⟨g, j, none⟩).getD undef))) n
theorem muw_eq {w : World} {g n cap : Nat} {d : Nat → Int} (h : Dr w g n cap d) : muw g n w = mu n d := sumN_congr fun j hj => by rw [h.cell hj]; rfl
def bnat (v : Value) : Nat := match v with
  | .bool true => 1
  | _ => 0
theorem keepSt {w : World} {h q k A B : Nat} {x y z v : Value} (hne : h ≠ q) (hAB : A ≠ B) (hS : w.cell? ⟨h, k * 3, none⟩ = some x ∧ w.cell? ⟨h, k * 3 + 1, none⟩ = some y ∧ w.cell? ⟨q, A, none⟩ = some z) : (w.setCell ⟨q, B, none⟩ v).cell? ⟨h, k * 3, none⟩ = some x ∧ (w.setCell ⟨q, B, none⟩ v).cell? ⟨h, k * 3 + 1, none⟩ = some y ∧ (w.setCell ⟨q, B, none⟩ v).cell? ⟨q, A, none⟩ = some z := by
  have n1 : (⟨q, B, none⟩ : Addr) ≠ ⟨h, k * 3, none⟩ := by intro e; injection e with e1; exact hne e1.symm
  have n2 : (⟨q, B, none⟩ : Addr) ≠ ⟨h, k * 3 + 1, none⟩ := by intro e; injection e with e1; exact hne e1.symm
  have n3 : (⟨q, B, none⟩ : Addr) ≠ ⟨q, A, none⟩ := by intro e; injection e with e1 e2; exact hAB e2.symm
  exact ⟨(World.cell?_setCell_other _ _ _ _ n1).trans hS.1, (World.cell?_setCell_other _ _ _ _ n2).trans hS.2.1, (World.cell?_setCell_other _ _ _ _ n3).trans hS.2.2⟩
end Go.Proofs.Ytpmeccjfjjklkaa
