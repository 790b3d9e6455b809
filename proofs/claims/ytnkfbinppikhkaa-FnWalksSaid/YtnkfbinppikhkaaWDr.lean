/- A drawn net: places of a source's numbers. No condition. -/
import Derived.Test.YtnkfbinppikhkaaWSr
import Derived.Deep.RegionLaw
namespace Go.Proofs.Ytnkfbinppikhkaa
open Go.RowKit Go.IntWalk
set_option linter.unusedSimpArgs false
-- left out here: info_plD
-- left out here: info_rdD
theorem two_newD (w : World) (b : Nat) (hb : b = w.heap.size) (x y : Value) (t : TypeId) : ∀ j u, [x, y][j]? = some u → (w.alloc (.cells #[x, y] t)).cell? ((⟨b, 0, none⟩ : Addr).add j) = some u := by
  subst hb
  intro j u hu
  match j, hu with
  | 0, hu => cases hu; simp [Addr.add]
  | 1, hu => cases hu; simp [Addr.add]
theorem three_newD (w : World) (b : Nat) (hb : b = w.heap.size) (x y z : Value) (t : TypeId) : ∀ j u, [x, y, z][j]? = some u → (w.alloc (.cells #[x, y, z] t)).cell? ((⟨b, 0, none⟩ : Addr).add j) = some u := by
  subst hb
  intro j u hu
  match j, hu with
  | 0, hu => cases hu; simp [Addr.add]
  | 1, hu => cases hu; simp [Addr.add]
  | 2, hu => cases hu; simp [Addr.add]
theorem World.ownsRow.keep1 {w w' : World} {lo g : Nat} {e : TypeId} {size : Nat} {v : Value} {n : Nat} {xs : List Value} (h : w.ownsRow lo e size v n xs) (hk : Keep1 g w w') (hg : g < lo) : w'.ownsRow lo e size v n xs := by
  refine ⟨h.1, h.2.imp id ?_⟩
  rintro ⟨q, cap, cur, rfl, h1, h2, h3⟩
  exact ⟨q, cap, cur, rfl, h1, (hk q (Array.getElem?_eq_some_iff.1 h2).1 (by omega)).trans h2, h3⟩
theorem Keep1.trans {g : Nat} {w1 w2 w3 : World} (h : Keep1 g w1 w2) (h' : Keep1 g w2 w3) (hs : w1.heap.size ≤ w2.heap.size) : Keep1 g w1 w3 := fun b hb hne => (h' b (by omega) hne).trans (h b hb hne)
theorem Keep1.of_below {g : Nat} {w1 w2 : World} (h : Below w1.heap.size w1 w2) : Keep1 g w1 w2 := fun b hb _ => h.block b hb
/-- A source of bytes that has given at most so many numbers. -/
def SG (g n c : Nat) (A : Option Addr) (B : Nat) (w : World) : Prop := (∃ (i : Nat) (sd : Int), i ≤ B ∧ tri 62 w g (.slice A n c) (.int .i64 (i : Int)) (.int .u64 sd)) ∧ ByArg w A n ∧ ∀ a, A = some a → 0 < n → a.block < g
theorem SG.lt {g n c : Nat} {A : Option Addr} {B : Nat} {w : World} (h : SG g n c A B w) : g < w.heap.size := by
  obtain ⟨⟨i, sd, h1, h2⟩, -⟩ := h
  exact h2.lt
theorem SG.keep {g n c : Nat} {A : Option Addr} {B : Nat} {w w' : World} (h : SG g n c A B w) (hk : ∀ b, b ≤ g → w'.heap[b]? = w.heap[b]?) (hs : w.heap.size ≤ w'.heap.size) : SG g n c A B w' := by
  obtain ⟨⟨i, sd, h1, h2⟩, h3, h4⟩ := h
  refine ⟨⟨i, sd, h1, h2.blk (hk g (Nat.le_refl _))⟩, fun j hj => ?_, h4⟩
  obtain ⟨a, k, e, h0, h1, h2⟩ := h3 j hj
  have hb := hk a.block (by have := h4 a e (by omega); omega)
  refine ⟨a, k, e, Nat.lt_of_lt_of_le h0 hs, ?_, h2⟩
  rw [← h1]
  exact World.cell?_of_block (by rw [block_add]; exact hb)
theorem SG.below {g n c : Nat} {A : Option Addr} {B : Nat} {w w' : World} (h : SG g n c A B w) (hb : Below w.heap.size w w') : SG g n c A B w' := h.keep (fun b hb' => hb.block b (by have := h.lt; omega)) hb.size
set_option maxRecDepth 100000 in
set_option maxHeartbeats 2000000 in
theorem pickS (g n c m B : Nat) (A : Option Addr) (w : World) (hm : 1 ≤ m) (hm2 : m ≤ 200) (hB : B ≤ 1048500) (hn : n ≤ 1048576) (h : SG g n c A B w) :
    Calls Try.prog 14 #[.pointer (some ⟨g, 0, none⟩), .int .i64 m] w (fun e w' => ∃ k : Nat, k < m ∧ e = .returned (.int .i64 (k : Int)) ∧ SG g n c A (B + 1) w' ∧ Keep1 g w w' ∧ Below g w w') := by
  obtain ⟨⟨i, sd, h1, h2⟩, h3, h4⟩ := h
  by_cases e : 2 ≤ m
  · refine (pick_c g n c i m A sd w e hm2 (by omega) (by omega) h3 h4 h2).mono ?_
    rintro e w' ⟨k, hk, rfl, ⟨sd', hT⟩, hK, hb⟩
    exact ⟨k, hk, rfl, ⟨⟨i + 1, sd', by omega, hT⟩, h3.below h4 hb, h4⟩, hK, hb⟩
  · obtain rfl : m = 1 := by omega
    have hS : SG g n c A (B + 1) w := ⟨⟨i, sd, by omega, h2⟩, h3, h4⟩
    have HS := Lib.hid hS
    clear h1 h2 h3 h4 hS
    go_enter Try.func14, Try.ntmps14
    go_wp2
    go_ret
    exact ⟨0, by omega, rfl, HS.out, fun _ _ _ => rfl, Below.refl _ _⟩
theorem below_loD {lo k : Nat} {w w' : World} (h : Below lo w w') : Below lo w (w'.drewN k) := ⟨h.os, h.tape, h.output, h.size, h.block⟩
end Go.Proofs.Ytnkfbinppikhkaa
