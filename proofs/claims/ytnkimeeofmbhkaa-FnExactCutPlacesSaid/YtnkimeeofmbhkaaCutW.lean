/- What the cutting of a list keeps from place to place. No condition. -/
import Derived.Test.YtnkimeeofmbhkaaCutC
import Derived.Test.YtnkimeeofmbhkaaCutR
import Derived.Test.YtnkimeeofmbhkaaCutT
import Derived.Test.YtnkimeeofmbhkaaOpenS
import Derived.Deep.RegionLaw
import Derived.Deep.DrawnRows
namespace Go.Proofs.Ytnkimeeofmbhkaa
open Go.RowKit
set_option linter.unusedSimpArgs false
/-- Places s .. s + l of a list, cell by cell. -/
def PX (zs : List Value) (X Y : Nat → Nat) (s l : Nat) : Prop := ∀ k, k < l → ∃ a b, zs[k * 2]? = some (.float .f32 a) ∧ zs[k * 2 + 1]? = some (.float .f32 b) ∧ cn .f32 a = X (s + k) ∧ cn .f32 b = Y (s + k)
theorem PX.snoc {zs : List Value} {X Y : Nat → Nat} {s l a b : Nat} (h : PX zs X Y s l) (hl : zs.length = l * 2) (ha : cn .f32 a = X (s + l)) (hb : cn .f32 b = Y (s + l)) : PX (zs ++ [.float .f32 a, .float .f32 b]) X Y s (l + 1) := fun k hk => by
  by_cases e : k = l
  · subst e
    exact ⟨a, b, by rw [List.getElem?_append_right (by omega), hl]; simp, by rw [List.getElem?_append_right (by omega), hl, show k * 2 + 1 - k * 2 = 1 by omega]; rfl, ha, hb⟩
  · obtain ⟨a', b', h1, h2, h3⟩ := h k (by omega)
    exact ⟨a', b', by rw [List.getElem?_append_left (by omega)]; exact h1, by rw [List.getElem?_append_left (by omega)]; exact h2, h3⟩
theorem PX.none {X Y : Nat → Nat} {s : Nat} : PX [] X Y s 0 := fun k hk => absurd hk (by omega)
namespace Cls
variable {T U : TypeId} {s lo K : Nat} {w w' : World} {v : Value} {vals : Nat → Value} {L L' : Nat → Nat} {xs : Nat → List Value}
theorem congr (h : Cls T U s w lo v K vals L xs) (hL : ∀ j, j < K → L j = L' j) : Cls T U s w lo v K vals L' xs := ⟨h.out, fun j hj => by rw [← hL j hj]; exact h.inn j hj, h.apart⟩
theorem form (h : Cls T U s w lo v K vals L xs) (hK : 0 < K) : ∃ O cap, v = .slice (some ⟨O, 0, none⟩) K cap ∧ lo ≤ O ∧ O < w.heap.size ∧ (∀ j, j < K → w.cell? ⟨O, j, none⟩ = some (vals j)) ∧ ∀ j, w.frozen? ⟨O, j, none⟩ = false := by
  rcases h.out.2 with ⟨rfl, e⟩ | ⟨g, cap, cur, rfl, h1, h2, h3, h4, h5, h6⟩
  · omega
  · refine ⟨g, cap, rfl, h1, (Array.getElem?_eq_some_iff.1 h2).1, fun j hj => ?_, fun j => ?_⟩
    · have hrow : w.rowIs g T (cap * 1) (fun i => (cur[i]?).getD undef) := ⟨cur, h2, by omega, fun i hi => by
        show cur[i]? = some ((cur[i]?).getD undef)
        rw [Array.getElem?_eq_getElem (by omega)]; rfl⟩
      rw [hrow.cell (i := j) (by omega)]
      have e : ((List.range K).map vals)[j]? = some (vals j) := by simp [hj]
      rw [← h6, List.getElem?_take, if_pos (by omega), Array.getElem?_toList] at e
      rw [e]; rfl
    · have hrow : w.rowIs g T (cap * 1) (fun i => (cur[i]?).getD undef) := ⟨cur, h2, by omega, fun i hi => by
        show cur[i]? = some ((cur[i]?).getD undef)
        rw [Array.getElem?_eq_getElem (by omega)]; rfl⟩
      exact hrow.frozen j
end Cls
/-- The pieces up to place i. -/
def CutSt (w : World) (lo : Nat) (v : Value) (ct : Nat → Bool) (X Y : Nat → Nat) (i : Nat) : Prop := ∃ vals xs, Cls 25 24 2 w lo v (pK ct i) vals (pL ct i) xs ∧ ∀ j, j < pK ct i → PX (xs j) X Y (pS ct i j) (pL ct i j)
theorem CutSt.start {w : World} {lo : Nat} {v : Value} {ct : Nat → Bool} {X Y : Nat → Nat} (h : w.ownsRow lo 25 1 v 0 []) : CutSt w lo v ct X Y 0 := ⟨fun _ => undef, fun _ => [], Cls.start h, fun j hj => absurd hj (by simp [pK])⟩
theorem CutSt.below {w w' : World} {lo : Nat} {v : Value} {ct : Nat → Bool} {X Y : Nat → Nat} {i : Nat} (h : CutSt w lo v ct X Y i) (hb : Below w.heap.size w w') : CutSt w' lo v ct X Y i := by
  obtain ⟨vals, xs, h1, h2⟩ := h
  exact ⟨vals, xs, h1.below hb, h2⟩
theorem two_newC (w : World) (b : Nat) (hb : b = w.heap.size) (x y : Value) (t : TypeId) : ∀ j u, [x, y][j]? = some u → (w.alloc (.cells #[x, y] t)).cell? ((⟨b, 0, none⟩ : Addr).add j) = some u := by
  subst hb
  intro j u hu
  match j, hu with
  | 0, hu => cases hu; simp [Addr.add]
  | 1, hu => cases hu; simp [Addr.add]
theorem info_plC : (Try.prog.info? 24).map (fun i => (i.zero, i.size, i.bytes)) = some (some (.agg #[.float .f32 0, .float .f32 0]), 2, 8) := by kernel_rfl
theorem info_slC : (Try.prog.info? 25).map (fun i => (i.zero, i.size, i.bytes)) = some (some (.slice none 0 0), 1, 24) := by kernel_rfl
/-- The last piece, grown by a place: no new piece. -/
theorem CutSt.old {w w1 : World} {lo O cap Kn n i a b : Nat} {B : Obj} {ct : Nat → Bool} {X Y : Nat → Nat} {vals : Nat → Value} {xs : Nat → List Value} {g6 c6 : Nat}
    (h : Cls 25 24 2 w lo (.slice (some ⟨O, 0, none⟩) (Kn + 1) cap) (Kn + 1) vals (pL ct i) xs) (hK : pK ct i = Kn + 1) (hx : ∀ j, j < pK ct i → PX (xs j) X Y (pS ct i j) (pL ct i j)) (hct : ct i = false) (h0 : ct 0 = true) (hi : 0 < i)
    (hn : pL ct i Kn = n) (ha : cn .f32 a = X i) (hb : cn .f32 b = Y i) (hg : (w.alloc B).grownBy w1 (vals Kn).ownBlock) (hu : w1.ownsRow lo 24 2 (.slice (some ⟨g6, 0, none⟩) (n + 1) c6) (n + 1) (xs Kn ++ [.float .f32 a, .float .f32 b])) (hat : (vals Kn).ownBlock = some g6 ∨ g6 = w.heap.size + 1) (hlo : lo ≤ w.heap.size) :
    CutSt (w1.setCell ⟨O, Kn, none⟩ (.slice (some ⟨g6, 0, none⟩) (n + 1) c6)) lo (.slice (some ⟨O, 0, none⟩) (Kn + 1) cap) ct X Y (i + 1) := by
  have h' := h.below ((Below.refl w.heap.size w).alloc (Nat.le_refl _) B)
  have hG := h'.grow (by decide) hg hu (fun b hb => by
    simp only [Value.ownBlock, Option.some.injEq] at hb
    subst hb
    rcases hat with e | e
    · exact .inl e
    · exact .inr (by rw [e]; simp))
  have hl := p_last h0 i hi
  rw [hK, Nat.add_sub_cancel, hn] at hl
  have hxl : (xs Kn).length = n * 2 := by rw [(h.inn Kn (by omega)).1, hn]
  have hG2 := hG.congr (L' := pL ct (i + 1)) (fun j hj => by
    show (if j = Kn then n + 1 else pL ct i j) = _
    rw [pL_f hct, hK]
    by_cases e : j = Kn
    · subst e; rw [if_pos rfl, if_pos rfl, hn]
    · rw [if_neg e, if_neg (by omega)])
  refine ⟨_, _, by rw [pK_f hct, hK]; exact hG2, fun j hj => ?_⟩
  · rw [pK_f hct, hK] at hj
    rw [pS_f hct, pL_f hct, hK]
    by_cases e : j = Kn
    · subst e
      simp only [if_true]
      have hp := hx j (by omega)
      rw [hn] at hp ⊢
      exact hp.snoc hxl (by rw [hl]; exact ha) (by rw [hl]; exact hb)
    · simp only [if_neg e]
      rw [if_neg (by omega)]
      exact hx j (by omega)
/-- A new piece of one place. -/
theorem CutSt.fresh {w w1 : World} {lo O cap K i a b : Nat} {B : Obj} {ct : Nat → Bool} {X Y : Nat → Nat} {vals : Nat → Value} {xs : Nat → List Value} {u : Value} {g6 c6 : Nat}
    (h : Cls 25 24 2 w lo (.slice (some ⟨O, 0, none⟩) (K + 1) cap) (K + 1) (fun j => if j = K then u else vals j) (fun j => if j = K then 0 else pL ct i j) (fun j => if j = K then [] else xs j)) (hK : pK ct i = K) (hx : ∀ j, j < pK ct i → PX (xs j) X Y (pS ct i j) (pL ct i j)) (hct : ct i = true)
    (ha : cn .f32 a = X i) (hb : cn .f32 b = Y i) (hg : (w.alloc B).grownBy w1 u.ownBlock) (hu : w1.ownsRow lo 24 2 (.slice (some ⟨g6, 0, none⟩) 1 c6) 1 [.float .f32 a, .float .f32 b]) (hat : u.ownBlock = some g6 ∨ g6 = w.heap.size + 1) (hlo : lo ≤ w.heap.size) :
    CutSt (w1.setCell ⟨O, K, none⟩ (.slice (some ⟨g6, 0, none⟩) 1 c6)) lo (.slice (some ⟨O, 0, none⟩) (K + 1) cap) ct X Y (i + 1) := by
  have h' := h.below ((Below.refl w.heap.size w).alloc (Nat.le_refl _) B)
  have hG := h'.grow (by decide) (by simpa using hg) hu (fun b hb => by
    simp only [Value.ownBlock, Option.some.injEq] at hb
    subst hb
    rcases hat with e | e
    · exact .inl (by simpa using e)
    · exact .inr (by rw [e]; simp))
  have hG2 := hG.congr (L' := pL ct (i + 1)) (fun j hj => by
    show (if j = K then 1 else if j = K then 0 else pL ct i j) = _
    rw [pL_t hct, hK]
    by_cases e : j = K
    · rw [if_pos e, if_pos e]
    · rw [if_neg e, if_neg e, if_neg e])
  refine ⟨_, _, by rw [pK_t hct, hK]; exact hG2, fun j hj => ?_⟩
  · rw [pK_t hct, hK] at hj
    rw [pS_t hct, pL_t hct, hK]
    by_cases e : j = K
    · simp only [if_pos e]
      exact PX.none.snoc rfl (by simpa using ha) (by simpa using hb)
    · simp only [if_neg e]
      exact hx j (by omega)
/-- What the last step of a round reads. -/
def S12 (O K Q o : Nat) (u : Value) (x y : Nat) (w : World) : Prop := w.cell? ⟨O, K, none⟩ = some u ∧ w.cell? ⟨Q, o, none⟩ = some (.float .f32 x) ∧ w.cell? ⟨Q, o + 1, none⟩ = some (.float .f32 y) ∧ w.frozen? ⟨O, K, none⟩ = false ∧ O < w.heap.size ∧ Q < w.heap.size
theorem S12.alloc {O K Q o : Nat} {u : Value} {x y : Nat} {w : World} (h : S12 O K Q o u x y w) (B : Obj) : S12 O K Q o u x y (w.alloc B) := by
  obtain ⟨h1, h2, h3, h4, h5, h6⟩ := h
  have hb : Below w.heap.size w (w.alloc B) := (Below.refl _ _).alloc (Nat.le_refl _) _
  exact ⟨(hb.cell (p := ⟨O, K, none⟩) h5).trans h1, (hb.cell (p := ⟨Q, o, none⟩) h6).trans h2, (hb.cell (p := ⟨Q, o + 1, none⟩) h6).trans h3, ((bcell hb).2 O K h5).trans h4, Nat.lt_of_lt_of_le h5 hb.size, Nat.lt_of_lt_of_le h6 hb.size⟩
theorem S12.drew {O K Q o : Nat} {u : Value} {x y : Nat} {w : World} (h : S12 O K Q o u x y w) : S12 O K Q o u x y w.drew := h
theorem grown_drew {w w' : World} {r : Option Nat} (h : w.drew.grownBy w' r) : w.grownBy w' r := ⟨h.os, h.tape, h.output, h.size, h.block⟩
theorem S12.grown {O K Q o : Nat} {u : Value} {x y : Nat} {w w' : World} (h : S12 O K Q o u x y w) (hg : w.grownBy w' u.ownBlock) (hO : u.ownBlock ≠ some O) (hQ : u.ownBlock ≠ some Q) : S12 O K Q o u x y w' := by
  obtain ⟨h1, h2, h3, h4, h5, h6⟩ := h
  exact ⟨(hg.cell_far ⟨O, K, none⟩ h5 (fun e => hO e.symm)).trans h1, (hg.cell_far ⟨Q, o, none⟩ h6 (fun e => hQ e.symm)).trans h2, (hg.cell_far ⟨Q, o + 1, none⟩ h6 (fun e => hQ e.symm)).trans h3, (hg.frozen_far ⟨O, K, none⟩ h5 (fun e => hO e.symm)).trans h4, Nat.lt_of_lt_of_le h5 hg.size, Nat.lt_of_lt_of_le h6 hg.size⟩
/-- .. of the place. -/
def S2 (Q o x y : Nat) (w : World) : Prop := w.cell? ⟨Q, o, none⟩ = some (.float .f32 x) ∧ w.cell? ⟨Q, o + 1, none⟩ = some (.float .f32 y) ∧ Q < w.heap.size
theorem S12.two {O K Q o : Nat} {u : Value} {x y : Nat} {w : World} (h : S12 O K Q o u x y w) : S2 Q o x y w := ⟨h.2.1, h.2.2.1, h.2.2.2.2.2⟩
theorem S2.drew {Q o x y : Nat} {w : World} (h : S2 Q o x y w) : S2 Q o x y w.drew := h
theorem S2.set {Q o x y O K : Nat} {w : World} (h : S2 Q o x y w) (hne : O ≠ Q) (z : Value) : S2 Q o x y (w.setCell ⟨O, K, none⟩ z) := by
  obtain ⟨h1, h2, h3⟩ := h
  have hb : (w.setCell ⟨O, K, none⟩ z).heap[Q]? = w.heap[Q]? := Below.heap_setCell _ _ _ _ (fun e => hne e.symm)
  exact ⟨(World.cell?_of_block (a := ⟨Q, o, none⟩) hb).trans h1, (World.cell?_of_block (a := ⟨Q, o + 1, none⟩) hb).trans h2, by simpa [World.setCell] using h3⟩
theorem CutSt.lt {w : World} {lo : Nat} {v : Value} {ct : Nat → Bool} {X Y : Nat → Nat} {i : Nat} (h : CutSt w lo v ct X Y i) {b : Nat} (hb : v.ownBlock = some b) : b < w.heap.size := by
  obtain ⟨vals, xs, h1, h2⟩ := h
  exact (h1.out.lt b hb).2
/-- Whether a list is cut at all. -/
def cutOk (n : Nat) (X Y : Nat → Nat) (B : Nat) : Bool := arePl n X Y && (fge .f32 B 3204448256 && fle .f32 B 1056964608)
/-- What both spellings return. -/
def CutR (ok : Bool) (n : Nat) (X Y : Nat → Nat) (B : Nat) (w : World) (e : Ending) (w' : World) : Prop := ∃ v, e = .returned (.tuple #[v, .bool ok]) ∧ (if ok then CutSt w' w.heap.size v (cutAt B Y) X Y n else v = .slice none 0 0) ∧ Below w.heap.size w w'
theorem allP_get {X Y : Nat → Nat} {n j : Nat} (h : allP X Y n = true) (hj : j < n) : vplace (X j) (Y j) = true := by
  simp only [allP, List.all_eq_true, List.mem_range] at h
  exact h j hj
theorem arePl_get {X Y : Nat → Nat} {n : Nat} (h : arePl n X Y = true) : allP X Y n = true ∧ 1 ≤ n ∧ n ≤ 64 := by
  unfold arePl at h
  simp only [Bool.and_eq_true, decide_eq_true_eq] at h
  exact h
end Go.Proofs.Ytnkimeeofmbhkaa
