/- Slices in a slice, each in a block of its own: one more, and one grown. No condition. -/
import Derived.Test.YtnkimeeofmbhkaaRel
import Derived.Deep.AppendLies
namespace Go.Proofs.Ytnkimeeofmbhkaa
open Go.RowKit
/-- An outer slice of K inner ones, whose contents are given; all their blocks are apart. -/
structure Cls (T U : TypeId) (s : Nat) (w : World) (lo : Nat) (v : Value) (K : Nat) (vals : Nat → Value) (L : Nat → Nat) (xs : Nat → List Value) : Prop where
  out : w.ownsRow lo T 1 v K ((List.range K).map vals)
  inn : ∀ j, j < K → w.ownsRow lo U s (vals j) (L j) (xs j)
  apart : ∀ i j, i < K → j < K → i ≠ j → ∀ b, (vals i).ownBlock = some b → (vals j).ownBlock ≠ some b
theorem own_lt {w : World} {lo : Nat} {e : TypeId} {s n : Nat} {v : Value} {xs : List Value} (h : w.ownsRow lo e s v n xs) {b : Nat} (hb : v.ownBlock = some b) : lo ≤ b ∧ b < w.heap.size := h.lt b hb
/-- Blocks of two types are two blocks. -/
theorem own_two {w : World} {lo lo' : Nat} {e e' : TypeId} {s s' n n' : Nat} {v v' : Value} {xs xs' : List Value} (h : w.ownsRow lo e s v n xs) (h' : w.ownsRow lo' e' s' v' n' xs') (he : e ≠ e') {b : Nat} (hb : v.ownBlock = some b) : v'.ownBlock ≠ some b := by
  rcases h.2 with ⟨rfl, -⟩ | ⟨g, cap, cur, rfl, h1, h2, -⟩
  · simp [Value.ownBlock] at hb
  · rcases h'.2 with ⟨rfl, -⟩ | ⟨g', cap', cur', rfl, h1', h2', -⟩
    · simp [Value.ownBlock]
    · intro hb'
      simp only [Value.ownBlock, Option.some.injEq] at hb hb'
      subst hb
      rw [hb', h2] at h2'
      injection h2' with h2'
      injection h2' with _ e2
      exact he e2
theorem own_keep {w w' : World} {lo : Nat} {e : TypeId} {s n : Nat} {v : Value} {xs : List Value} (h : w.ownsRow lo e s v n xs) (hk : ∀ b, v.ownBlock = some b → w'.heap[b]? = w.heap[b]?) : w'.ownsRow lo e s v n xs := by
  refine ⟨h.1, h.2.imp id ?_⟩
  rintro ⟨g, cap, cur, rfl, h1, h2, h3⟩
  exact ⟨g, cap, cur, rfl, h1, (hk g rfl).trans h2, h3⟩
/-- A place of a slice, laid anew. -/
theorem own_set {w : World} {lo : Nat} {e : TypeId} {O n cap : Nat} {xs : List Value} (h : w.ownsRow lo e 1 (.slice (some ⟨O, 0, none⟩) n cap) n xs) (i : Nat) (hi : i < n) (z : Value) : (w.setCell ⟨O, i, none⟩ z).ownsRow lo e 1 (.slice (some ⟨O, 0, none⟩) n cap) n (xs.set i z) := by
  refine ⟨by rw [List.length_set]; exact h.1, ?_⟩
  rcases h.2 with ⟨h0, -⟩ | ⟨g, cap', cur, h0, h1, h2, h3, h4, h5, h6⟩
  · cases h0
  · injection h0 with e1 e2 e3
    injection e1 with e1
    injection e1 with e1
    subst e1 e3
    refine .inr ⟨O, cap, cur.setIfInBounds i z, rfl, h1, ?_, h3, h4, by simpa using h5, ?_⟩
    · show (w.heap.modify O _)[O]? = _
      rw [Array.getElem?_modify, if_pos rfl, h2]
      simp
    · rw [Array.toList_setIfInBounds, List.take_set, h6]
namespace Cls
variable {T U : TypeId} {s lo K : Nat} {w w' : World} {v : Value} {vals : Nat → Value} {L : Nat → Nat} {xs : Nat → List Value}
theorem start (h : w.ownsRow lo T 1 v 0 []) : Cls T U s w lo v 0 vals L xs := ⟨h, fun j hj => absurd hj (by omega), fun i j hi => absurd hi (by omega)⟩
theorem keep (h : Cls T U s w lo v K vals L xs) (hk : ∀ b, b < w.heap.size → lo ≤ b → w'.heap[b]? = w.heap[b]?) : Cls T U s w' lo v K vals L xs :=
  ⟨own_keep h.out fun b hb => hk b (h.out.lt b hb).2 (h.out.lt b hb).1, fun j hj => own_keep (h.inn j hj) fun b hb => hk b ((h.inn j hj).lt b hb).2 ((h.inn j hj).lt b hb).1, h.apart⟩
theorem below (h : Cls T U s w lo v K vals L xs) (hb : Below w.heap.size w w') : Cls T U s w' lo v K vals L xs := h.keep fun b hb' _ => hb.block b hb'
/-- One more inner slice. -/
theorem push {w1 : World} {v' u : Value} {Lu : Nat} {xu : List Value} (hTU : T ≠ U) (h : Cls T U s w lo v K vals L xs) (hg : w.grownBy w1 v.ownBlock) (ho : w1.ownsRow lo T 1 v' (K + 1) ((List.range K).map vals ++ [u])) (hu : w.ownsRow lo U s u Lu xu) (hap : ∀ j, j < K → ∀ b, (vals j).ownBlock = some b → u.ownBlock ≠ some b) :
    Cls T U s w1 lo v' (K + 1) (fun j => if j = K then u else vals j) (fun j => if j = K then Lu else L j) (fun j => if j = K then xu else xs j) := by
  have hk : ∀ {x : Value} {n : Nat} {ys : List Value}, w.ownsRow lo U s x n ys → w1.ownsRow lo U s x n ys := fun hx => own_keep hx fun b hb => hg.block b (hx.lt b hb).2 (fun e => own_two h.out hx hTU e.symm hb)
  refine ⟨?_, fun j hj => ?_, fun i j hi hj hne b hb => ?_⟩
  · have e : (List.range (K + 1)).map (fun j => if j = K then u else vals j) = (List.range K).map vals ++ [u] := by
      rw [List.range_succ, List.map_append]
      congr 1
      · refine List.map_congr_left fun j hj => ?_
        rw [if_neg (by have := List.mem_range.1 hj; omega)]
      · simp
    rw [e]
    exact ho
  · by_cases e : j = K
    · simp only [if_pos e]; exact hk hu
    · simp only [if_neg e]; exact hk (h.inn j (by omega))
  · by_cases ei : i = K
    · rw [if_pos ei] at hb
      rw [if_neg (by omega)]
      exact fun hb' => hap j (by omega) b hb' hb
    · rw [if_neg ei] at hb
      by_cases ej : j = K
      · rw [if_pos ej]; exact hap i (by omega) b hb
      · rw [if_neg ej]; exact h.apart i j (by omega) (by omega) hne b hb
/-- The last inner slice, grown and laid back. -/
theorem grow {w1 : World} {O cap Lu : Nat} {u' : Value} {xu : List Value} (hTU : T ≠ U) (h : Cls T U s w lo (.slice (some ⟨O, 0, none⟩) (K + 1) cap) (K + 1) vals L xs) (hg : w.grownBy w1 (vals K).ownBlock) (hu : w1.ownsRow lo U s u' Lu xu) (hat : ∀ b, u'.ownBlock = some b → (vals K).ownBlock = some b ∨ b = w.heap.size) :
    Cls T U s (w1.setCell ⟨O, K, none⟩ u') lo (.slice (some ⟨O, 0, none⟩) (K + 1) cap) (K + 1) (fun j => if j = K then u' else vals j) (fun j => if j = K then Lu else L j) (fun j => if j = K then xu else xs j) := by
  have hO : ∀ {x : Value} {n : Nat} {ys : List Value} {w' : World}, w'.ownsRow lo U s x n ys → w'.ownsRow lo T 1 (.slice (some ⟨O, 0, none⟩) (K + 1) cap) (K + 1) ((List.range (K + 1)).map vals) → x.ownBlock ≠ some O := fun hx ho => own_two ho hx hTU rfl
  have o1 : w1.ownsRow lo T 1 (.slice (some ⟨O, 0, none⟩) (K + 1) cap) (K + 1) ((List.range (K + 1)).map vals) := own_keep h.out fun b hb => hg.block b (h.out.lt b hb).2 (fun e => own_two h.out (h.inn K (by omega)) hTU hb e.symm)
  have st : ∀ {x : Value} {n : Nat} {ys : List Value}, w1.ownsRow lo U s x n ys → (w1.setCell ⟨O, K, none⟩ u').ownsRow lo U s x n ys := fun hx => own_keep hx fun b hb => Below.heap_setCell _ _ _ _ (fun e => hO hx o1 (by rw [hb]; exact congrArg some e))
  refine ⟨?_, fun j hj => ?_, fun i j hi hj hne b hb => ?_⟩
  · have e : (List.range (K + 1)).map (fun j => if j = K then u' else vals j) = ((List.range (K + 1)).map vals).set K u' := by
      refine List.ext_getElem (by simp) fun i h1 h2 => ?_
      rw [List.getElem_set]
      simp only [List.getElem_map, List.getElem_range]
      by_cases e : i = K
      · rw [if_pos e, if_pos e.symm]
      · rw [if_neg e, if_neg (fun x => e x.symm)]
    rw [e]
    exact own_set o1 K (by omega) u'
  · by_cases e : j = K
    · simp only [if_pos e]; exact st hu
    · simp only [if_neg e]
      exact st (own_keep (h.inn j hj) fun b hb => hg.block b ((h.inn j hj).lt b hb).2 (fun e' => h.apart j K hj (by omega) e b hb e'.symm))
  · by_cases ei : i = K
    · rw [if_pos ei] at hb
      rw [if_neg (by omega)]
      intro hb'
      rcases hat b hb with h1 | h1
      · exact h.apart j K hj (by omega) (by omega) b hb' h1
      · have := ((h.inn j hj).lt b hb').2
        omega
    · rw [if_neg ei] at hb
      by_cases ej : j = K
      · rw [if_pos ej]
        intro hb'
        rcases hat b hb' with h1 | h1
        · exact h.apart i K hi (by omega) ei b hb h1
        · have := ((h.inn i hi).lt b hb).2
          omega
      · rw [if_neg ej]; exact h.apart i j hi hj hne b hb
end Cls
end Go.Proofs.Ytnkimeeofmbhkaa
