/- Contracts of the look at a key and of reading one, in both spellings. No condition. -/
import Derived.Test.YteecbhmgogndaaaDoorMem
import Derived.Test.YteecbhmgogndaaaDoorTrim
namespace Go.Proofs.YteecbhmgogndaaaDoor
open Go.RowKit
set_option linter.unusedSimpArgs false

/-- The look at a key's bytes. -/
def keyB (s : ByteArray) : Bool := s.data.toList.all fun b => decide (48 ≤ b.toNat) && decide (b.toNat ≤ 51)
def keyOk (s : ByteArray) : Bool := keyB s && decide (s.size ≤ 20)
theorem keyB_iff (s : ByteArray) : keyB s = true ↔ ∀ i (h : i < s.size), 48 ≤ s[i].toNat ∧ s[i].toNat ≤ 51 := by
  unfold keyB
  rw [List.all_eq_true]
  constructor
  · intro h i hi
    have := h s[i] (by
      have h2 : i < s.data.toList.length := by simpa using hi
      have h3 : s.data.toList[i]'h2 = s[i] := by simp; rfl
      rw [← h3]
      exact List.getElem_mem _)
    simpa using this
  · intro h b hb
    obtain ⟨i, hi, rfl⟩ := List.mem_iff_getElem.1 hb
    have hi2 : i < s.size := by simpa using hi
    have := h i hi2
    have h3 : s.data.toList[i] = s[i] := by simp; rfl
    rw [h3]
    simpa using this
set_option maxRecDepth 100000 in
set_option maxHeartbeats 1000000 in
theorem l07Is_c (s : ByteArray) (hs : s.size ≤ 1048576) (w : World) : Calls Tryd.prog 27 #[.string s] w (Ret (RV (.bool (keyOk s))) w) := by
  go_enter Tryd.func27, Tryd.ntmps27
  go_wp2
  go_loopw [3] (fun k wr => ∃ m : Nat, m ≤ s.size ∧ k = .int .i64 m ∧ (∀ i (h : i < s.size), i < m → 48 ≤ s[i].toNat ∧ s[i].toNat ≤ 51) ∧ Below w.heap.size w wr) (fun k _ => s.size - (intOf k).toNat)
  case atStart => exact ⟨0, by omega, rfl, fun _ _ h => absurd h (by omega), by (with_reducible repeat (first | exact Below.refl _ _ | apply below_alloc | apply below_dN | apply below_d | refine below_setCell ?_ (by dsimp only; omega) | refine below_call (by assumption) ?_))⟩
  case round =>
    obtain ⟨m, hm, rfl, hG, hB⟩ := hrel
    have HG := Lib.hid hG
    have HB := Lib.hid hB
    clear hG hB
    by_cases hlt : m < s.size
    · by_cases hg : 48 ≤ s[m].toNat ∧ s[m].toNat ≤ 51
      · have g1 : ¬ ((s[m].toNat : Int) < 48) := by omega
        have g2 : ¬ ((51 : Int) < (s[m].toNat : Int)) := by omega
        go_wp2
        go_roundw
        case rel => exact ⟨m + 1, by omega, by go_num, fun i hi h => by
          by_cases e : i = m
          · subst e; exact hg
          · exact HG.out i hi (by omega), by have := HB.out; (with_reducible repeat (first | exact Below.refl _ _ | apply below_alloc | apply below_dN | apply below_d | refine below_setCell ?_ (by dsimp only; omega) | refine below_call (by assumption) ?_))⟩
        case measure => first | (simp [intOf]; done) | (simp [intOf]; omega)
      · have hk : keyOk s = false := by
          unfold keyOk
          cases hb : keyB s
          · rfl
          · exact absurd ((keyB_iff s).1 hb m hlt) hg
        rw [hk]
        by_cases g1 : (s[m].toNat : Int) < 48
        · go_wp2
          go_ret
          exact ⟨⟨_, rfl, rfl⟩, by have := HB.out; (with_reducible repeat (first | exact Below.refl _ _ | apply below_alloc | apply below_dN | apply below_d | refine below_setCell ?_ (by dsimp only; omega) | refine below_call (by assumption) ?_))⟩
        · have g2 : (51 : Int) < (s[m].toNat : Int) := by omega
          go_wp2
          go_ret
          exact ⟨⟨_, rfl, rfl⟩, by have := HB.out; (with_reducible repeat (first | exact Below.refl _ _ | apply below_alloc | apply below_dN | apply below_d | refine below_setCell ?_ (by dsimp only; omega) | refine below_call (by assumption) ?_))⟩
    · obtain rfl : m = s.size := by omega
      have hk : keyOk s = decide ((s.size : Int) ≤ 20) := by
        unfold keyOk
        rw [(keyB_iff s).2 (fun i hi => HG.out i hi hi)]
        simp
        omega
      go_wp2
      go_ret
      exact ⟨⟨_, rfl, by rw [hk]; rfl⟩, by have := HB.out; (with_reducible repeat (first | exact Below.refl _ _ | apply below_alloc | apply below_dN | apply below_d | refine below_setCell ?_ (by dsimp only; omega) | refine below_call (by assumption) ?_))⟩

theorem dw_nil {α : Type} (p : α → Bool) : ∀ l : List α, l.dropWhile p = [] ↔ ∀ x, x ∈ l → p x = true
  | [] => by simp
  | a :: l => by
    rw [List.dropWhile_cons]
    cases h : p a
    · simp [h]
    · simp [h, dw_nil p l]
theorem dw_head {α : Type} (p : α → Bool) : ∀ (l : List α) (x : α) (t : List α), l.dropWhile p = x :: t → p x = false
  | [], _, _, h => by simp at h
  | a :: l, x, t, h => by
    rw [List.dropWhile_cons] at h
    cases e : p a
    · rw [e] at h; simp only [Bool.false_eq_true, if_false, List.cons.injEq] at h; rw [← h.1]; exact e
    · rw [e] at h; simp only [if_true] at h; exact dw_head p l x t h
/-- Trimmed to nothing: every byte is in the set. -/
theorem trim_nil (l cs : List UInt8) : Lib.trimS l cs = [] ↔ ∀ b, b ∈ l → cs.contains b = true := by
  unfold Lib.trimS Lib.trimLeftS Lib.trimRightS
  constructor
  · intro h b hb
    rw [dw_nil] at h
    rcases Bool.eq_false_or_eq_true (cs.contains b) with e | e
    · exact e
    · exfalso
      have h2 : ∀ x, x ∈ l.reverse.dropWhile (cs.contains ·) → cs.contains x = true := fun x hx => h x (List.mem_reverse.2 hx)
      cases hd : l.reverse.dropWhile (cs.contains ·) with
      | nil =>
        rw [dw_nil] at hd
        exact absurd (hd b (List.mem_reverse.2 hb)) (by rw [e]; decide)
      | cons x t =>
        have h3 := h2 x (by rw [hd]; exact List.mem_cons_self ..)
        have h4 := dw_head _ _ _ _ hd
        rw [h3] at h4
        exact absurd h4 (by decide)
  · intro h
    rw [(dw_nil _ _).2 (fun x hx => h x (List.mem_reverse.1 hx))]
    rfl
theorem trim_keyB (s : ByteArray) : Lib.trimS s.data.toList [48, 49, 50, 51] = [] ↔ keyB s = true := by
  rw [trim_nil, keyB, List.all_eq_true]
  have hb : ∀ b : UInt8, ([48, 49, 50, 51] : List UInt8).contains b = (decide (48 ≤ b.toNat) && decide (b.toNat ≤ 51)) := by
    intro b
    rw [Bool.eq_iff_iff]
    simp only [List.contains_cons, List.contains_nil, Bool.or_false, Bool.or_eq_true, beq_iff_eq, Bool.and_eq_true, decide_eq_true_eq]
    constructor
    · rintro (rfl | rfl | rfl | rfl) <;> decide
    · intro h
      have h2 : b.toNat = 48 ∨ b.toNat = 49 ∨ b.toNat = 50 ∨ b.toNat = 51 := by omega
      rcases h2 with h2 | h2 | h2 | h2
      · exact .inl (UInt8.toNat_inj.1 h2)
      · exact .inr (.inl (UInt8.toNat_inj.1 h2))
      · exact .inr (.inr (.inl (UInt8.toNat_inj.1 h2)))
      · exact .inr (.inr (.inr (UInt8.toNat_inj.1 h2)))
  simp only [hb]
set_option maxRecDepth 100000 in
set_option maxHeartbeats 1000000 in
theorem iIsKey_c (s : ByteArray) (hs : s.size ≤ 1048576) (w : World) : Calls Tryd.prog 10 #[.string s] w (Ret (RV (.bool (keyOk s))) w) := by
  have hcon := fun w => Any.strings_Trim_laid Tryd.lays160 (by kernel_rfl) s ⟨#[48, 49, 50, 51]⟩ w (by omega) (by decide) (ascii_of_all (by decide))
  change ∀ w, Calls Tryd.prog 28 _ _ (fun e w' => e = .returned (.string ⟨(Lib.trimS s.data.toList [48, 49, 50, 51]).toArray⟩) ∧ Below w.heap.size w w') at hcon
  have HC := Lib.hid hcon
  clear hcon
  by_cases hz : s.size ≤ 20
  · have hz' : (s.size : Int) ≤ 20 := by omega
    generalize hr : (⟨(Lib.trimS s.data.toList [48, 49, 50, 51]).toArray⟩ : ByteArray) = r at HC
    go_enter Tryd.func10, Tryd.ntmps10
    go_wp2_with ((go_at_call 28; ((with_reducible refine (HC.out _).mono ?_); rintro e w1 ⟨rfl, hb⟩); have hu2 : ∀ n : Nat, n < n + 1 + 1 := (fun n => by omega); have hu3 : ∀ n : Nat, n < n + 1 + 1 + 1 := (fun n => by omega); obtain ⟨hc, hfz⟩ := bcell hb; (try simp only [World.heap_drewN] at hc hfz); have hs_ := hb.size; (try simp at hs_); (try have hz0 : w.heap.size < w1.heap.size := (by omega)); (try have hz1 : w.heap.size + 1 < w1.heap.size := (by omega)); (try have hz2 : w.heap.size + 2 < w1.heap.size := (by omega)); (try have hz3 : w.heap.size + 3 < w1.heap.size := (by omega)); (try have hza : wa.heap.size < w1.heap.size := (by omega)); (try have hza1 : wa.heap.size + 1 < w1.heap.size := (by omega)); (try have hzb : wb.heap.size < w1.heap.size := (by omega)); (try have hzb1 : wb.heap.size + 1 < w1.heap.size := (by omega)); (try have hzc : wc.heap.size < w1.heap.size := (by omega)); (try have hzd : wd.heap.size < w1.heap.size := (by omega))))
    go_ret
    have e : r.toList.isEmpty = keyOk s := by
      unfold keyOk
      rw [decide_eq_true hz, Bool.and_true, Lib.toList_data, ← hr, Bool.eq_iff_iff, ← trim_keyB]
      simp
    exact ⟨⟨_, rfl, by rw [← e]; rfl⟩, by (with_reducible repeat (first | exact Below.refl _ _ | apply below_alloc | apply below_dN | apply below_d | refine below_setCell ?_ (by dsimp only; omega) | refine below_call (by assumption) ?_))⟩
  · have hz' : ¬ (s.size : Int) ≤ 20 := by omega
    have hk : keyOk s = false := by unfold keyOk; simp [hz]
    rw [hk]
    go_enter Tryd.func10, Tryd.ntmps10
    go_wp2
    go_ret
    exact ⟨⟨_, rfl, rfl⟩, by (with_reducible repeat (first | exact Below.refl _ _ | apply below_alloc | apply below_dN | apply below_d | refine below_setCell ?_ (by dsimp only; omega) | refine below_call (by assumption) ?_))⟩
end Go.Proofs.YteecbhmgogndaaaDoor
