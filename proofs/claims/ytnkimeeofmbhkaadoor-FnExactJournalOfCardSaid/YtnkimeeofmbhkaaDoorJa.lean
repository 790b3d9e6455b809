/- Slices of strings: sized, made out of an argument, held against each other. No condition. -/
import Derived.Test.YtnkimeeofmbhkaaDoorJs
import Derived.Laws.Rows
import Derived.Deep.OwnRows
namespace Go.Proofs.YtnkimeeofmbhkaaDoor
open Go.RowKit
set_option linter.unusedSimpArgs false
theorem make_rowsJ {P : Program} (t e : TypeId) (z : Value) (s bytes : Nat) (ht : P.underlying t = some (.slice e)) (hinfo : (P.info? e).map (fun i => (i.zero, i.size, i.bytes)) = some (some z, s, bytes))
    (n : Nat) (hb : bytes * n ≤ 281474976710656) (hn : n ≤ 9223372036854775807) (w : World) :
    (Instr.makeSlice t (.int .i64 (n : Int)) (.int .i64 (n : Int))).run P w = .ok (.slice (some ⟨w.heap.size, 0, none⟩) n n) (w.alloc (.cells (madeCells z.cells (n * s)) e)) := by
  obtain ⟨i, hi, hzz⟩ := Option.map_eq_some_iff.1 hinfo
  simp only [Prod.mk.injEq] at hzz
  obtain ⟨hz, hs, hby⟩ := hzz
  have hb' : (i.bytes : Int) * (n : Int) ≤ 281474976710656 := by
    rw [hby, ← Int.natCast_mul]; omega
  have hr := run_make (P := P) w t e i z ht hi hz .i64 .i64 n n (by omega) (Int.le_refl _) hb' (by omega)
  simpa only [Int.toNat_natCast, hs] using hr
theorem made1J (w : World) (n : Nat) (z : Value) (t : TypeId) : (w.alloc (.cells (madeCells #[z] n) t)).rowIs w.heap.size t n (fun _ => z) :=
  ⟨_, heap_alloc_new _ _, size_madeCells _ _, fun i hi => by
    simp only [madeCells, Array.getElem?_map, Array.getElem?_range, hi, if_true, Option.map_some]
    simp [Nat.mod_one]⟩
theorem blk_add (a : Addr) (n : Nat) : (a.add n).block = a.block := by unfold Addr.add; split <;> rfl
/-- What a slice of strings reads as. -/
def StrArg (w : World) (A : Option Addr) (n : Nat) (S : Nat → ByteArray) : Prop := ∀ j, j < n → ∃ a, A = some a ∧ a.block < w.heap.size ∧ w.cell? (a.add j) = some (.string (S j))
theorem StrArg.below {w w' : World} {A : Option Addr} {n : Nat} {S : Nat → ByteArray} (h : StrArg w A n S) (hb : Below w.heap.size w w') : StrArg w' A n S := fun j hj => by
  obtain ⟨a, e, h0, h1⟩ := h j hj
  exact ⟨a, e, Nat.lt_of_lt_of_le h0 hb.size, by rw [hb.cell (p := a.add j) (by rw [blk_add]; exact h0)]; exact h1⟩
theorem SA.arg {w : World} {b m : Nat} {S : Nat → ByteArray} (h : SA w b m S) : StrArg w (some ⟨b, 0, none⟩) m S := fun j hj => by
  refine ⟨⟨b, 0, none⟩, rfl, h.1, ?_⟩
  have hadd : (⟨b, 0, none⟩ : Addr).add j = ⟨b, j, none⟩ := by unfold Addr.add; split <;> simp_all
  rw [hadd]
  exact h.2 j hj
/-- How many bytes the first i strings have. -/
def smS (S : Nat → ByteArray) : Nat → Nat
  | 0 => 0
  | i + 1 => smS S i + (S i).size
theorem smS_mono (S : Nat → ByteArray) {i : Nat} : ∀ {m : Nat}, i ≤ m → smS S i ≤ smS S m
  | 0, h => by obtain rfl : i = 0 := by omega
               exact Nat.le_refl _
  | m + 1, h => by
    by_cases e : i = m + 1
    · subst e; exact Nat.le_refl _
    · have := smS_mono S (show i ≤ m by omega)
      show smS S i ≤ smS S m + (S m).size
      omega
theorem smS_each {S : Nat → ByteArray} {m j : Nat} (hj : j < m) : (S j).size ≤ smS S m := by
  have h1 := smS_mono S (show j + 1 ≤ m by omega)
  have h2 : smS S (j + 1) = smS S j + (S j).size := rfl
  omega
set_option maxRecDepth 100000 in
set_option maxHeartbeats 1000000 in
theorem szStringS_c (A : Option Addr) (n cap : Nat) (S : Nat → ByteArray) (w : World) (hn : n ≤ 9223372036854775807) (hs : ∀ j, j < n → (S j).size ≤ 9223372036854775807) (hA : StrArg w A n S) :
    Calls Tryd.prog 4 #[.slice A n cap, .int .i64 1048576] w fun e w' => e = .returned (.int .i64 (if n + smS S n ≤ 1048576 then 1048576 - (n : Int) - (smS S n : Int) else -1)) ∧ w = w' := by
  have HA := Lib.hid hA
  have HSZ := Lib.hid hs
  clear hA hs
  by_cases hn1 : n ≤ 1048576
  · have h0 : ¬ (1048576 - (n : Int) < 0) := by omega
    go_enter Tryd.func4, Tryd.ntmps4
    go_wp2
    go_loop [1, 5] (fun l k => ∃ i : Nat, i ≤ n ∧ k = .int .i64 i ∧ l = .int .i64 (1048576 - (n : Int) - (smS S i : Int)) ∧ n + smS S i ≤ 1048576) (fun _ k => n - (intOf k).toNat)
    case atStart => exact ⟨0, by omega, rfl, by simp [smS], by simpa [smS] using hn1⟩
    case round =>
      obtain ⟨i, hi, rfl, rfl, hsm⟩ := hrel
      by_cases hlt : i < n
      · obtain ⟨a, rfl, ha, c0⟩ := HA.out i hlt
        have hz := HSZ.out i hlt
        obtain ⟨s, hss⟩ : ∃ s, S i = s := ⟨_, rfl⟩
        have htn : smS S (i + 1) = smS S i + s.size := by rw [← hss]; rfl
        rw [hss] at c0 hz
        have HTN := Lib.hid htn
        obtain ⟨t, ht⟩ : ∃ t, smS S i = t := ⟨_, rfl⟩
        rw [ht] at hsm htn ⊢
        have HT := Lib.hid ht
        have hmono := smS_mono S (show i + 1 ≤ n by omega)
        rw [htn] at hmono
        clear ht hss htn
        by_cases hbig : n + (t + s.size) ≤ 1048576
        · have h1 : ¬ (1048576 - (n : Int) - (t : Int) - (s.size : Int) < 0) := by omega
          clear hmono
          go_wp2
          go_round
          case rel => exact ⟨i + 1, by omega, by go_num, by rw [HTN.out, HT.out]; go_num, by rw [HTN.out, HT.out]; exact hbig⟩
          case measure => first | (simp [intOf]; done) | (simp [intOf]; omega)
        · have h1 : (1048576 - (n : Int) - (t : Int) - (s.size : Int) < 0) := by omega
          have hNN := Lib.hid (show ¬ (n + smS S n ≤ 1048576) by omega)
          clear hmono
          go_wp2
          go_ret
          exact ⟨by first | rfl | (rw [if_neg hNN.out]), rfl⟩
      · obtain rfl : i = n := by omega
        have hNN := Lib.hid hsm
        go_wp2
        go_ret
        exact ⟨by first | rfl | (rw [if_pos hNN.out]) | simp [hNN.out], rfl⟩
  · have h0 : (1048576 - (n : Int) < 0) := by omega
    rw [if_neg (by omega)]
    go_enter Tryd.func4, Tryd.ntmps4
    go_wp2
    go_ret
    exact ⟨rfl, rfl⟩
set_option maxRecDepth 100000 in
set_option maxHeartbeats 1000000 in
theorem toStringS_c (A : Option Addr) (n cap : Nat) (S : Nat → ByteArray) (w : World) (hn : n ≤ 1048576) (hA : StrArg w A n S) :
    Calls Tryd.prog 6 #[.slice A n cap] w fun e w' => ∃ g, e = .returned (.slice (some ⟨g, 0, none⟩) n n) ∧ w.heap.size ≤ g ∧ SA w' g n S ∧ Below w.heap.size w w' := by
  have hmk := make_rowsJ (P := Tryd.prog) 22 9 (.string ⟨#[]⟩) 1 16 (by kernel_rfl) (by kernel_rfl) n (by omega) (by omega)
  have hcz : (Value.string ⟨#[]⟩).cells = #[.string ⟨#[]⟩] := rfl
  rw [hcz, Nat.mul_one] at hmk
  clear hcz
  go_enter Tryd.func6, Tryd.ntmps6
  go_wp2
  go_loopw [4] (fun k wr => ∃ m : Nat, m ≤ n ∧ k = .int .i64 m ∧ wr.rowIs w.heap.size 9 n (fun i => if i < m then .string (S i) else .string ⟨#[]⟩) ∧ Below w.heap.size w wr) (fun k _ => n - (intOf k).toNat)
  case atStart => exact ⟨0, by omega, rfl, (made1J w n _ _).congr (fun i _ => by simp), by (with_reducible repeat (first | exact Below.refl _ _ | apply below_alloc | apply below_dN | apply below_d | refine below_setCell ?_ (by dsimp only; omega) | refine below_call (by assumption) ?_))⟩
  case round =>
    obtain ⟨m, hm, rfl, hrow, hB⟩ := hrel
    clear hmk
    by_cases hlt : m < n
    · obtain ⟨ad, rfl, ha, h0⟩ := hA m hlt
      have g0 : wr.cell? (ad.add m) = some (.string (S m)) := by rw [hB.cell (p := ad.add m) (by rw [blk_add]; exact ha)]; exact h0
      have HA := Lib.hid hA
      clear hA h0
      have c0 := hrow.cell (i := m) hlt
      have f0 := hrow.frozen m
      have hl := hrow.lt
      have HR := Lib.hid hrow
      have HB := Lib.hid hB
      clear hrow hB
      go_wp2
      go_roundw
      case rel => exact ⟨m + 1, by omega, by go_num, (HR.out.set m _).congr (fun i _ => by
        by_cases e : i = m
        · subst e; rw [if_pos rfl, if_pos (by omega)]
        · rw [if_neg e]
          by_cases e2 : i < m
          · rw [if_pos e2, if_pos (by omega)]
          · rw [if_neg e2, if_neg (by omega)]), HB.out.setCell (p := ⟨w.heap.size, m, none⟩) (Nat.le_refl _) _⟩
      case measure => first | (simp [intOf]; done) | (simp [intOf]; omega)
    · obtain rfl : m = n := by omega
      have HR := Lib.hid hrow
      have HB := Lib.hid hB
      clear hrow hB
      go_wp2
      go_ret
      exact ⟨w.heap.size, rfl, Nat.le_refl _, ⟨HR.out.lt, fun j hj => by rw [HR.out.cell hj, if_pos hj]⟩, HB.out⟩
set_option maxRecDepth 100000 in
set_option maxHeartbeats 1000000 in
theorem eqStringS_c (A A' : Option Addr) (n cap cap' : Nat) (S : Nat → ByteArray) (w : World) (hn : n ≤ 1099511627776) (hA : StrArg w A n S) (hA' : StrArg w A' n S) :
    Calls Tryd.prog 8 #[.slice A n cap, .slice A' n cap'] w (Ret (RV (.bool true)) w) := by
  go_enter Tryd.func8, Tryd.ntmps8
  go_wp2
  go_loopw [5] (fun k wr => ∃ m : Nat, m ≤ n ∧ k = .int .i64 m ∧ Below w.heap.size w wr) (fun k _ => n - (intOf k).toNat)
  case atStart => exact ⟨0, by omega, rfl, by (with_reducible repeat (first | exact Below.refl _ _ | apply below_alloc | apply below_dN | apply below_d | refine below_setCell ?_ (by dsimp only; omega) | refine below_call (by assumption) ?_))⟩
  case round =>
    obtain ⟨m, hm, rfl, hB⟩ := hrel
    by_cases hlt : m < n
    · obtain ⟨a, rfl, ha, h0⟩ := hA.below hB m hlt
      obtain ⟨a', rfl, ha', h0'⟩ := hA'.below hB m hlt
      have HA := Lib.hid hA
      have HA' := Lib.hid hA'
      have HB := Lib.hid hB
      have hb1 : (a.add m).block < wr.heap.size := by rw [blk_add]; exact ha
      have hb2 : (a'.add m).block < wr.heap.size := by rw [blk_add]; exact ha'
      clear hA hA' hB
      go_upto_region 6 with fail
      go_region_held3 (fun w' => w'.cell? (a.add m) = some (.string (S m)) ∧ w'.cell? (a'.add m) = some (.string (S m))) (go_keep) (fail)
      go_wp2
      go_roundw
      case rel => exact ⟨m + 1, by omega, by go_num, by have := HB.out; (with_reducible repeat (first | exact Below.refl _ _ | apply below_alloc | apply below_dN | apply below_d | refine below_setCell ?_ (by dsimp only; omega) | refine below_call (by assumption) ?_))⟩
      case measure => first | (simp [intOf]; done) | (simp [intOf]; omega)
    · obtain rfl : m = n := by omega
      go_wp2
      go_ret
      exact ⟨⟨_, rfl, rfl⟩, by (with_reducible repeat (first | exact Below.refl _ _ | apply below_alloc | apply below_dN | apply below_d | refine below_setCell ?_ (by dsimp only; omega) | refine below_call (by assumption) ?_))⟩
set_option maxRecDepth 100000 in
set_option maxHeartbeats 4000000 in
theorem lawJournalOf (A : Option Addr) (n cap : Nat) (S : Nat → ByteArray) (w : World) (hn0 : n ≤ 9223372036854775807) (hs0 : ∀ j, j < n → (S j).size ≤ 9223372036854775807) (hA : StrArg w A n S) (ht : TB w) :
    Calls Tryd.prog 3 #[.slice A n cap] w fun e w' => e = .returned (.bool true) ∧ Below w.heap.size w w' := by
  have hsz := szStringS_c A n cap S w hn0 hs0 hA
  have HA := Lib.hid hA
  have HT := Lib.hid ht
  clear hA ht hs0
  by_cases hok : n + smS S n ≤ 1048576
  · rw [if_pos hok] at hsz
    have hn : n ≤ 1048576 := by omega
    have hl0 : ¬ (1048576 - (n : Int) - (smS S n : Int) < 0) := by omega
    have hsS := fun b w' hb => sJournal_c b n n S w' hn (fun j hj => by have := smS_each (S := S) hj; omega) hb
    have hsI := fun b w' hb ht => iJournal_c b n n S w' hn hb ht
    unfold JR at hsS hsI
    generalize (if jok S n then jo S n else ⟨#[]⟩) = J at hsS hsI
    generalize jok S n = k at hsS hsI
    have HSZ := Lib.hid hsz
    have HS := Lib.hid hsS
    have HI := Lib.hid hsI
    clear hsz hsS hsI hok
    generalize smS S n = sm at HSZ hl0
    go_enter Tryd.func3, Tryd.ntmps3
    go_upto_region 5 with (go_at_call 4; refine (HSZ.out).mono ?_; rintro e w' ⟨rfl, rfl⟩)
    go_wp2_with fail
    (go_at_call 6; refine (toStringS_c A n cap S _ hn (HA.out.below (Below.refl _ _))).mono ?_; rintro e w1 ⟨b1, rfl, hge_b1, hblk_b1, hbw_b1⟩)
    go_wp2_with fail
    (go_at_call 5; refine (HS.out b1 _ hblk_b1).mono ?_; rintro e w2 ⟨rfl, hb2⟩)
    have B2 : Below w.heap.size w w2 := hbw_b1.trans (hb2.mono hbw_b1.size)
    go_wp2_with fail
    (go_at_call 6; refine (toStringS_c A n cap S _ hn (HA.out.below B2)).mono ?_; rintro e w3 ⟨b3, rfl, hge_b3, hblk_b3, hbw_b3⟩)
    have B3 := B2.trans (hbw_b3.mono B2.size)
    go_wp2_with fail
    (go_at_call 7; refine (HI.out b3 _ hblk_b3 (HT.out.below B3)).mono ?_; rintro e w4 ⟨rfl, hb4⟩)
    have B4 := B3.trans (hb4.mono B3.size)
    have hS4 := hblk_b3.below hb4
    go_wp2_with fail
    (go_at_call 6; refine (toStringS_c A n cap S _ hn (HA.out.below B4)).mono ?_; rintro e w5 ⟨b5, rfl, hge_b5, hblk_b5, hbw_b5⟩)
    have B5 := B4.trans (hbw_b5.mono B4.size)
    have hS5 := hS4.below hbw_b5
    go_wp2_with fail
    (go_at_call 8; refine (eqStringS_c _ _ n n n S _ (by omega) hS5.arg hblk_b5.arg).mono ?_; rintro e w6 ⟨⟨_, rfl, rfl⟩, hb6⟩)
    go_wp2
    go_ret
    exact ⟨rfl, B5.trans (hb6.mono B5.size)⟩
  · rw [if_neg hok] at hsz
    have HSZ := Lib.hid hsz
    clear hsz hok
    go_enter Tryd.func3, Tryd.ntmps3
    go_wp2_with (go_at_call 4; refine (HSZ.out).mono ?_; rintro e w' ⟨rfl, rfl⟩)
    go_ret
    exact ⟨rfl, Below.refl _ _⟩
end Go.Proofs.YtnkimeeofmbhkaaDoor
