/- Contracts of the laws' own words on slices of strings: held against each other, marked, looked at again. No condition. -/
import Derived.Test.YteecbhmgogndaaaMem
import Derived.Test.YteecbhmgogndaaaBas2
import Derived.Deep.RegionHeld3
import Derived.Deep.DeepCutAuto
namespace Go.Proofs.Yteecbhmgogndaaa
open Go.RowKit
set_option linter.unusedSimpArgs false

/-- A mark's digits. -/
def mtD (k : Nat) (out : ByteArray) : ByteArray := if _h : k = 0 then out else mtD (k / 10) (⟨#[UInt8.ofNat (48 + k % 10)]⟩ ++ out)
termination_by k
decreasing_by omega
def mt (k : Int) : ByteArray := if k ≤ 0 then ⟨#[109, 48]⟩ else ⟨#[109]⟩ ++ mtD k.toNat ⟨#[]⟩
theorem mtD_zero (out : ByteArray) : mtD 0 out = out := by rw [mtD, dif_pos rfl]
theorem mtD_pos {k : Nat} (h : ¬ k = 0) (out : ByteArray) : mtD k out = mtD (k / 10) (⟨#[UInt8.ofNat (48 + k % 10)]⟩ ++ out) := by rw [mtD, dif_neg h]
set_option maxRecDepth 100000 in
set_option maxHeartbeats 1000000 in
theorem markText_c (k : Nat) (hk : k ≤ 1099511627776) (w : World) : Calls Try.prog 41 #[.int .i64 k] w (Ret (RV (.string (mt k))) w) := by
  by_cases h0 : k = 0
  · subst h0
    go_enter Try.func41, Try.ntmps41
    go_wp2
    go_ret
    exact ⟨⟨_, rfl, rfl⟩, by (with_reducible repeat (first | exact Below.refl _ _ | apply below_alloc | apply below_dN | apply below_d | refine below_setCell ?_ (by dsimp only; omega) | refine below_call (by assumption) ?_))⟩
  · have hpos : ¬ ((k : Int) ≤ 0) := by omega
    have hM : mt k = ⟨#[109]⟩ ++ mtD k ⟨#[]⟩ := by unfold mt; rw [if_neg hpos]; rfl
    obtain ⟨M, hMM⟩ : ∃ M, mtD k ⟨#[]⟩ = M := ⟨_, rfl⟩
    rw [hM, hMM]
    have HM := Lib.hid hMM
    clear hM hMM
    go_enter Try.func41, Try.ntmps41
    go_wp2
    go_loopw [0, 3] (fun kk s wr => ∃ m : Nat, ∃ out : ByteArray, m ≤ 1099511627776 ∧ kk = .int .i64 m ∧ s = .string out ∧ out.size + m ≤ 1099511627776 ∧ mtD m out = M ∧ Below w.heap.size w wr) (fun kk _ _ => (intOf kk).toNat)
    case atStart => exact ⟨k, ⟨#[]⟩, by omega, rfl, rfl, by show 0 + k ≤ _; omega, HM.out, by (with_reducible repeat (first | exact Below.refl _ _ | apply below_alloc | apply below_dN | apply below_d | refine below_setCell ?_ (by dsimp only; omega) | refine below_call (by assumption) ?_))⟩
    case round =>
      obtain ⟨m, out, hm, rfl, rfl, hsz, hD, hB⟩ := hrel
      have HD := Lib.hid hD
      clear hD
      by_cases hz : m = 0
      · subst hz
        have e : out = M := by rw [← HD.out, mtD_zero]
        have E := Lib.hid e
        clear e
        have hsz2 : ¬ (9223372036854775807 < 1 + out.size) := by omega
        go_wp2
        go_ret
        exact ⟨⟨_, rfl, by rw [← E.out]; rfl⟩, by (with_reducible repeat (first | exact Below.refl _ _ | apply below_alloc | apply below_dN | apply below_d | refine below_setCell ?_ (by dsimp only; omega) | refine below_call (by assumption) ?_))⟩
      · have hp : (0 : Int) < m := by omega
        have hrow : (wr.alloc (.cells #[.int .u8 (48 + (m : Int) % 10)] 5)).rowIs wr.heap.size 5 1 (fun _ => .int .u8 ((48 + m % 10 : Nat) : Int)) := World.rowIs_alloc wr #[.int .u8 (48 + (m : Int) % 10)] 5 (fun _ => .int .u8 ((48 + m % 10 : Nat) : Int)) (fun i hi => by
          match i, hi with
          | 0, _ => exact congrArg some (congrArg (Value.int .u8) (by omega)))
        have hcv := bytes_string (P := Try.prog) (c := 1) 67 9 5 (by kernel_rfl) (by kernel_rfl) (by kernel_rfl) hrow
        rw [show strOf 1 (fun _ => 48 + m % 10) = (⟨#[UInt8.ofNat (48 + m % 10)]⟩ : ByteArray) from rfl] at hcv
        obtain ⟨D, hDD⟩ : ∃ D, (⟨#[UInt8.ofNat (48 + m % 10)]⟩ : ByteArray) = D := ⟨_, rfl⟩
        have hds : D.size = 1 := by rw [← hDD]; rfl
        rw [hDD] at hcv
        have e : mtD (m / 10) (D ++ out) = M := by rw [← HD.out, mtD_pos hz, hDD]
        have ha : (D ++ out).size = 1 + out.size := by rw [ByteArray.size_append, hds]
        have E := Lib.hid e
        have HA := Lib.hid ha
        have HH := Lib.hid hB
        clear e ha hB hDD
        have hsz2 : ¬ (9223372036854775807 < 1 + out.size) := by omega
        have hsz3 : ¬ (9223372036854775807 < D.size + out.size) := by omega
        go_wp2
        go_roundw
        case rel => exact ⟨m / 10, D ++ out, by omega, by go_num, rfl, by rw [HA.out]; omega, E.out, by have := HH.out; (with_reducible repeat (first | exact Below.refl _ _ | apply below_alloc | apply below_dN | apply below_d | refine below_setCell ?_ (by dsimp only; omega) | refine below_call (by assumption) ?_))⟩
        case measure => first | (simp [intOf]; done) | (simp [intOf]; omega)

theorem blk_add (a : Addr) (n : Nat) : (a.add n).block = a.block := by unfold Addr.add; split <;> rfl
/-- What a slice of strings reads as. -/
def StrArg (w : World) (A : Option Addr) (n : Nat) (S : Nat → ByteArray) : Prop := ∀ j, j < n → ∃ a, A = some a ∧ a.block < w.heap.size ∧ w.cell? (a.add j) = some (.string (S j))
theorem StrArg.below {w w' : World} {A : Option Addr} {n : Nat} {S : Nat → ByteArray} (h : StrArg w A n S) (hb : Below w.heap.size w w') : StrArg w' A n S := fun j hj => by
  obtain ⟨a, e, h0, h1⟩ := h j hj
  exact ⟨a, e, Nat.lt_of_lt_of_le h0 hb.size, by rw [hb.cell (p := a.add j) (by rw [blk_add]; exact h0)]; exact h1⟩
set_option maxRecDepth 100000 in
set_option maxHeartbeats 1000000 in
theorem eqStringS_c (A A' : Option Addr) (n cap cap' : Nat) (S : Nat → ByteArray) (w : World) (hn : n ≤ 1099511627776) (hA : StrArg w A n S) (hA' : StrArg w A' n S) :
    Calls Try.prog 16 #[.slice A n cap, .slice A' n cap'] w (Ret (RV (.bool true)) w) := by
  go_enter Try.func16, Try.ntmps16
  go_wp2
  go_loopw [5] (fun k wr => ∃ m : Nat, m ≤ n ∧ k = .int .i64 m ∧ Below w.heap.size w wr) (fun k _ => n - (intOf k).toNat)
  case atStart => exact ⟨0, by omega, rfl, by (with_reducible repeat (first | exact Below.refl _ _ | apply below_alloc | apply below_dN | apply below_d | refine below_setCell ?_ (by dsimp only; omega) | refine below_call (by assumption) ?_))⟩
  case round =>
    obtain ⟨m, hm, rfl, hB⟩ := hrel
    by_cases hlt : m < n
    · obtain ⟨a, rfl, ha, h0⟩ := hA.below hB m hlt
      obtain ⟨a', rfl, ha', h0'⟩ := hA'.below hB m hlt
      have HA := Lib.hid hA
      have HA' := Lib.hid hA'
      have HB := Lib.hid hB
      have hb1 : (a.add m).block < wr.heap.size := by rw [blk_add]; exact ha
      have hb2 : (a'.add m).block < wr.heap.size := by rw [blk_add]; exact ha'
      clear hA hA' hB
      go_upto_region 6 with fail
      go_region_held3 (fun w' => w'.cell? (a.add m) = some (.string (S m)) ∧ w'.cell? (a'.add m) = some (.string (S m))) (go_keep) (fail)
      go_wp2
      go_roundw
      case rel => exact ⟨m + 1, by omega, by go_num, by have := HB.out; (with_reducible repeat (first | exact Below.refl _ _ | apply below_alloc | apply below_dN | apply below_d | refine below_setCell ?_ (by dsimp only; omega) | refine below_call (by assumption) ?_))⟩
      case measure => first | (simp [intOf]; done) | (simp [intOf]; omega)
    · obtain rfl : m = n := by omega
      go_wp2
      go_ret
      exact ⟨⟨_, rfl, rfl⟩, by (with_reducible repeat (first | exact Below.refl _ _ | apply below_alloc | apply below_dN | apply below_d | refine below_setCell ?_ (by dsimp only; omega) | refine below_call (by assumption) ?_))⟩

/-- A slice of strings that may be written. -/
def StrRow (w : World) (lo : Nat) (v : Value) (n : Nat) (f : Nat → Value) : Prop := (v = .slice none 0 0 ∧ n = 0) ∨ ∃ g cap, v = .slice (some ⟨g, 0, none⟩) n cap ∧ n ≤ cap ∧ lo ≤ g ∧ w.rowIs g 9 cap f
theorem StrRow.below {w w' : World} {lo n : Nat} {v : Value} {f : Nat → Value} (h : StrRow w lo v n f) (hb : Below w.heap.size w w') : StrRow w' lo v n f := h.imp id (fun ⟨g, cap, e, h1, h2, h3⟩ => ⟨g, cap, e, h1, h2, h3.of_block (hb.block g h3.lt)⟩)
theorem own_strRow {w : World} {B n : Nat} {v : Value} {xs : List Value} (h : w.ownsRow B 9 1 v n xs) : StrRow w B v n (fun i => (xs[i]?).getD undef) ∨ ∃ g cap f, v = .slice (some ⟨g, 0, none⟩) n cap ∧ n ≤ cap ∧ B ≤ g ∧ w.rowIs g 9 cap f ∧ ∀ i, i < n → xs[i]? = some (f i) := by
  rcases h.2 with ⟨rfl, e⟩ | ⟨g, cap, cur, rfl, h1, h2, h3, h4, h5, h6⟩
  · exact .inl (.inl ⟨rfl, e⟩)
  · refine .inr ⟨g, cap, fun i => (cur[i]?).getD undef, rfl, h3, h1, ⟨cur, h2, by omega, fun i hi => ?_⟩, fun i hi => ?_⟩
    · show cur[i]? = some ((cur[i]?).getD undef)
      rw [Array.getElem?_eq_getElem (by omega)]; rfl
    · show xs[i]? = some ((cur[i]?).getD undef)
      rw [← h6, List.getElem?_take, if_pos (by omega), Array.getElem?_toList, Array.getElem?_eq_getElem (by omega)]; rfl
/-- What a marked row holds. -/
def mkd (k n : Nat) (f : Nat → Value) (i : Nat) : Value := if i < n then .string (mt ((k : Int) + (i : Int))) else f i
set_option maxRecDepth 100000 in
set_option maxHeartbeats 1000000 in
theorem markStringS_c (lo : Nat) (v : Value) (n k : Nat) (f : Nat → Value) (w : World) (hlo : lo ≤ w.heap.size) (hn : n ≤ 549755813888) (hk : k ≤ 549755813888) (h : StrRow w lo v n f) :
    Calls Try.prog 17 #[v, .int .i64 k] w fun e w' => e = .returned (.int .i64 ((k : Int) + (n : Int))) ∧ StrRow w' lo v n (mkd k n f) ∧ Below lo w w' := by
  rcases h with ⟨rfl, rfl⟩ | ⟨g, cap, rfl, hcap, hg, hrow⟩
  · go_enter Try.func17, Try.ntmps17
    go_wp2
    go_loopw [1, 5] (fun kk i wr => kk = .int .i64 k ∧ i = .int .i64 0 ∧ w = wr) (fun _ _ _ => 0)
    case atStart => exact ⟨rfl, rfl, rfl⟩
    case round =>
      obtain ⟨rfl, rfl, rfl⟩ := hrel
      go_wp2
      go_ret
      exact ⟨by simp, .inl ⟨rfl, rfl⟩, Below.refl _ _⟩
  · go_enter Try.func17, Try.ntmps17
    go_wp2
    go_loopw [1, 5] (fun kk i wr => ∃ m : Nat, m ≤ n ∧ kk = .int .i64 ((k : Int) + (m : Int)) ∧ i = .int .i64 m ∧ wr.rowIs g 9 cap (mkd k m f) ∧ Below lo w wr) (fun _ i _ => n - (intOf i).toNat)
    case atStart => exact ⟨0, by omega, by simp, rfl, hrow.congr (fun i _ => by simp [mkd]), Below.refl _ _⟩
    case round =>
      obtain ⟨m, hm, rfl, rfl, hr, hB⟩ := hrel
      have hsz := hB.size
      by_cases hlt : m < n
      · have HB := Lib.hid hB
        clear hB
        have hl := hr.lt
        have c0 := hr.cell (i := m) (by omega)
        have f0 := hr.frozen m
        have HR := Lib.hid hr
        clear hr
        have hM := markText_c (k + m) (by omega)
        rw [Int.natCast_add] at hM
        have HM := Lib.hid hM
        clear hM
        go_wp2_with ((go_at_call 41; (with_reducible refine (HM.out _).mono ?_); rintro e w1 ⟨⟨v, rfl, rfl⟩, hb⟩); obtain ⟨hc, hfz⟩ := bcell hb)
        go_roundw
        case rel => exact ⟨m + 1, by omega, by go_num, by go_num, ((HR.out.of_block (hb.block g hl)).set m _).congr (fun i hi => by
          unfold mkd
          by_cases e : i = m
          · subst e; rw [if_pos rfl, if_pos (by omega)]
          · rw [if_neg e]
            by_cases e2 : i < m
            · rw [if_pos e2, if_pos (by omega)]
            · rw [if_neg e2, if_neg (by omega)]), (HB.out.trans (hb.mono (by omega))).setCell (p := ⟨g, m, none⟩) hg _⟩
        case measure => first | (simp [intOf]; done) | (simp [intOf]; omega)
      · obtain rfl : m = n := by omega
        have HR := Lib.hid hr
        have HB := Lib.hid hB
        clear hr hB
        go_wp2
        go_ret
        exact ⟨rfl, .inr ⟨g, cap, rfl, hcap, hg, HR.out⟩, HB.out⟩

set_option maxRecDepth 100000 in
set_option maxHeartbeats 1000000 in
theorem heldStringS_c (lo : Nat) (v : Value) (n k : Nat) (f : Nat → Value) (w : World) (hn : n ≤ 549755813888) (hk : k ≤ 549755813888) (h : StrRow w lo v n (mkd k n f)) :
    Calls Try.prog 18 #[v, .int .i64 k] w (Ret (RV (.int .i64 ((k : Int) + (n : Int)))) w) := by
  rcases h with ⟨rfl, rfl⟩ | ⟨g, cap, rfl, hcap, hg, hrow⟩
  · go_enter Try.func18, Try.ntmps18
    go_wp2
    go_loopw [1, 5] (fun kk i wr => kk = .int .i64 k ∧ i = .int .i64 0 ∧ w = wr) (fun _ _ _ => 0)
    case atStart => exact ⟨rfl, rfl, rfl⟩
    case round =>
      obtain ⟨rfl, rfl, rfl⟩ := hrel
      go_wp2
      go_ret
      exact ⟨⟨_, rfl, by simp [RV]⟩, Below.refl _ _⟩
  · go_enter Try.func18, Try.ntmps18
    go_wp2
    go_loopw [1, 5] (fun kk i wr => ∃ m : Nat, m ≤ n ∧ kk = .int .i64 ((k : Int) + (m : Int)) ∧ i = .int .i64 m ∧ Below w.heap.size w wr) (fun _ i _ => n - (intOf i).toNat)
    case atStart => exact ⟨0, by omega, by simp, rfl, Below.refl _ _⟩
    case round =>
      obtain ⟨m, hm, rfl, rfl, hB⟩ := hrel
      by_cases hlt : m < n
      · have c0 := hrow.cell (i := m) (by omega)
        have hl := hrow.lt
        rw [← hB.cell (p := ⟨g, m, none⟩) hl] at c0
        have hlw : g < wr.heap.size := Nat.lt_of_lt_of_le hl hB.size
        rw [show mkd k n f m = .string (mt ((k : Int) + (m : Int))) by unfold mkd; rw [if_pos hlt]] at c0
        have HR := Lib.hid hrow
        have HB := Lib.hid hB
        clear hrow hB
        have hM := markText_c (k + m) (by omega)
        rw [Int.natCast_add] at hM
        have HM := Lib.hid hM
        clear hM
        go_wp2
        (apply region_looseK (k := 7); (kernel_rfl); (kernel_rfl); intro opsL KL hopsL hKL; (dsimp only [List.take]))
        iterate 5 (apply rel_val; (rfl); (intro wq hbq; have hcq := (bcell hbq).1; (go_simp; first | done | rfl | exact ⟨rfl, rfl⟩)); (try go_simp))
        (apply rel_call (RV (.string (mt ((k : Int) + (m : Int))))); (rfl); (intro wq hbq; (go_simp; first | done | rfl | exact ⟨rfl, rfl⟩)); (intro wq hbq; exact HM.out _); (try go_simp))
        rintro v rfl
        (apply rel_val; (rfl); (intro wq hbq; have hcq := (bcell hbq).1; (go_simp; first | done | rfl | exact ⟨rfl, rfl⟩)); (try go_simp))
        (refine wpRel_nil ?_; refine hKL _ _ ?_; clear hKL hopsL opsL KL; intro w1 hb hnews; obtain ⟨hc, hfz⟩ := bcell hb; (try simp only [World.heap_drewN] at hc hfz); have hz := hb.size; (dsimp only [List.drop]))
        go_wp2
        go_roundw
        case rel => exact ⟨m + 1, by omega, by go_num, by go_num, by have := HB.out; (with_reducible repeat (first | exact Below.refl _ _ | apply below_alloc | apply below_dN | apply below_d | refine below_setCell ?_ (by dsimp only; omega) | refine below_call (by assumption) ?_))⟩
        case measure => first | (simp [intOf]; done) | (simp [intOf]; omega)
      · obtain rfl : m = n := by omega
        have HB := Lib.hid hB
        clear hB
        go_wp2
        go_ret
        exact ⟨⟨_, rfl, rfl⟩, HB.out⟩
end Go.Proofs.Yteecbhmgogndaaa
