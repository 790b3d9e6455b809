/- strconv's formatBase10 at numbers of three to five digits. No condition. -/
import Derived.Test.YtnkimeeofmbhkaaDoorJfmt
import Derived.Deep.RegionLaw
import Derived.Deep.DrawnRows
namespace Go.Proofs.YtnkimeeofmbhkaaDoor
open Go.RowKit
set_option linter.unusedSimpArgs false
attribute [local go_sem ↓] Go.wp_at_zero Go.wp_at_succ
def smOk (T : ByteArray) : Bool := T.size == 200 && (List.range 100).all fun k => (T.data[k * 2]?.map (·.toNat)) == some (48 + k / 10) && (T.data[k * 2 + 1]?.map (·.toNat)) == some (48 + k % 10)
theorem sm_at {T : ByteArray} (hT : smOk T = true) {k : Nat} (hk : k < 100) : (∀ h : k * 2 < T.size, T[k * 2].toNat = 48 + k / 10) ∧ (∀ h : k * 2 + 1 < T.size, T[k * 2 + 1].toNat = 48 + k % 10) := by
  unfold smOk at hT
  simp only [Bool.and_eq_true, List.all_eq_true, List.mem_range] at hT
  have h1 := hT.2 k hk
  refine ⟨fun h => ?_, fun h => ?_⟩
  · have h2 : T.data[k * 2]? = some T[k * 2] := by
      rw [Array.getElem?_eq_getElem (by exact h)]
      rfl
    have h3 := h1.1
    rw [h2] at h3
    simpa using h3
  · have h2 : T.data[k * 2 + 1]? = some T[k * 2 + 1] := by
      rw [Array.getElem?_eq_getElem (by exact h)]
      rfl
    have h3 := h1.2
    rw [h2] at h3
    simpa using h3
/-- What lies in the array behind. -/
def f10 (n nd : Nat) (f : Nat → Value) (i : Nat) : Value := if 1 ≤ i ∧ i ≤ nd then .int .u8 ((48 + n / 10 ^ (nd - i) % 10 : Nat) : Int) else f i
theorem f10_3e (n : Nat) (f : Nat → Value) (i : Nat) : f10 n 3 f i = if i = 1 then .int .u8 ((48 + n / 100 % 10 : Nat) : Int) else if i = 2 then .int .u8 ((48 + n / 10 % 10 : Nat) : Int) else if i = 3 then .int .u8 ((48 + n % 10 : Nat) : Int) else f i := by
  unfold f10
  by_cases h1 : i = 1
  · subst h1; rw [if_pos (by omega), if_pos rfl]
  · rw [if_neg h1]
    by_cases h2 : i = 2
    · subst h2; rw [if_pos (by omega), if_pos rfl]
    · rw [if_neg h2]
      by_cases h3 : i = 3
      · subst h3; rw [if_pos (by omega), if_pos rfl]; simp
      · rw [if_neg h3, if_neg (by omega)]
theorem sm_lo {T : ByteArray} {k : Nat} (h : k * 2 < T.size) (hk : k < 100) (hT : smOk T = true) : T[k * 2].toNat = 48 + k / 10 := (sm_at hT hk).1 h
theorem sm_hi {T : ByteArray} {k : Nat} (h : k * 2 + 1 < T.size) (hk : k < 100) (hT : smOk T = true) : T[k * 2 + 1].toNat = 48 + k % 10 := (sm_at hT hk).2 h
def F10 (T : TypeId) (b N n nd : Nat) (f : Nat → Value) (w : World) (e : Ending) (w' : World) : Prop := (∃ v, e = .returned v) ∧ w'.rowIs b T N (f10 n nd f) ∧ Below b w w' ∧ w'.heap.size = w.heap.size
set_option maxRecDepth 100000 in
set_option maxHeartbeats 4000000 in
theorem f10_3 (T : TypeId) (b N c n : Nat) (f : Nat → Value) (h1 : 100 ≤ n) (h2 : n < 1000) (hN : 6 ≤ N) (w : World) (hrow : w.rowIs b T N f) :
    Calls Tryd.prog 29 #[.slice (some ⟨b, 1, none⟩) 3 c, .int .u64 n] w (F10 T b N n 3 f w) := by
  have g0 : (n : Int) % 4294967296 = (n : Int) := by omega
  obtain ⟨q, hq⟩ : ∃ q, n % 100 = q := ⟨_, rfl⟩
  obtain ⟨p, hp⟩ : ∃ p, n / 100 = p := ⟨_, rfl⟩
  have g1 : (n : Int) % 100 = (q : Int) := by omega
  have g2 : (n : Int) / 100 = (p : Int) := by omega
  have q1 : q < 100 := by omega
  have p1 : p < 10 := by omega
  have g3 : (0 : Int) ≤ (q : Int) * 2 := by omega
  have g4 : (q : Int) * 2 < 200 := by omega
  have g5 : (0 : Int) ≤ (q : Int) * 2 + 1 := by omega
  have g6 : (q : Int) * 2 + 1 < 200 := by omega
  have g7 : IntKind.u32.wrap ((q : Int) * 2 + 1) = (q : Int) * 2 + 1 := by rw [IntKind.wrap_u32]; omega
  have g8 : ((q : Int) * 2 + 1).toNat = q * 2 + 1 := by omega
  have g9 : ((q : Int) * 2).toNat = q * 2 := by omega
  have z0 : IntKind.i64.wrap 0 = 0 := by decide
  have z1 : IntKind.i64.wrap 1 = 1 := by decide
  have z2 : IntKind.i64.wrap 2 = 2 := by decide
  have z3 : IntKind.i64.wrap 3 = 3 := by decide
  have z4 : IntKind.i64.wrap 4 = 4 := by decide
  have c1 := hrow.cell (i := 1) (by omega)
  have c2 := hrow.cell (i := 2) (by omega)
  have c3 := hrow.cell (i := 3) (by omega)
  have e1 := hrow.frozen 1
  have e2 := hrow.frozen 2
  have e3 := hrow.frozen 3
  have hl := hrow.lt
  have HR := Lib.hid hrow
  have HP := Lib.hid hp
  have HQ := Lib.hid hq
  clear hrow hp hq
  go_enter Tryd.func29, Tryd.ntmps29
  go_wp2
  go_loopw [1, 4] (fun u k wr => u = .int .u64 n ∧ k = .int .i64 3 ∧ w = wr) (fun _ _ _ => 0)
  case atStart => exact ⟨rfl, rfl, rfl⟩
  case round =>
    obtain ⟨rfl, rfl, rfl⟩ := hrel
    go_wp2
    go_region_law fail
    all_goals
      go_wp2
      go_end0
      rw [sm_hi (hk := q1) (hT := ?hTa), sm_lo (hk := q1) (hT := ?hTb)]
      case hTa => decide +kernel
      case hTb => decide +kernel
      refine ⟨⟨_, rfl⟩, (((HR.out.set 3 _).set 2 _).set 1 _).drew.congr (fun i hi => ?_), (((Below.refl b w).setCell (p := ⟨b, 3, none⟩) (Nat.le_refl _) _).setCell (p := ⟨b, 2, none⟩) (Nat.le_refl _) _).setCell (p := ⟨b, 1, none⟩) (Nat.le_refl _) _ |>.drew, by simp [World.setCell, World.drew]⟩
      have hp := HP.out
      have hq := HQ.out
      rw [f10_3e]
      rw [show 48 + (p : Int) = ((48 + n / 100 % 10 : Nat) : Int) by omega, show 48 + q / 10 = 48 + n / 10 % 10 by omega, show 48 + q % 10 = 48 + n % 10 by omega]
theorem f10_4e (n : Nat) (f : Nat → Value) (i : Nat) : f10 n 4 f i = if i = 1 then .int .u8 ((48 + n / 1000 % 10 : Nat) : Int) else if i = 2 then .int .u8 ((48 + n / 100 % 10 : Nat) : Int) else if i = 3 then .int .u8 ((48 + n / 10 % 10 : Nat) : Int) else if i = 4 then .int .u8 ((48 + n % 10 : Nat) : Int) else f i := by
  unfold f10
  by_cases h1 : i = 1
  · subst h1; rw [if_pos (by omega), if_pos rfl]
  · rw [if_neg h1]
    by_cases h2 : i = 2
    · subst h2; rw [if_pos (by omega), if_pos rfl]
    · rw [if_neg h2]
      by_cases h3 : i = 3
      · subst h3; rw [if_pos (by omega), if_pos rfl]
      · rw [if_neg h3]
        by_cases h4 : i = 4
        · subst h4; rw [if_pos (by omega), if_pos rfl]; simp
        · rw [if_neg h4, if_neg (by omega)]
theorem f10_5e (n : Nat) (f : Nat → Value) (i : Nat) : f10 n 5 f i = if i = 1 then .int .u8 ((48 + n / 10000 % 10 : Nat) : Int) else if i = 2 then .int .u8 ((48 + n / 1000 % 10 : Nat) : Int) else if i = 3 then .int .u8 ((48 + n / 100 % 10 : Nat) : Int) else if i = 4 then .int .u8 ((48 + n / 10 % 10 : Nat) : Int) else if i = 5 then .int .u8 ((48 + n % 10 : Nat) : Int) else f i := by
  unfold f10
  by_cases h1 : i = 1
  · subst h1; rw [if_pos (by omega), if_pos rfl]
  · rw [if_neg h1]
    by_cases h2 : i = 2
    · subst h2; rw [if_pos (by omega), if_pos rfl]
    · rw [if_neg h2]
      by_cases h3 : i = 3
      · subst h3; rw [if_pos (by omega), if_pos rfl]
      · rw [if_neg h3]
        by_cases h4 : i = 4
        · subst h4; rw [if_pos (by omega), if_pos rfl]
        · rw [if_neg h4]
          by_cases h5 : i = 5
          · subst h5; rw [if_pos (by omega), if_pos rfl]; simp
          · rw [if_neg h5, if_neg (by omega)]
set_option maxRecDepth 100000 in
set_option maxHeartbeats 8000000 in
theorem f10_4 (T : TypeId) (b N c n : Nat) (f : Nat → Value) (h1 : 1000 ≤ n) (h2 : n < 10000) (hN : 6 ≤ N) (w : World) (hrow : w.rowIs b T N f) :
    Calls Tryd.prog 29 #[.slice (some ⟨b, 1, none⟩) 4 c, .int .u64 n] w (F10 T b N n 4 f w) := by
  have g0 : (n : Int) % 4294967296 = (n : Int) := by omega
  obtain ⟨m, hm⟩ : ∃ m, n % 10000 = m := ⟨_, rfl⟩
  obtain ⟨p, hp⟩ : ∃ p, n / 10000 = p := ⟨_, rfl⟩
  obtain ⟨q, hq⟩ : ∃ q, m % 100 = q := ⟨_, rfl⟩
  obtain ⟨t, ht⟩ : ∃ t, m / 100 = t := ⟨_, rfl⟩
  have g1 : (n : Int) % 10000 = (m : Int) := by omega
  have g2 : (n : Int) / 10000 = (p : Int) := by omega
  have g1' : (m : Int) % 100 = (q : Int) := by omega
  have g2' : (m : Int) / 100 = (t : Int) := by omega
  have q1 : q < 100 := by omega
  have t1 : t < 100 := by omega
  have p1 : p < 10 := by omega
  have g3 : (0 : Int) ≤ (q : Int) * 2 := by omega
  have g4 : (q : Int) * 2 < 200 := by omega
  have g5 : (0 : Int) ≤ (q : Int) * 2 + 1 := by omega
  have g6 : (q : Int) * 2 + 1 < 200 := by omega
  have g7 : IntKind.u32.wrap ((q : Int) * 2 + 1) = (q : Int) * 2 + 1 := by rw [IntKind.wrap_u32]; omega
  have g8 : ((q : Int) * 2 + 1).toNat = q * 2 + 1 := by omega
  have g9 : ((q : Int) * 2).toNat = q * 2 := by omega
  have k3 : (0 : Int) ≤ (t : Int) * 2 := by omega
  have k4 : (t : Int) * 2 < 200 := by omega
  have k5 : (0 : Int) ≤ (t : Int) * 2 + 1 := by omega
  have k6 : (t : Int) * 2 + 1 < 200 := by omega
  have k7 : IntKind.u32.wrap ((t : Int) * 2 + 1) = (t : Int) * 2 + 1 := by rw [IntKind.wrap_u32]; omega
  have k8 : ((t : Int) * 2 + 1).toNat = t * 2 + 1 := by omega
  have k9 : ((t : Int) * 2).toNat = t * 2 := by omega
  have z0 : IntKind.i64.wrap 0 = 0 := by decide
  have z1 : IntKind.i64.wrap 1 = 1 := by decide
  have z2 : IntKind.i64.wrap 2 = 2 := by decide
  have z3 : IntKind.i64.wrap 3 = 3 := by decide
  have z4 : IntKind.i64.wrap 4 = 4 := by decide
  have z5 : IntKind.i64.wrap 5 = 5 := by decide
  have hp0 : p = 0 := by omega
  subst hp0
  have c1 := hrow.cell (i := 1) (by omega)
  have e1 := hrow.frozen 1
  have c2 := hrow.cell (i := 2) (by omega)
  have e2 := hrow.frozen 2
  have c3 := hrow.cell (i := 3) (by omega)
  have e3 := hrow.frozen 3
  have c4 := hrow.cell (i := 4) (by omega)
  have e4 := hrow.frozen 4
  have hl := hrow.lt
  have HR := Lib.hid hrow
  have HP := Lib.hid hp
  have HQ := Lib.hid hq
  have HT := Lib.hid ht
  have HM := Lib.hid hm
  clear hrow hp hq ht hm
  go_enter Tryd.func29, Tryd.ntmps29
  go_wp2
  go_loopw [1, 4] (fun u k wr => u = .int .u64 n ∧ k = .int .i64 4 ∧ w = wr) (fun _ _ _ => 0)
  case atStart => exact ⟨rfl, rfl, rfl⟩
  case round =>
    obtain ⟨rfl, rfl, rfl⟩ := hrel
    go_wp2
    go_region_law fail
    all_goals go_wp2
    all_goals go_region_law fail
    all_goals
      go_wp2
      go_end0
      rw [sm_hi (hk := q1) (hT := ?hTa), sm_lo (hk := q1) (hT := ?hTb), sm_hi (hk := t1) (hT := ?hTc), sm_lo (hk := t1) (hT := ?hTd)]
      case hTa => decide +kernel
      case hTb => decide +kernel
      case hTc => decide +kernel
      case hTd => decide +kernel
      refine ⟨⟨_, rfl⟩, ((((HR.out.set 4 _).set 3 _).set 2 _).set 1 _).drew.drew.congr (fun i hi => ?_), (((((Below.refl b w).setCell (p := ⟨b, 4, none⟩) (Nat.le_refl _) _).setCell (p := ⟨b, 3, none⟩) (Nat.le_refl _) _).setCell (p := ⟨b, 2, none⟩) (Nat.le_refl _) _).setCell (p := ⟨b, 1, none⟩) (Nat.le_refl _) _).drew.drew, by simp [World.setCell, World.drew]⟩
      have hp := HP.out
      have hq := HQ.out
      have ht := HT.out
      have hm := HM.out
      rw [f10_4e]
      rw [show 48 + q / 10 = 48 + n / 10 % 10 by omega, show 48 + q % 10 = 48 + n % 10 by omega, show 48 + t / 10 = 48 + n / 1000 % 10 by omega, show 48 + t % 10 = 48 + n / 100 % 10 by omega]
set_option maxRecDepth 100000 in
set_option maxHeartbeats 8000000 in
theorem f10_5 (T : TypeId) (b N c n : Nat) (f : Nat → Value) (h1 : 10000 ≤ n) (h2 : n < 100000) (hN : 6 ≤ N) (w : World) (hrow : w.rowIs b T N f) :
    Calls Tryd.prog 29 #[.slice (some ⟨b, 1, none⟩) 5 c, .int .u64 n] w (F10 T b N n 5 f w) := by
  have g0 : (n : Int) % 4294967296 = (n : Int) := by omega
  obtain ⟨m, hm⟩ : ∃ m, n % 10000 = m := ⟨_, rfl⟩
  obtain ⟨p, hp⟩ : ∃ p, n / 10000 = p := ⟨_, rfl⟩
  obtain ⟨q, hq⟩ : ∃ q, m % 100 = q := ⟨_, rfl⟩
  obtain ⟨t, ht⟩ : ∃ t, m / 100 = t := ⟨_, rfl⟩
  have g1 : (n : Int) % 10000 = (m : Int) := by omega
  have g2 : (n : Int) / 10000 = (p : Int) := by omega
  have g1' : (m : Int) % 100 = (q : Int) := by omega
  have g2' : (m : Int) / 100 = (t : Int) := by omega
  have q1 : q < 100 := by omega
  have t1 : t < 100 := by omega
  have p1 : p < 10 := by omega
  have g3 : (0 : Int) ≤ (q : Int) * 2 := by omega
  have g4 : (q : Int) * 2 < 200 := by omega
  have g5 : (0 : Int) ≤ (q : Int) * 2 + 1 := by omega
  have g6 : (q : Int) * 2 + 1 < 200 := by omega
  have g7 : IntKind.u32.wrap ((q : Int) * 2 + 1) = (q : Int) * 2 + 1 := by rw [IntKind.wrap_u32]; omega
  have g8 : ((q : Int) * 2 + 1).toNat = q * 2 + 1 := by omega
  have g9 : ((q : Int) * 2).toNat = q * 2 := by omega
  have k3 : (0 : Int) ≤ (t : Int) * 2 := by omega
  have k4 : (t : Int) * 2 < 200 := by omega
  have k5 : (0 : Int) ≤ (t : Int) * 2 + 1 := by omega
  have k6 : (t : Int) * 2 + 1 < 200 := by omega
  have k7 : IntKind.u32.wrap ((t : Int) * 2 + 1) = (t : Int) * 2 + 1 := by rw [IntKind.wrap_u32]; omega
  have k8 : ((t : Int) * 2 + 1).toNat = t * 2 + 1 := by omega
  have k9 : ((t : Int) * 2).toNat = t * 2 := by omega
  have z0 : IntKind.i64.wrap 0 = 0 := by decide
  have z1 : IntKind.i64.wrap 1 = 1 := by decide
  have z2 : IntKind.i64.wrap 2 = 2 := by decide
  have z3 : IntKind.i64.wrap 3 = 3 := by decide
  have z4 : IntKind.i64.wrap 4 = 4 := by decide
  have z5 : IntKind.i64.wrap 5 = 5 := by decide
  have c1 := hrow.cell (i := 1) (by omega)
  have e1 := hrow.frozen 1
  have c2 := hrow.cell (i := 2) (by omega)
  have e2 := hrow.frozen 2
  have c3 := hrow.cell (i := 3) (by omega)
  have e3 := hrow.frozen 3
  have c4 := hrow.cell (i := 4) (by omega)
  have e4 := hrow.frozen 4
  have c5 := hrow.cell (i := 5) (by omega)
  have e5 := hrow.frozen 5
  have hl := hrow.lt
  have HR := Lib.hid hrow
  have HP := Lib.hid hp
  have HQ := Lib.hid hq
  have HT := Lib.hid ht
  have HM := Lib.hid hm
  clear hrow hp hq ht hm
  go_enter Tryd.func29, Tryd.ntmps29
  go_wp2
  go_loopw [1, 4] (fun u k wr => u = .int .u64 n ∧ k = .int .i64 5 ∧ w = wr) (fun _ _ _ => 0)
  case atStart => exact ⟨rfl, rfl, rfl⟩
  case round =>
    obtain ⟨rfl, rfl, rfl⟩ := hrel
    go_wp2
    go_region_law fail
    all_goals go_wp2
    all_goals go_region_law fail
    all_goals
      go_wp2
      go_end0
      rw [sm_hi (hk := q1) (hT := ?hTa), sm_lo (hk := q1) (hT := ?hTb), sm_hi (hk := t1) (hT := ?hTc), sm_lo (hk := t1) (hT := ?hTd)]
      case hTa => decide +kernel
      case hTb => decide +kernel
      case hTc => decide +kernel
      case hTd => decide +kernel
      refine ⟨⟨_, rfl⟩, (((((HR.out.set 5 _).set 4 _).set 3 _).set 2 _).set 1 _).drew.drew.congr (fun i hi => ?_), ((((((Below.refl b w).setCell (p := ⟨b, 5, none⟩) (Nat.le_refl _) _).setCell (p := ⟨b, 4, none⟩) (Nat.le_refl _) _).setCell (p := ⟨b, 3, none⟩) (Nat.le_refl _) _).setCell (p := ⟨b, 2, none⟩) (Nat.le_refl _) _).setCell (p := ⟨b, 1, none⟩) (Nat.le_refl _) _).drew.drew, by simp [World.setCell, World.drew]⟩
      have hp := HP.out
      have hq := HQ.out
      have ht := HT.out
      have hm := HM.out
      rw [f10_5e]
      rw [show 48 + (p : Int) = ((48 + n / 10000 % 10 : Nat) : Int) by omega, show 48 + q / 10 = 48 + n / 10 % 10 by omega, show 48 + q % 10 = 48 + n % 10 by omega, show 48 + t / 10 = 48 + n / 1000 % 10 by omega, show 48 + t % 10 = 48 + n / 100 % 10 by omega]
end Go.Proofs.YtnkimeeofmbhkaaDoor
