/- Contract of slices.Reverse for whole numbers. No condition. -/
import Derived.Test.YtpmeccjfjjklkaaRO
import Derived.RegionTactic
namespace Go.Proofs.Ytpmeccjfjjklkaa
open Go.RowKit
set_option linter.unusedSimpArgs false
/-- A row that is turned round up to i from both ends. -/
def rvi (n i : Nat) (d : Nat → Int) (j : Nat) : Int := if j < i ∨ n - i ≤ j then d (n - 1 - j) else d j
set_option maxRecDepth 100000 in
set_option maxHeartbeats 2000000 in
theorem rev_c (lo g n cap : Nat) (d : Nat → Int) (w : World) (hg : lo ≤ g) (hn : n ≤ 1048576) (hD : Dr w g n cap d) :
    Calls Try.prog 69 #[.slice (some ⟨g, 0, none⟩) n cap] w fun e w' => e = .returned (.tuple #[]) ∧ Dr w' g n cap (fun j => d (n - 1 - j)) ∧ Below lo w w' := by
  go_enter Try.func69, Try.ntmps69
  go_wp2
  go_loopw [2, 3] (fun iv jv wr => ∃ i : Nat, i ≤ n ∧ iv = .int .i64 i ∧ jv = .int .i64 ((n : Int) - 1 - (i : Int)) ∧ 2 * i ≤ n + 1 ∧ Dr wr g n cap (rvi n i d) ∧ Below lo w wr) (fun iv _ _ => n - (intOf iv).toNat)
  case atStart => exact ⟨0, by omega, rfl, by simp, by omega, hD.congr (fun j hj => by unfold rvi; rw [if_neg (by omega)]), Below.refl _ _⟩
  case round =>
    obtain ⟨i, hi, rfl, hjv, h2, hr, hB⟩ := hrel
    by_cases hlt : (i : Int) < (n : Int) - 1 - (i : Int)
    · obtain ⟨jn, hjn⟩ : ∃ jn : Nat, n - 1 - i = jn := ⟨_, rfl⟩
      have ejn : (n : Int) - 1 - (i : Int) = (jn : Int) := by omega
      rw [ejn] at hjv hlt
      obtain rfl := hjv
      have c0 := hr.cell (j := i) (by omega)
      have c1 := hr.cell (j := jn) (by omega)
      have f0 := hr.fr i
      have f1 := hr.fr jn
      have hl := hr.lt
      rw [show rvi n i d i = d i by unfold rvi; rw [if_neg (by omega)]] at c0
      rw [show rvi n i d jn = d jn by unfold rvi; rw [if_neg (by omega)]] at c1
      have HR := Lib.hid hr
      have HB := Lib.hid hB
      have hcl := hr.le
      clear hr hB
      generalize ev1 : d i = x at c0
      generalize ev2 : d jn = y at c1
      go_wp2_with fail
      go_region
      go_wp2
      go_roundw
      case rel => exact ⟨i + 1, by omega, by go_num, by congr 1; omega, by omega, ((HR.out.drew.set _ _).set _ _).congr (fun j hj => by
        unfold rvi
        by_cases e1 : j = jn
        · rw [if_pos e1, if_pos (by omega), ← ev1]; congr 1; omega
        · rw [if_neg e1]
          by_cases e2 : j = i
          · rw [if_pos e2, if_pos (by omega), ← ev2]; congr 1; omega
          · rw [if_neg e2]
            by_cases e3 : j < i ∨ n - i ≤ j
            · rw [if_pos e3, if_pos (by omega)]
            · rw [if_neg e3, if_neg (by omega)]), ((HB.out.setCell (p := ⟨g, i, none⟩) hg _).setCell (p := ⟨g, jn, none⟩) hg _).drew⟩
      case measure => first | (simp [intOf]; done) | (simp [intOf]; omega)
    · have HR := Lib.hid hr
      have HB := Lib.hid hB
      clear hr hB
      obtain rfl := hjv
      go_wp2
      go_end0
      refine ⟨rfl, HR.out.congr (fun j hj => ?_), HB.out⟩
      unfold rvi
      by_cases e3 : j < i ∨ n - i ≤ j
      · rw [if_pos e3]
      · rw [if_neg e3]; congr 1; omega
end Go.Proofs.Ytpmeccjfjjklkaa
