/- The law of KeysIn. No condition. -/
import Derived.Test.YteecbhmgogndaaaKeysB
import Derived.Test.YteecbhmgogndaaaPls
import Derived.Deep.RegionHeld3
namespace Go.Proofs.Yteecbhmgogndaaa
open Go.RowKit
set_option linter.unusedSimpArgs false

/-- The string at a place of a list. -/
def strAt (xs : List Value) (j : Nat) : ByteArray := match xs[j]? with
  | some (.string s) => s
  | _ => ⟨#[]⟩
def allStr (xs : List Value) : Prop := ∀ j, j < xs.length → ∃ s, xs[j]? = some (.string s)
theorem allStr.at {xs : List Value} (h : allStr xs) {j : Nat} (hj : j < xs.length) : xs[j]? = some (.string (strAt xs j)) := by
  obtain ⟨s, e⟩ := h j hj
  unfold strAt
  rw [e]
theorem add0 (g j : Nat) : (⟨g, 0, none⟩ : Addr).add j = ⟨g, j, none⟩ := by by_cases h : j = 0 <;> simp [Addr.add, h]
/-- A built row of strings, as an argument and as a row that may be written. -/
theorem own_str {w : World} {B : Nat} {v : Value} {xs : List Value} (h : w.ownsRow B 9 1 v xs.length xs) (hx : allStr xs) :
    ∃ A cap f, v = .slice A xs.length cap ∧ StrArg w A xs.length (strAt xs) ∧ StrRow w B v xs.length f := by
  rcases own_strRow h with h | ⟨g, cap, f, rfl, h1, h2, h3, h4⟩
  · rcases h with ⟨rfl, e⟩ | ⟨g, cap, rfl, h1, h2, h3⟩
    · refine ⟨none, 0, fun _ => undef, by rw [e], fun j hj => absurd hj (by omega), .inl ⟨rfl, e⟩⟩
    · exact ⟨some ⟨g, 0, none⟩, cap, _, rfl, fun j hj => ⟨_, rfl, h3.lt, by
        have := h3.cell (i := j) (by omega)
        rw [hx.at hj] at this
        rw [add0]; exact this⟩, .inr ⟨g, cap, rfl, h1, h2, h3⟩⟩
  · exact ⟨some ⟨g, 0, none⟩, cap, f, rfl, fun j hj => ⟨_, rfl, h3.lt, by
      have := h3.cell (i := j) (by omega)
      have e := h4 j hj
      rw [hx.at hj] at e
      rw [← Option.some.inj e] at this
      rw [add0]; exact this⟩, .inr ⟨g, cap, rfl, h1, h2, h3⟩⟩
theorem kAll_str (X Y X' Y' : Nat) (z : Int) : allStr (kAll X Y X' Y' z) := by
  intro j hj
  unfold kAll at hj ⊢
  split at hj
  · rename_i h
    rw [if_pos h]
    unfold kL at hj ⊢
    rw [List.length_map, List.length_range] at hj
    exact ⟨_, by rw [List.getElem?_map, List.getElem?_range hj]; rfl⟩
  · simp at hj
theorem kAll_len (X Y X' Y' : Nat) (z : Int) : (kAll X Y X' Y' z).length ≤ 64 := by
  unfold kAll
  split
  · rename_i h
    unfold kOk at h
    simp only [Bool.and_eq_true, decide_eq_true_eq] at h
    rw [kL_len]
    exact h.2.2
  · simp
theorem keys_both (x y x' y' : Nat) (z : Int) : ∃ xs ok, allStr xs ∧ xs.length ≤ 64 ∧
    (∀ w, Calls Try.prog 14 #[.agg #[.float .f32 x, .float .f32 y], .agg #[.float .f32 x', .float .f32 y'], .int .i64 z] w fun e w' => ∃ v, e = .returned (.tuple #[v, .bool ok]) ∧ w'.ownsRow w.heap.size 9 1 v xs.length xs ∧ Below w.heap.size w w') ∧
    (∀ w, Calls Try.prog 15 #[.agg #[.float .f32 x, .float .f32 y], .agg #[.float .f32 x', .float .f32 y'], .int .i64 z] w fun e w' => ∃ v, e = .returned (.tuple #[v, .bool ok]) ∧ w'.ownsRow w.heap.size 9 1 v xs.length xs ∧ Below w.heap.size w w') :=
  ⟨_, _, kAll_str _ _ _ _ _, kAll_len _ _ _ _ _, fun w => sKeys_c x y x' y' _ _ _ _ z rfl rfl rfl rfl w, fun w => iKeys_c x y x' y' _ _ _ _ z rfl rfl rfl rfl w⟩
/-- What the law's two places read as, and that nothing below has turned. -/
def K4 (v : World) (g x y x' y' : Nat) (w : World) : Prop := w.cell? ⟨g, 0, none⟩ = some (.float .f32 x) ∧ w.cell? ⟨g, 1, none⟩ = some (.float .f32 y) ∧ w.cell? ⟨g + 1, 0, none⟩ = some (.float .f32 x') ∧ w.cell? ⟨g + 1, 1, none⟩ = some (.float .f32 y') ∧ g + 1 < w.heap.size ∧ Below v.heap.size v w
theorem K4.to {v w w' : World} {lo g x y x' y' : Nat} (h : K4 v g x y x' y' w) (hb : Below lo w w') (hl : g + 1 < lo) (hv : v.heap.size ≤ lo) : K4 v g x y x' y' w' :=
  ⟨(hb.cell (p := ⟨g, 0, none⟩) (by show g < lo; omega)).trans h.1, (hb.cell (p := ⟨g, 1, none⟩) (by show g < lo; omega)).trans h.2.1, (hb.cell (p := ⟨g + 1, 0, none⟩) hl).trans h.2.2.1, (hb.cell (p := ⟨g + 1, 1, none⟩) hl).trans h.2.2.2.1, Nat.lt_of_lt_of_le h.2.2.2.2.1 hb.size, h.2.2.2.2.2.trans (hb.mono hv)⟩
theorem K4.call {v w w' : World} {g x y x' y' : Nat} (h : K4 v g x y x' y' w) (hb : Below w.heap.size w w') : K4 v g x y x' y' w' := h.to hb h.2.2.2.2.1 h.2.2.2.2.2.size
theorem K4.base {v w : World} {g x y x' y' : Nat} (h : K4 v g x y x' y' w) : K4 w g x y x' y' w := ⟨h.1, h.2.1, h.2.2.1, h.2.2.2.1, h.2.2.2.2.1, Below.refl _ _⟩
set_option maxRecDepth 100000 in
set_option maxHeartbeats 4000000 in
theorem lawKeysIn (x y x' y' : Nat) (z : Int) (w : World) : Calls Try.prog 5 #[.agg #[.float .f32 x, .float .f32 y], .agg #[.float .f32 x', .float .f32 y'], .int .i64 z] w fun e w' => e = .returned (.bool true) ∧ Below w.heap.size w w' := by
  obtain ⟨xs, ok, hxs, hlen, hs, hi⟩ := keys_both x y x' y' z
  have HS := Lib.hid hs
  have HI := Lib.hid hi
  clear hs hi
  go_enter Try.func5, Try.ntmps5
  go_upto_region 1 with fail
  go_region_held3 (fun w' => w'.cell? ⟨w.heap.size, 0, none⟩ = some (.float .f32 x) ∧ w'.cell? ⟨w.heap.size, 1, none⟩ = some (.float .f32 y) ∧ w'.cell? ⟨w.heap.size + 1, 0, none⟩ = some (.float .f32 x') ∧ w'.cell? ⟨w.heap.size + 1, 1, none⟩ = some (.float .f32 y') ∧ w.heap.size + 1 < w'.heap.size ∧ Below (w).heap.size w w') ((first | (exact K4.call (by assumption) (by assumption)) | (exact ⟨by simp, by simp, by simp, by simp, by simp, by (with_reducible repeat (first | exact Below.refl _ _ | apply below_alloc | apply below_dN | apply below_d | refine below_setCell ?_ (by dsimp only; omega) | refine below_call (by assumption) ?_))⟩))) (first | (go_at_call 12; (with_reducible refine (toPlace_any _ _ _).mono ?_); rintro e wb ⟨rfl, hbw_wb⟩) | (go_at_call 14; (with_reducible refine (HS.out _).mono ?_); rintro e w1 ⟨v1, rfl, hown1, hb1⟩))
  have K1 : K4 w w.heap.size x y x' y' w1 := by assumption
  obtain ⟨A1, p1, f1, rfl, sA1, -⟩ := own_str hown1 hxs
  have k0 := (K1).1; have k1 := (K1).2.1; have k2 := (K1).2.2.1; have k3 := (K1).2.2.2.1; have k4 := (K1).2.2.2.2.1
  clear hown1
  go_upto_region 2 with fail
  go_region_held3 (fun w' => w'.cell? ⟨w.heap.size, 0, none⟩ = some (.float .f32 x) ∧ w'.cell? ⟨w.heap.size, 1, none⟩ = some (.float .f32 y) ∧ w'.cell? ⟨w.heap.size + 1, 0, none⟩ = some (.float .f32 x') ∧ w'.cell? ⟨w.heap.size + 1, 1, none⟩ = some (.float .f32 y') ∧ w.heap.size + 1 < w'.heap.size ∧ Below (w1).heap.size w1 w') ((first | (exact K4.call (by assumption) (by assumption)) | (exact ⟨by simp [*], by simp [*], by simp [*], by simp [*], by simp; omega, by (with_reducible repeat (first | exact Below.refl _ _ | apply below_alloc | apply below_dN | apply below_d | refine below_setCell ?_ (by dsimp only; omega) | refine below_call (by assumption) ?_))⟩))) (first | (go_at_call 12; (with_reducible refine (toPlace_any _ _ _).mono ?_); rintro e wc ⟨rfl, hbw_wc⟩) | (go_at_call 15; (with_reducible refine (HI.out _).mono ?_); rintro e w2 ⟨v2, rfl, hown2, hb2⟩; have Kc : K4 w1 w.heap.size x y x' y' wc := by assumption))
  obtain ⟨A2, p2, f2, hv2, sA2, sR2⟩ := own_str hown2 hxs
  clear hown2
  have K2 := Kc.call hb2
  have B1 : Below w.heap.size w w1 := K1.2.2.2.2.2
  have Bc : Below w1.heap.size w1 wc := Kc.2.2.2.2.2
  have sB := sA1.below Bc
  have hl2 := hb2.size
  have e2 := eqStringS_c A2 A1 xs.length p2 p1 (strAt xs) w2 (by omega) sA2 (sB.below hb2)
  rw [← hv2] at e2
  have E2 := Lib.hid e2
  have SB := Lib.hid sB
  have SR2 := Lib.hid sR2
  clear e2 sB sA2 sR2 sA1
  clear hv2
  generalize v2 = V at *
  obtain ⟨n, hnx⟩ : ∃ n, xs.length = n := ⟨_, rfl⟩
  rw [hnx] at hlen HS HI SB E2 SR2
  have HS := HS
  go_wp2_with ((go_at_call 16; (with_reducible refine (E2.out).mono ?_); rintro e w3 ⟨⟨_, rfl, rfl⟩, hb3⟩))
  have hl3 := hb3.size
  have hM := markStringS_c wc.heap.size V n 1 f2 w3 (by omega) (by omega) (by omega) (SR2.out.below hb3)
  rw [show ((1 : Nat) : Int) = 1 from rfl] at hM
  (go_at_call 17; (with_reducible refine hM.mono ?_); rintro e w4 ⟨rfl, sR4, hb4⟩)
  clear hM
  have hl4 := hb4.size
  have SR4 := Lib.hid sR4
  have hH := heldStringS_c wc.heap.size V n 1 f2 w4 (by omega) (by omega) sR4
  rw [show ((1 : Nat) : Int) = 1 from rfl] at hH
  have HH := Lib.hid hH
  clear sR4 hH
  go_wp2_with ((go_at_call 18; (with_reducible refine (HH.out).mono ?_); rintro e w5 ⟨⟨_, rfl, rfl⟩, hb5⟩))
  have Bc5 : Below wc.heap.size wc w5 := ((hb2.trans (hb3.mono (by omega))).trans hb4).trans (hb5.mono (by omega))
  have K5 := (Kc.to Bc5 Kc.2.2.2.2.1 Bc.size).base
  clear k0 k1 k2 k3 k4
  have k0 := (K5).1; have k1 := (K5).2.1; have k2 := (K5).2.2.1; have k3 := (K5).2.2.2.1; have k4 := (K5).2.2.2.2.1
  go_region_held3 (fun w' => w'.cell? ⟨w.heap.size, 0, none⟩ = some (.float .f32 x) ∧ w'.cell? ⟨w.heap.size, 1, none⟩ = some (.float .f32 y) ∧ w'.cell? ⟨w.heap.size + 1, 0, none⟩ = some (.float .f32 x') ∧ w'.cell? ⟨w.heap.size + 1, 1, none⟩ = some (.float .f32 y') ∧ w.heap.size + 1 < w'.heap.size ∧ Below (w5).heap.size w5 w') ((first | (exact K4.call (by assumption) (by assumption)) | (exact ⟨by simp [*], by simp [*], by simp [*], by simp [*], by simp; omega, by (with_reducible repeat (first | exact Below.refl _ _ | apply below_alloc | apply below_dN | apply below_d | refine below_setCell ?_ (by dsimp only; omega) | refine below_call (by assumption) ?_))⟩))) (first | (go_at_call 12; (with_reducible refine (toPlace_any _ _ _).mono ?_); rintro e wd ⟨rfl, hbw_wd⟩) | (go_at_call 15; (with_reducible refine (HI.out _).mono ?_); rintro e w6 ⟨v3, rfl, hown3, hb6⟩; have Kd : K4 w5 w.heap.size x y x' y' wd := by assumption))
  have Bd : Below w5.heap.size w5 wd := Kd.2.2.2.2.2
  have hl6 := hb6.size
  have hl5 := hb5.size
  have hld := Bd.size
  obtain ⟨A3, p3, f3, hv3, sA3, -⟩ := own_str (xs := xs) (by rw [hnx]; exact hown3) hxs
  rw [hnx] at hv3 sA3
  clear hown3
  have e3 := eqStringS_c A3 A1 n p3 p1 (strAt xs) w6 (by omega) sA3 (((SB.out.below Bc5).below Bd).below hb6)
  rw [← hv3] at e3
  have E3 := Lib.hid e3
  have sR6 := ((SR4.out.below hb5).below Bd).below hb6
  have SR6 := Lib.hid sR6
  clear e3 sA3 sR6 hv3
  go_wp2_with ((go_at_call 16; (with_reducible refine (E3.out).mono ?_); rintro e w7 ⟨⟨_, rfl, rfl⟩, hb7⟩))
  have hl7 := hb7.size
  have hH := heldStringS_c wc.heap.size V n 1 f2 w7 (by omega) (by omega) (SR6.out.below hb7)
  rw [show ((1 : Nat) : Int) = 1 from rfl] at hH
  have HH2 := Lib.hid hH
  clear hH
  go_wp2_with ((go_at_call 18; (with_reducible refine (HH2.out).mono ?_); rintro e w8 ⟨⟨_, rfl, rfl⟩, hb8⟩))
  go_ret
  have s1 := B1.size
  have s2 := Bc.size
  exact ⟨rfl, (((((B1.trans (Bc.mono (by omega))).trans (Bc5.mono (by omega))).trans (Bd.mono (by omega))).trans (hb6.mono (by omega))).trans (hb7.mono (by omega))).trans (hb8.mono (by omega))⟩
end Go.Proofs.Yteecbhmgogndaaa
