/- laws.FnExactRoutesShared returns true for every input. No condition. -/
import Derived.Test.YtpmeccjfjjklkaaOpenN
import Derived.Test.YtpmeccjfjjklkaaLSS
namespace Go.Proofs.Ytpmeccjfjjklkaa
open Go.ChangeShapes Go.WideShapes Go.ChangeAt Go.RowKit Go.Joins Go.Deep
section
variable {H : Type} {enc : TypeId × Value → H} {w : World} {base : Nat} {spare : Nat → Bool} {held : Bool}
set_option maxRecDepth 100000 in
theorem open_ints {r : Reach} {b0 : Nat} {v : Value} {d : DataW H} {p : List MemPlace} (hv : Value.okWide Try.prog w r b0 47 v) (h : DataW.Trod enc Try.prog w base spare held 47 v d p) :
    ∃ A n cap x, v = .slice A n cap ∧ n ≤ 9223372036854775807 ∧ IntArg w A n x := by
  obtain ⟨A, n, cap, rfl⟩ := okWide_slice Try.underlying47 hv
  obtain ⟨fuel, hf⟩ := h
  rcases open_slice1 Try.underlying47 cellsOfI64' hf with ⟨h0, -⟩ | ⟨a, len, c', m, k, V, D, Pl, h0, -, hlc, hcm, hm, -, hcells⟩
  · simp [Value.cells] at h0
    obtain ⟨rfl, rfl, rfl⟩ := h0
    exact ⟨none, 0, 0, fun _ => 0, rfl, by omega, fun j hj => absurd hj (by omega)⟩
  · simp [Value.cells] at h0
    obtain ⟨rfl, rfl, rfl⟩ := h0
    have hmn : n ≤ m := by rw [hm]; split <;> omega
    refine ⟨some a, n, cap, fun j => numOf (V j), rfl, by unfold maxLen at hcm; omega, fun j hj => ?_⟩
    obtain ⟨g0, t0⟩ := hcells j (by omega)
    obtain ⟨k0, e0, -, -⟩ := DataW.trod_int Try.underlying2 t0
    simp at e0
    refine ⟨a, rfl, ?_, by simp only [g0, e0, numOf]⟩
    have := block_lt_of_cell g0
    rwa [block_add] at this
end
namespace lawFnExactRoutesShared
set_option maxRecDepth 100000 in
set_option linter.unusedVariables false in
theorem lifted (os : Os) (started : os.Started) (H : Type) (enc : TypeId × Value → H) :
    ReturnsInHanded {} Try.checked os 7 .any (Rows.fnExactRoutesSharedSpec.pre6 enc Try.prog Try.f7 Rows.fnExactRoutesSharedRow.domain false) (Rows.fnExactRoutesSharedSpec.post enc Try.prog Try.f7 false true false false) := by
  refine returnsInHanded_of_change_sized (C := Try.checked) own started (by kernel_rfl) Try.func7
    (ChangeSpec.witness6 (enc := enc) (C := Try.checked) false ⟨#[], #[.agg #[.slice none 0 0, .slice none 0 0], .slice none 0 0, .int .i64 0], []⟩ 8 (by kernel_rfl) (by kernel_rfl) (by kernel_rfl) (by kernel_rfl)) ?_
  intro W base args ds gs before hval0 hW hcnd hsz0 _
  have hsz : (DataW.weightsEach Try.prog (Try.f7.params.toList ++ Rows.fnExactRoutesSharedSpec.plain.varTypes Try.prog) (ds ++ gs)).all (· ≤ reachBytes) = true := hsz0
  have hval : ∀ (j : Nat) t v, Try.f7.params[j]? = some t → args[j]? = some v → Value.okWide Try.prog W .any base t v := hval0
  have hW' := hW
  obtain ⟨p, q, hA0, hV, rfl, hfz, hnd⟩ := hW
  have hA : DataW.TrodAll enc Try.prog W 0 (fun _ => true) true Try.f7.params.toList args.toList ds p := hA0
  rw [Try.params7] at hA hval hsz
  have hAk := hA
  have hlt : ∀ x ∈ p, x.block < W.heap.size := fun x hx => hW'.lt x (List.mem_append_left _ hx)
  obtain ⟨v0, vs0, d0, ds0, p0, q0, hargs, rfl, rfl, h0, r0⟩ := trodAll_cons hA
  obtain ⟨v1, vs1, d1, ds1, p1, q1, rfl, rfl, rfl, h1, r1⟩ := trodAll_cons r0
  obtain ⟨v2, vs2, d2, ds2, p2, q2, rfl, rfl, rfl, h2, r2⟩ := trodAll_cons r1
  obtain ⟨rfl, rfl, rfl⟩ := trodAll_nil r2
  obtain rfl : args = #[v0, v1, v2] := by cases args; simp_all
  obtain ⟨rfl, rfl⟩ := trodVars_none hV
  obtain ⟨A, n, cap, x, y, R, m, cap', a, b, l, rfl, hn, hm, hPA, hRA, -⟩ := open_net (hval 0 _ _ rfl rfl) h0
  obtain ⟨B, k, capB, dd, rfl, hk, hBA⟩ := open_ints (hval 1 _ _ rfl rfl) h1
  obtain ⟨wk, rfl⟩ := okWide_int Try.underlying2 (hval 2 _ _ rfl rfl)
  clear hA0 hval0 hsz0
  refine (lawRoutesShared A R B n m cap cap' k capB x y a b l dd wk W hn hm hk hPA hRA hBA).mono fun e W' ⟨he, bel⟩ => ?_
  subst he
  exact ⟨_, rfl, _, _, _, [], _, [], hW', trodAll_mk1 (shut_bool Try.underlying4 _), trodAll_stays laidOut bel (by kernel_rfl) hAk hlt, rfl, bel.frame _, fun h => by cases h⟩
theorem proved : Rows.FnExactRoutesSharedSaid :=
  OpenClaim.holds_of_wide 7 Try.f7 rfl rfl rfl rfl rfl rfl rfl ⟨rfl, rfl, rfl, rfl, rfl⟩ rfl rfl rfl rfl rfl (by kernel_rfl) Try.func7 (by kernel_rfl)
    (of_decide_eq_true (by kernel_rfl)) (by unfold Func.isWrapper; first | (rw [if_pos (by decide +kernel)]; kernel_rfl) | (rw [if_neg (by decide +kernel)]; exact ⟨rfl, rfl⟩))
    (fun os started H enc _ => lifted os started H enc)
#print axioms proved
end lawFnExactRoutesShared

theorem fnExactRoutesShared_holds : Rows.FnExactRoutesSharedSaid := lawFnExactRoutesShared.proved
end Go.Proofs.Ytpmeccjfjjklkaa
