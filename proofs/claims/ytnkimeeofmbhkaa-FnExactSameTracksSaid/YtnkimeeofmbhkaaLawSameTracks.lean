/- laws.FnExactSameTracks returns true for every input. No condition. -/
import Derived.Test.YtnkimeeofmbhkaaRow
import Derived.Test.YtnkimeeofmbhkaaTri
namespace Go.Proofs.Ytnkimeeofmbhkaa
open Go.ChangeShapes Go.WideShapes Go.ChangeAt Go.RowKit Go.Joins Go.Deep
section
variable {H : Type} {enc : TypeId × Value → H} {w : World} {base : Nat} {spare : Nat → Bool} {held : Bool}
def bitsOf : Value → Nat
  | .float _ b => b
  | _ => 0
theorem cellsOfPlace' : Try.prog.cellsOf 68 = 2 := by kernel_rfl
theorem cellsOfTrack' : Try.prog.cellsOf 72 = 2 := by kernel_rfl
theorem cellsOfF32' : Try.prog.cellsOf 22 = 1 := by kernel_rfl
theorem cellsOfStr' : Try.prog.cellsOf 9 = 1 := by kernel_rfl
theorem cellsOfPls' : Try.prog.cellsOf 36 = 1 := by kernel_rfl
theorem list2' {α : Type} {l : List α} (h : l.length = 2) : ∃ a b, l = [a, b] := by
  match l, h with
  | [a, b], _ => exact ⟨a, b, rfl⟩
set_option maxRecDepth 100000 in
theorem cells_places {fuel : Nat} {c : Value} {q : DataW H × List MemPlace} (hf : DataW.trod enc Try.prog w base spare held fuel 36 [c] = some q) :
    ∃ A n cap x y, c = .slice A n cap ∧ n ≤ 9223372036854775807 ∧ PlArg w A n x y ∧ WfP n x y := by
  rcases open_slice_pairs Try.underlying36 Try.underlying68 cellsOfPlace' rfl rfl cellsOfF32' cellsOfF32' hf with ⟨h0, -⟩ | ⟨a, len, c', m, k, V0, V1, D0, D1, P0, P1, h0, -, hlc, hcm, hm, -, hcells⟩
  · simp at h0
    exact ⟨none, 0, 0, fun _ => 0, fun _ => 0, h0, by omega, fun j hj => absurd hj (by omega), fun j hj => absurd hj (by omega)⟩
  · simp at h0
    have hmn : len ≤ m := by rw [hm]; split <;> omega
    refine ⟨some a, len, c', fun j => bitsOf (V0 j), fun j => bitsOf (V1 j), h0, by unfold maxLen at hcm; omega, fun j hj => ?_, fun j hj => ?_⟩
    all_goals
      obtain ⟨g0, g1, t0, t1⟩ := hcells j (by omega)
      obtain ⟨b0, e0, -, w0⟩ := trod_float Try.underlying22 t0
      obtain ⟨b1, e1, -, w1⟩ := trod_float Try.underlying22 t1
      simp at e0 e1
    rotate_left
    · simp only [e0, e1, bitsOf]; exact ⟨w0, w1⟩
    refine ⟨a, rfl, ?_, by simp only [g0, e0, bitsOf], by simp only [g1, e1, bitsOf]⟩
    have := block_lt_of_cell g0
    rwa [block_add] at this
structure TrD where
  s : ByteArray
  P : Option Addr
  m : Nat
  c : Nat
  x : Nat → Nat
  y : Nat → Nat
instance : Inhabited TrD := ⟨⟨⟨#[]⟩, none, 0, 0, fun _ => 0, fun _ => 0⟩⟩
set_option maxRecDepth 100000 in
theorem open_tracks {r : Reach} {b0 : Nat} {v : Value} {d : DataW H} {p : List MemPlace} (hv : Value.okWide Try.prog w r b0 47 v) (h : DataW.Trod enc Try.prog w base spare held 47 v d p) :
    ∃ A n cap s P m c x y, v = .slice A n cap ∧ n ≤ 9223372036854775807 ∧ (∀ j, j < n → (s j).size ≤ 9223372036854775807) ∧ (∀ j, j < n → m j ≤ 9223372036854775807) ∧ TrArg w A n s P m c x y ∧ ∀ j, j < n → WfP (m j) (x j) (y j) := by
  obtain ⟨A, n, cap, rfl⟩ := okWide_slice Try.underlying47 hv
  obtain ⟨fuel, hf⟩ := h
  rcases open_slice Try.underlying47 hf with ⟨h0, -⟩ | ⟨a, len, cap', mm, k, D, Pl, h0, -, hl, hcm, hmm, -, hx⟩
  · simp [Value.cells] at h0
    obtain ⟨rfl, rfl, rfl⟩ := h0
    exact ⟨none, 0, 0, fun _ => ⟨#[]⟩, fun _ => none, fun _ => 0, fun _ => 0, fun _ _ => 0, fun _ _ => 0, rfl, by omega, fun j hj => absurd hj (by omega), fun j hj => absurd hj (by omega), fun j hj => absurd hj (by omega), fun j hj => absurd hj (by omega)⟩
  · simp [Value.cells] at h0
    obtain ⟨rfl, rfl, rfl⟩ := h0
    have hmn : n ≤ mm := by rw [hmm]; split <;> omega
    have each : ∀ j, j < n → ∃ z : TrD, a.block < w.heap.size ∧ w.cell? (a.add (j * 2)) = some (.string z.s) ∧ w.cell? (a.add (j * 2 + 1)) = some (.slice z.P z.m z.c) ∧ z.s.size ≤ 9223372036854775807 ∧ z.m ≤ 9223372036854775807 ∧ PlArg w z.P z.m z.x z.y ∧ WfP z.m z.x z.y := by
      intro j hj
      obtain ⟨cs', h1, h2⟩ := hx j (by omega)
      rw [cellsOfTrack'] at h1
      obtain ⟨_, hlen, hcell⟩ := World.cells?_some h1
      obtain ⟨v0, v1, rfl⟩ := list2' hlen
      obtain ⟨-, n', xs, -, hm'⟩ := trod_fields Try.underlying72 h2
      obtain ⟨y0, ys0, t0, hm0, -⟩ := mapM_cons_some hm'
      obtain ⟨y1, ys1, t1, hm1, -⟩ := mapM_cons_some hm0
      simp [cellsOfStr', cellsOfPls'] at t0 t1
      obtain ⟨ss, e0, -, hss⟩ := DataW.trod_string Try.underlying9 t0
      simp at e0
      subst e0
      obtain ⟨P, m, c, x, y, rfl, hmx, hA, hW⟩ := cells_places t1
      have g0 := hcell 0 (by decide)
      have g1 := hcell 1 (by decide)
      rw [add_add] at g0 g1
      have hb := block_lt_of_cell g0
      rw [block_add] at hb
      exact ⟨⟨ss, P, m, c, x, y⟩, hb, by simpa using g0, by simpa using g1, by unfold maxLen at hss; omega, hmx, hA, hW⟩
    obtain ⟨z, hz⟩ := choose_lt each
    exact ⟨some a, n, cap, fun j => (z j).s, fun j => (z j).P, fun j => (z j).m, fun j => (z j).c, fun j => (z j).x, fun j => (z j).y, rfl, by unfold maxLen at hcm; omega, fun j hj => (hz j hj).2.2.2.1, fun j hj => (hz j hj).2.2.2.2.1,
      fun j hj => ⟨a, rfl, (hz j hj).1, (hz j hj).2.1, (hz j hj).2.2.1, (hz j hj).2.2.2.2.2.1⟩, fun j hj => (hz j hj).2.2.2.2.2.2⟩
end
namespace lawFnExactSameTracks
set_option maxRecDepth 100000 in
set_option linter.unusedVariables false in
theorem lifted (os : Os) (started : os.Started) (H : Type) (enc : TypeId × Value → H) :
    ReturnsInHanded {} Try.checked os 5 .any (Rows.fnExactSameTracksSpec.pre6 enc Try.prog Try.f5 Rows.fnExactSameTracksRow.domain false) (Rows.fnExactSameTracksSpec.post enc Try.prog Try.f5 false true false false) := by
  refine returnsInHanded_of_change_sized (C := Try.checked) own started (by kernel_rfl) Try.func5
    (ChangeSpec.witness6 (enc := enc) (C := Try.checked) false ⟨#[], #[.slice none 0 0, .slice none 0 0], []⟩ 8 (by kernel_rfl) (by kernel_rfl) (by kernel_rfl) (by kernel_rfl)) ?_
  intro W base args ds gs before hval0 hW hcnd hsz0 _
  have hsz : (DataW.weightsEach Try.prog (Try.f5.params.toList ++ Rows.fnExactSameTracksSpec.plain.varTypes Try.prog) (ds ++ gs)).all (· ≤ reachBytes) = true := hsz0
  have hval : ∀ (j : Nat) t v, Try.f5.params[j]? = some t → args[j]? = some v → Value.okWide Try.prog W .any base t v := hval0
  have hW' := hW
  obtain ⟨p, q, hA0, hV, rfl, hfz, hnd⟩ := hW
  have hA : DataW.TrodAll enc Try.prog W 0 (fun _ => true) true Try.f5.params.toList args.toList ds p := hA0
  rw [Try.params5] at hA hval hsz
  have hAk := hA
  have hlt : ∀ x ∈ p, x.block < W.heap.size := fun x hx => hW'.lt x (List.mem_append_left _ hx)
  obtain ⟨v0, vs0, d0, ds0, p0, q0, hargs, rfl, rfl, h0, r0⟩ := trodAll_cons hA
  obtain ⟨v1, vs1, d1, ds1, p1, q1, rfl, rfl, rfl, h1, r1⟩ := trodAll_cons r0
  obtain ⟨rfl, rfl, rfl⟩ := trodAll_nil r1
  obtain rfl : args = #[v0, v1] := by cases args; simp_all
  obtain ⟨rfl, rfl⟩ := trodVars_none hV
  obtain ⟨A, n, cap, s, P, m, c, x, y, rfl, hn, hs, hm, hTA, hw⟩ := open_tracks (hval 0 _ _ rfl rfl) h0
  obtain ⟨A', n', cap', s', P', m', c', x', y', rfl, hn', hs', hm', hTB, hw'⟩ := open_tracks (hval 1 _ _ rfl rfl) h1
  clear hA0 hval0 hsz0
  refine (lawSameTracks A A' n n' cap cap' s s' P P' m m' c c' x y x' y' W hn hn' hs hm hTA hw hs' hm' hTB hw').mono fun e W' ⟨he, bel⟩ => ?_
  subst he
  exact ⟨_, rfl, _, _, _, [], _, [], hW', trodAll_mk1 (shut_bool Try.underlying4 _), trodAll_stays laidOut bel (by kernel_rfl) hAk hlt, rfl, bel.frame _, fun h => by cases h⟩
theorem proved : Rows.FnExactSameTracksSaid :=
  OpenClaim.holds_of_wide 5 Try.f5 rfl rfl rfl rfl rfl rfl rfl ⟨rfl, rfl, rfl, rfl, rfl⟩ rfl rfl rfl rfl rfl (by kernel_rfl) Try.func5 (by kernel_rfl)
    (of_decide_eq_true (by kernel_rfl)) (by unfold Func.isWrapper; first | (rw [if_pos (by decide +kernel)]; kernel_rfl) | (rw [if_neg (by decide +kernel)]; exact ⟨rfl, rfl⟩))
    (fun os started H enc _ => lifted os started H enc)
#print axioms proved
end lawFnExactSameTracks

theorem fnExactSameTracks_holds : Rows.FnExactSameTracksSaid := lawFnExactSameTracks.proved
end Go.Proofs.Ytnkimeeofmbhkaa
