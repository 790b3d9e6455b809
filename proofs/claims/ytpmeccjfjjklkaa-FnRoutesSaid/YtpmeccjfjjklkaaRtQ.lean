/- Routes there and back, the least road between two places, paths step by step, in plain words. No condition. -/
import Derived.Test.YtpmeccjfjjklkaaRPi
import Derived.Test.YtpmeccjfjjklkaaRO
namespace Go.Proofs.Ytpmeccjfjjklkaa
set_option linter.unusedSimpArgs false
variable {n m : Nat} {a b : Nat → Nat} {l : Nat → Int}
theorem Rod.symm {j u v : Nat} (h : Rod a b j u v) : Rod a b j v u := h.elim (fun ⟨h1, h2⟩ => .inr ⟨h2, h1⟩) (fun ⟨h1, h2⟩ => .inl ⟨h2, h1⟩)
/-- A way along roads, and how long it is. -/
inductive Ch (m : Nat) (a b : Nat → Nat) (l : Nat → Int) (u : Nat) : Nat → Int → Prop
  | nil : Ch m a b l u u 0
  | snoc {x y j : Nat} {L : Int} : Ch m a b l u x L → j < m → Rod a b j x y → Ch m a b l u y (L + l j)
theorem Ch.trans {u v x : Nat} {L M : Int} (h : Ch m a b l u v L) (h' : Ch m a b l v x M) : Ch m a b l u x (L + M) := by
  induction h' with
  | nil => simpa using h
  | snoc _ hj hr ih => rw [← Int.add_assoc]; exact ih.snoc hj hr
theorem Ch.symm {u v : Nat} {L : Int} (h : Ch m a b l u v L) : Ch m a b l v u L := by
  induction h with
  | nil => exact .nil
  | @snoc x y j L _ hj hr ih =>
    have h1 : Ch m a b l y x (0 + l j) := Ch.snoc .nil hj hr.symm
    have h2 := h1.trans ih
    rw [show L + l j = 0 + l j + L by omega]
    exact h2
theorem Long.le {fr v : Nat} {D : Nat → Int} {L : Int} (h : Long n m a b l fr D) (hc : Ch m a b l fr v L) : 0 ≤ D v ∧ D v ≤ L := by
  induction hc with
  | nil => rw [h.zero]; omega
  | snoc _ hj hr ih =>
    have := h.step _ _ _ hj hr ih.1
    omega
theorem Long.way {fr : Nat} {D : Nat → Int} (h : Long n m a b l fr D) : ∀ (k : Nat) {v : Nat}, (D v).toNat ≤ k → v < n → 0 ≤ D v → Ch m a b l fr v (D v) := by
  intro k
  induction k with
  | zero =>
    intro v hk hv hd
    by_cases e : v = fr
    · rw [e, h.zero]; exact .nil
    · obtain ⟨j, u, hj, hu, hr, h0, hl⟩ := h.pred v hv e hd
      have := (h.roads j hj).2.2.2.1
      omega
  | succ k ih =>
    intro v hk hv hd
    by_cases e : v = fr
    · rw [e, h.zero]; exact .nil
    · obtain ⟨j, u, hj, hu, hr, h0, hl⟩ := h.pred v hv e hd
      have := (h.roads j hj).2.2.2.1
      rw [← hl]
      exact (ih (v := u) (by omega) hu h0).snoc hj hr
theorem long_symm {p q : Nat} {D E : Nat → Int} (h : Long n m a b l p D) (h' : Long n m a b l q E) : D q = E p := by
  have b1 := h.bnd q h'.frn
  have b2 := h'.bnd p h.frn
  by_cases c1 : 0 ≤ D q
  · have w1 := h'.le ((h.way _ (Nat.le_refl _) h'.frn c1).symm)
    have w2 := h.le ((h'.way _ (Nat.le_refl _) h.frn w1.1).symm)
    omega
  · by_cases c2 : 0 ≤ E p
    · have w2 := h.le ((h'.way _ (Nat.le_refl _) h.frn c2).symm)
      omega
    · omega
/-- Whether road j joins u and v. -/
def jn (a b : Nat → Nat) (u v j : Nat) : Bool := (decide (a j = u) && decide (b j = v)) || (decide (b j = u) && decide (a j = v))
theorem jn_rod {u v j : Nat} : jn a b u v j = true ↔ Rod a b j u v := by unfold jn Rod; simp
/-- The least road between u and v. -/
def bstr (a b : Nat → Nat) (l : Nat → Int) (u v : Nat) : Nat → Int
  | 0 => -1
  | k + 1 => if (jn a b u v k && (decide (bstr a b l u v k < 0) || decide (l k < bstr a b l u v k))) = true then l k else bstr a b l u v k
theorem bstr_inv (hl : ∀ j, j < m → 1 ≤ l j) {u v : Nat} : ∀ k, k ≤ m → (bstr a b l u v k = -1 ∧ ∀ j, j < k → jn a b u v j = false) ∨ (0 ≤ bstr a b l u v k ∧ (∃ j, j < k ∧ jn a b u v j = true ∧ l j = bstr a b l u v k) ∧ ∀ j, j < k → jn a b u v j = true → bstr a b l u v k ≤ l j)
  | 0, _ => .inl ⟨rfl, fun j hj => absurd hj (by omega)⟩
  | k + 1, hk => by
    have ih := bstr_inv hl (u := u) (v := v) k (by omega)
    have hlk := hl k (by omega)
    have e : bstr a b l u v (k + 1) = if (jn a b u v k && (decide (bstr a b l u v k < 0) || decide (l k < bstr a b l u v k))) = true then l k else bstr a b l u v k := rfl
    rw [e]
    generalize bstr a b l u v k = x at ih
    cases hj : jn a b u v k
    · simp only [Bool.false_and, Bool.false_eq_true, if_false]
      rcases ih with ⟨h1, h2⟩ | ⟨h0, ⟨j, h1, h2, h3⟩, h4⟩
      · refine .inl ⟨h1, fun j hjk => ?_⟩
        by_cases e : j = k
        · rw [e]; exact hj
        · exact h2 j (by omega)
      · refine .inr ⟨h0, ⟨j, by omega, h2, h3⟩, fun j' hj' hjn => ?_⟩
        by_cases e : j' = k
        · rw [e, hj] at hjn; cases hjn
        · exact h4 j' (by omega) hjn
    · rcases ih with ⟨h1, h2⟩ | ⟨h0, ⟨j, h1, h2, h3⟩, h4⟩
      · have c : (true && (decide (x < 0) || decide (l k < x))) = true := by simp; omega
        rw [if_pos c]
        refine .inr ⟨by omega, ⟨k, by omega, hj, rfl⟩, fun j' hj' hjn => ?_⟩
        by_cases e : j' = k
        · rw [e]; omega
        · rw [h2 j' (by omega)] at hjn; cases hjn
      · by_cases c : l k < x
        · rw [if_pos (by simp; omega)]
          refine .inr ⟨by omega, ⟨k, by omega, hj, rfl⟩, fun j' hj' hjn => ?_⟩
          by_cases e : j' = k
          · rw [e]; omega
          · have := h4 j' (by omega) hjn; omega
        · rw [if_neg (by simp; omega)]
          refine .inr ⟨h0, ⟨j, by omega, h2, h3⟩, fun j' hj' hjn => ?_⟩
          by_cases e : j' = k
          · rw [e]; omega
          · exact h4 j' (by omega) hjn
theorem bstr_eq {fr u v : Nat} {D : Nat → Int} (h : Long n m a b l fr D) (hu : 0 ≤ D u) (hx : ∃ j, j < m ∧ Rod a b j u v ∧ D u + l j = D v) : bstr a b l u v m = D v - D u := by
  obtain ⟨j, hj, hr, hl⟩ := hx
  rcases bstr_inv (a := a) (b := b) (l := l) (m := m) (fun j hj => (h.roads j hj).2.2.2.1) (u := u) (v := v) m (Nat.le_refl _) with ⟨h1, h2⟩ | ⟨h0, ⟨j1, h1, h2, h3⟩, h4⟩
  · have := h2 j hj
    rw [jn_rod.2 hr] at this; cases this
  · have e1 := h4 j hj (jn_rod.2 hr)
    have e2 := h.step j1 u v h1 (jn_rod.1 h2) hu
    omega
/-- A path, told backwards: each place's next one is the one ahead of it; the last is where it begins. -/
theorem pthT_all {fr : Nat} {D : Nat → Int} (h : Long n m a b l fr D) : ∀ {f v : Nat}, v < n → 0 ≤ D v → (D v).toNat ≤ f → ∀ i x, (v :: pthT m a b l D fr f v)[i]? = some x → x < n ∧ 0 ≤ D x ∧ (∀ y, (v :: pthT m a b l D fr f v)[i + 1]? = some y → x ≠ fr ∧ y = nx m a b l D x) ∧ (i + 1 = (v :: pthT m a b l D fr f v).length → x = fr)
  | 0, v, hv, hd, hf, i, x, hx => by
    have hv0 : v = fr := by
      by_cases e : v = fr
      · exact e
      · obtain ⟨j, u, hj, hu, hr, h0, hl⟩ := h.pred v hv e hd
        have := (h.roads j hj).2.2.2.1
        omega
    have e : pthT m a b l D fr 0 v = [] := rfl
    rw [e] at hx ⊢
    cases i with
    | zero => simp only [List.getElem?_cons_zero, Option.some.injEq] at hx; subst hx; exact ⟨hv, hd, fun y hy => by simp at hy, fun _ => hv0⟩
    | succ i => simp at hx
  | f + 1, v, hv, hd, hf, i, x, hx => by
    by_cases hv0 : v = fr
    · rw [hv0, pthT_end] at hx ⊢
      cases i with
      | zero => simp only [List.getElem?_cons_zero, Option.some.injEq] at hx; subst hx; exact ⟨h.frn, by rw [h.zero]; omega, fun y hy => by simp at hy, fun _ => rfl⟩
      | succ i => simp at hx
    · obtain ⟨-, n1, n2, n3, -⟩ := nx_ok h hv hv0 hd
      have ih := pthT_all h (f := f) n1 n2 (by omega)
      rw [pthT_step hv0] at hx ⊢
      cases i with
      | zero =>
        simp only [List.getElem?_cons_zero, Option.some.injEq] at hx
        subst hx
        refine ⟨hv, hd, fun y hy => ⟨hv0, ?_⟩, fun e => absurd e (by simp)⟩
        simpa using hy.symm
      | succ i =>
        rw [List.getElem?_cons_succ] at hx
        obtain ⟨i1, i2, i3, i4⟩ := ih i x hx
        exact ⟨i1, i2, fun y hy => i3 y (by rwa [List.getElem?_cons_succ] at hy), fun e => i4 (by simpa using e)⟩
/-- What is known of a path. -/
structure Pth (n m : Nat) (a b : Nat → Nat) (l : Nat → Int) (fr tg : Nat) (D : Nat → Int) (P : List Nat) : Prop where
  pos : 1 ≤ P.length
  small : P.length ≤ 65
  first : nthI P 0 = fr
  last : nthI P (P.length - 1) = tg
  lt : ∀ k, k < P.length → ∃ u : Nat, u < n ∧ nthI P k = u ∧ 0 ≤ D u
  step : ∀ k u v : Nat, k + 1 < P.length → nthI P k = u → nthI P (k + 1) = v → bstr a b l u v m = D v - D u ∧ D u < D v
theorem nthI_some {P : List Nat} {k u : Nat} (h : P[k]? = some u) : nthI P k = u := by unfold nthI; rw [h]; rfl
theorem nthI_at {P : List Nat} {k : Nat} (h : k < P.length) : ∃ u, P[k]? = some u ∧ nthI P k = u := ⟨P[k], by simp [h], nthI_some (by simp [h])⟩
theorem pth_ok {fr tg : Nat} {D : Nat → Int} (h : Long n m a b l fr D) (ht : tg < n) (hd : 0 ≤ D tg) : Pth n m a b l fr tg D (pth m a b l D fr tg).reverse := by
  obtain ⟨l1, l2⟩ := pth_len h ht hd
  have hall := pthT_all h (f := (D tg).toNat) ht hd (Nat.le_refl _)
  change ∀ i x, (pth m a b l D fr tg)[i]? = some x → x < n ∧ 0 ≤ D x ∧ (∀ y, (pth m a b l D fr tg)[i + 1]? = some y → x ≠ fr ∧ y = nx m a b l D x) ∧ (i + 1 = (pth m a b l D fr tg).length → x = fr) at hall
  have h0 : (pth m a b l D fr tg)[0]? = some tg := rfl
  generalize pth m a b l D fr tg = Q at l1 l2 hall h0
  have hrev : ∀ k, k < Q.length → Q.reverse[k]? = Q[Q.length - 1 - k]? := fun k hk => List.getElem?_reverse hk
  refine ⟨by rw [List.length_reverse]; exact l1, by rw [List.length_reverse]; exact l2, ?_, ?_, ?_, ?_⟩
  · obtain ⟨u, hu, hu2⟩ := nthI_at (P := Q.reverse) (k := 0) (by rw [List.length_reverse]; omega)
    rw [hu2]
    rw [hrev 0 (by omega)] at hu
    rw [(hall _ _ hu).2.2.2 (by omega)]
  · rw [List.length_reverse]
    refine nthI_some ?_
    rw [hrev _ (by omega), show Q.length - 1 - (Q.length - 1) = 0 by omega]
    exact h0
  · intro k hk
    obtain ⟨u, hu, hu2⟩ := nthI_at hk
    rw [hrev k (by simpa using hk)] at hu
    exact ⟨u, (hall _ _ hu).1, hu2, (hall _ _ hu).2.1⟩
  · intro k u v hk hu hv
    rw [List.length_reverse] at hk
    obtain ⟨u', hu', hu2⟩ := nthI_at (P := Q.reverse) (k := k) (by simp; omega)
    obtain ⟨v', hv', hv2⟩ := nthI_at (P := Q.reverse) (k := k + 1) (by simpa using hk)
    obtain rfl : u = u' := by rw [hu2] at hu; omega
    obtain rfl : v = v' := by rw [hv2] at hv; omega
    rw [hrev k (by omega)] at hu'
    rw [hrev (k + 1) hk] at hv'
    obtain ⟨i1, i2, i3, -⟩ := hall _ _ hv'
    obtain ⟨hne, hy⟩ := i3 u (by rw [show Q.length - 1 - (k + 1) + 1 = Q.length - 1 - k by omega]; exact hu')
    obtain ⟨-, n1, n2, n3, j, hj, hr, hl⟩ := nx_ok h i1 hne i2
    rw [← hy] at n2 n3 hr hl
    exact ⟨bstr_eq h n2 ⟨j, hj, hr, hl⟩, n3⟩
/-- Which places are told, one after another. -/
theorem pkL_pre (P : Nat → Bool) (i : Nat) (hi : P i = true) : ∀ k, i < k → (pkL P k)[(pkL P i).length]? = some i
  | 0, h => absurd h (by omega)
  | k + 1, h => by
    by_cases e : i = k
    · subst e
      rw [pkL_t hi]
      simp
    · have ih := pkL_pre P i hi k (by omega)
      have hl : (pkL P i).length < (pkL P k).length := (List.getElem?_eq_some_iff.1 ih).1
      cases hk : P k
      · rw [pkL_f hk]; exact ih
      · rw [pkL_t hk, List.getElem?_append_left hl]; exact ih
end Go.Proofs.Ytpmeccjfjjklkaa
