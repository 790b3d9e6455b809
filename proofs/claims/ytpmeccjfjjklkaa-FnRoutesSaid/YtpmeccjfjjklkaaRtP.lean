/- The longs of routes in plain words: nothing turns any more, each is reached from another one, and the path back. No condition. -/
import Derived.Test.YtpmeccjfjjklkaaRtD
namespace Go.Proofs.Ytpmeccjfjjklkaa
set_option linter.unusedSimpArgs false
section
variable {n m : Nat} {a b : Nat → Nat} {l : Nat → Int}
/-- Road j leads from u tg v, one way or the other. -/
def Rod (a b : Nat → Nat) (j u v : Nat) : Prop := (a j = u ∧ b j = v) ∨ (b j = u ∧ a j = v)
/-- What the relaxations keep. -/
def Tight (n m : Nat) (a b : Nat → Nat) (l : Nat → Int) (fr : Nat) (d : Nat → Int) : Prop := d fr = 0 ∧ ∀ v, v < n → v ≠ fr → 0 ≤ d v → ∃ j u, j < m ∧ u < n ∧ Rod a b j u v ∧ 0 ≤ d u ∧ d u + l j ≤ d v
theorem rl_eq {d : Nat → Int} {x y : Nat} {L : Int} (hc : rlc d x y L = true) : rl d x y L = fun j => if j = y then d x + L else d j := by unfold rl; rw [if_pos hc]
theorem rl_tight {fr : Nat} {d : Nat → Int} (h : Tight n m a b l fr d) {k x y : Nat} (hk : k < m) (hx : x < n) (hxy : x ≠ y) (hl : 1 ≤ l k) (hr : Rod a b k x y) : Tight n m a b l fr (rl d x y (l k)) := by
  cases hc : rlc d x y (l k)
  · rw [rl_same hc]; exact h
  · rw [rl_eq hc]
    simp only [rlc, Bool.and_eq_true, Bool.or_eq_true, decide_eq_true_eq] at hc
    obtain ⟨h0, h1⟩ := h
    have hfr : fr ≠ y := by
      rintro rfl
      omega
    refine ⟨by simp only [if_neg hfr]; exact h0, fun v hv hvf hd => ?_⟩
    by_cases e : v = y
    · subst e
      exact ⟨k, x, hk, hx, hr, by simp only [if_neg hxy]; exact hc.1, by simp only [if_neg hxy, if_true]; omega⟩
    · simp only [if_neg e] at hd ⊢
      obtain ⟨j, u, hj, hu, hr', hu0, hle⟩ := h1 v hv hvf hd
      refine ⟨j, u, hj, hu, hr', ?_, ?_⟩
      · by_cases e2 : u = y
        · simp only [if_pos e2]; omega
        · simp only [if_neg e2]; exact hu0
      · by_cases e2 : u = y
        · simp only [if_pos e2]
          subst e2
          rcases hc.2 with h | h <;> omega
        · simp only [if_neg e2]; exact hle
theorem ps_tight {fr : Nat} (hR : RdsOk n m a b l) {d : Nat → Int} (h : Tight n m a b l fr d) : ∀ {k : Nat}, k ≤ m → Tight n m a b l fr (ps a b l d k).1
  | 0, _ => h
  | k + 1, hk => by
    have ih := ps_tight hR h (k := k) (by omega)
    obtain ⟨ra, rb, rab, r1, r2⟩ := hR k (by omega)
    exact rl_tight (rl_tight ih (by omega) ra rab r1 (.inl ⟨rfl, rfl⟩)) (by omega) rb (fun e => rab e.symm) r1 (.inr ⟨rfl, rfl⟩)
/-- Nothing turns any more. -/
def Fixd (m : Nat) (a b : Nat → Nat) (l : Nat → Int) (d : Nat → Int) : Prop := ∀ j, j < m → rlc d (a j) (b j) (l j) = false ∧ rlc d (b j) (a j) (l j) = false
theorem ps_fix {d : Nat → Int} : ∀ {k : Nat}, (ps a b l d k).2 = false → (ps a b l d k).1 = d ∧ ∀ j, j < k → rlc d (a j) (b j) (l j) = false ∧ rlc d (b j) (a j) (l j) = false
  | 0, _ => ⟨rfl, fun j hj => absurd hj (by omega)⟩
  | k + 1, h => by
    have e2 : (ps a b l d (k + 1)).2 = (((ps a b l d k).2 || rlc (ps a b l d k).1 (a k) (b k) (l k)) || rlc (rl (ps a b l d k).1 (a k) (b k) (l k)) (b k) (a k) (l k)) := rfl
    have e1 : (ps a b l d (k + 1)).1 = rl (rl (ps a b l d k).1 (a k) (b k) (l k)) (b k) (a k) (l k) := rfl
    rw [e2] at h
    simp only [Bool.or_eq_false_iff] at h
    obtain ⟨i1, i2⟩ := ps_fix h.1.1
    have h2 := h.1.2
    have h3 := h.2
    rw [i1] at h2 h3
    rw [rl_same h2] at h3
    refine ⟨by rw [e1, i1, rl_same h2, rl_same h3], fun j hj => ?_⟩
    by_cases e : j = k
    · subst e; exact ⟨h2, h3⟩
    · exact i2 j (by omega)
theorem bf_ok {fr : Nat} (hR : RdsOk n m a b l) (hn : n ≤ 64) : ∀ {f : Nat} {d : Nat → Int}, Inv n d → Tight n m a b l fr d → mu n d < f → Inv n (bf m a b l f d) ∧ Tight n m a b l fr (bf m a b l f d) ∧ Fixd m a b l (bf m a b l f d)
  | 0, _, _, _, h => absurd h (by omega)
  | f + 1, d, hi, ht, h => by
    obtain ⟨i1, i2, i3, i4⟩ := ps_ok hR hn hi (Nat.le_refl m)
    have e : bf m a b l (f + 1) d = if (ps a b l d m).2 = true then bf m a b l f (ps a b l d m).1 else (ps a b l d m).1 := rfl
    rw [e]
    cases hc : (ps a b l d m).2
    · have hx := ps_fix hc
      rw [if_neg (by decide), hx.1]
      exact ⟨hi, ht, hx.2⟩
    · rw [if_pos rfl]
      exact bf_ok hR hn i1 (ps_tight hR ht (Nat.le_refl m)) (by have := i3 hc; omega)
theorem d0_tight {fr : Nat} : Tight n m a b l fr (d0 fr) := by
  refine ⟨by simp [d0], fun v _ hne h => ?_⟩
  have : d0 fr v = -1 := by unfold d0; rw [if_neg hne]
  omega
theorem rt_ok {fr : Nat} (hR : RdsOk n m a b l) (hn : n ≤ 64) (hf : fr < n) : Inv n (rt n m a b l fr) ∧ Tight n m a b l fr (rt n m a b l fr) ∧ Fixd m a b l (rt n m a b l fr) := bf_ok hR hn (Inv_d0 hf) d0_tight (Nat.lt_succ_self _)
/-- What is known of the longs. -/
structure Long (n m : Nat) (a b : Nat → Nat) (l : Nat → Int) (fr : Nat) (D : Nat → Int) : Prop where
  roads : RdsOk n m a b l
  small : n ≤ 64
  frn : fr < n
  bnd : ∀ v, v < n → -1 ≤ D v ∧ D v ≤ 63000000
  zero : D fr = 0
  step : ∀ j u v, j < m → Rod a b j u v → 0 ≤ D u → 0 ≤ D v ∧ D v ≤ D u + l j
  pred : ∀ v, v < n → v ≠ fr → 0 ≤ D v → ∃ j u, j < m ∧ u < n ∧ Rod a b j u v ∧ 0 ≤ D u ∧ D u + l j = D v
theorem rt_long {fr : Nat} (hR : RdsOk n m a b l) (hn : n ≤ 64) (hf : fr < n) : Long n m a b l fr (rt n m a b l fr) := by
  obtain ⟨h1, h2, h3⟩ := rt_ok hR hn hf
  have hs : ∀ j u v, j < m → Rod a b j u v → 0 ≤ rt n m a b l fr u → 0 ≤ rt n m a b l fr v ∧ rt n m a b l fr v ≤ rt n m a b l fr u + l j := by
    intro j u v hj hr hu
    have := h3 j hj
    rcases hr with ⟨rfl, rfl⟩ | ⟨rfl, rfl⟩
    · have := this.1
      simp only [rlc, Bool.and_eq_false_iff, Bool.or_eq_false_iff, decide_eq_false_iff_not] at this
      rcases this with h | h
      · omega
      · omega
    · have := this.2
      simp only [rlc, Bool.and_eq_false_iff, Bool.or_eq_false_iff, decide_eq_false_iff_not] at this
      rcases this with h | h
      · omega
      · omega
  refine ⟨hR, hn, hf, fun v hv => h1.bnd hn hv, h2.1, hs, fun v hv hne hd => ?_⟩
  obtain ⟨j, u, hj, hu, hr, hu0, hle⟩ := h2.2 v hv hne hd
  exact ⟨j, u, hj, hu, hr, hu0, by have := (hs j u v hj hr hu0).2; omega⟩
/-- The other end of road j, if it is tight at a place. -/
def cand (a b : Nat → Nat) (l : Nat → Int) (D : Nat → Int) (v j : Nat) : Option Nat :=
  if a j = v then (if D (b j) + l j = D v then some (b j) else none) else if b j = v then (if D (a j) + l j = D v then some (a j) else none) else none
/-- The better one. -/
def bt (x : Int) (o : Option Nat) : Int := match o with
  | none => x
  | some u => if x < 0 ∨ (u : Int) < x then (u : Int) else x
/-- The least other end among the first roads, or -1. -/
def bst (a b : Nat → Nat) (l : Nat → Int) (D : Nat → Int) (v : Nat) : Nat → Int
  | 0 => -1
  | k + 1 => bt (bst a b l D v k) (cand a b l D v k)
theorem bst_mem {D : Nat → Int} {v : Nat} : ∀ {k : Nat}, (bst a b l D v k = -1 ∧ ∀ j, j < k → cand a b l D v j = none) ∨ ∃ j u, j < k ∧ cand a b l D v j = some u ∧ bst a b l D v k = (u : Int)
  | 0 => .inl ⟨rfl, fun j hj => absurd hj (by omega)⟩
  | k + 1 => by
    have ih := bst_mem (D := D) (v := v) (k := k)
    have e : bst a b l D v (k + 1) = bt (bst a b l D v k) (cand a b l D v k) := rfl
    rw [e]
    cases hc : cand a b l D v k with
    | none =>
      rcases ih with ⟨h1, h2⟩ | ⟨j, u, hj, h1, h2⟩
      · exact .inl ⟨h1, fun j hj => if e : j = k then by rw [e]; exact hc else h2 j (by omega)⟩
      · exact .inr ⟨j, u, by omega, h1, h2⟩
    | some u =>
      by_cases hlt : bst a b l D v k < 0 ∨ (u : Int) < bst a b l D v k
      · exact .inr ⟨k, u, by omega, hc, if_pos hlt⟩
      · rcases ih with ⟨h1, h2⟩ | ⟨j, u', hj, h1, h2⟩
        · omega
        · exact .inr ⟨j, u', by omega, h1, by show (if _ then _ else _) = _; rw [if_neg hlt]; exact h2⟩
theorem cand_rd {D : Nat → Int} {v j u : Nat} (h : cand a b l D v j = some u) : Rod a b j u v ∧ D u + l j = D v := by
  unfold cand at h
  split at h
  · split at h
    · injection h with h; subst h; exact ⟨.inr ⟨rfl, by assumption⟩, by assumption⟩
    · exact nomatch h
  · split at h
    · split at h
      · injection h with h; subst h; exact ⟨.inl ⟨rfl, by assumption⟩, by assumption⟩
      · exact nomatch h
    · exact nomatch h
theorem rd_cand {D : Nat → Int} {v j u : Nat} (hab : a j ≠ b j) (hr : Rod a b j u v) (h : D u + l j = D v) : cand a b l D v j = some u := by
  unfold cand
  rcases hr with ⟨rfl, rfl⟩ | ⟨rfl, rfl⟩
  · rw [if_neg hab, if_pos rfl, if_pos h]
  · rw [if_pos rfl, if_pos h]
/-- The place ahead of a place on its route. -/
def nx (m : Nat) (a b : Nat → Nat) (l : Nat → Int) (D : Nat → Int) (v : Nat) : Nat := (bst a b l D v m).toNat
theorem nx_ok {fr : Nat} {D : Nat → Int} (h : Long n m a b l fr D) {v : Nat} (hv : v < n) (hne : v ≠ fr) (hd : 0 ≤ D v) : bst a b l D v m = (nx m a b l D v : Int) ∧ nx m a b l D v < n ∧ 0 ≤ D (nx m a b l D v) ∧ D (nx m a b l D v) < D v ∧ ∃ j, j < m ∧ Rod a b j (nx m a b l D v) v ∧ D (nx m a b l D v) + l j = D v := by
  rcases bst_mem (a := a) (b := b) (l := l) (D := D) (v := v) (k := m) with ⟨-, h2⟩ | ⟨j, u, hj, h1, h2⟩
  · obtain ⟨j, u, hj, hu, hr, hu0, hle⟩ := h.pred v hv hne hd
    have := h2 j hj
    rw [rd_cand (h.roads j hj).2.2.1 hr hle] at this
    exact nomatch this
  · have hu : nx m a b l D v = u := by unfold nx; rw [h2]; rfl
    obtain ⟨hr, he⟩ := cand_rd h1
    obtain ⟨ra, rb, rab, r1, r2⟩ := h.roads j hj
    have hr' : Rod a b j v u := by rcases hr with ⟨rfl, rfl⟩ | ⟨rfl, rfl⟩; exact .inr ⟨rfl, rfl⟩; exact .inl ⟨rfl, rfl⟩
    have hun : u < n := by rcases hr with ⟨rfl, -⟩ | ⟨rfl, -⟩ <;> assumption
    have := h.step j v u hj hr' hd
    rw [hu]
    exact ⟨h2, hun, this.1, by omega, j, hj, hr, he⟩
/-- What comes behind a place on the way back. -/
def pthT (m : Nat) (a b : Nat → Nat) (l : Nat → Int) (D : Nat → Int) (fr : Nat) : Nat → Nat → List Nat
  | 0, _ => []
  | f + 1, v => if v = fr then [] else nx m a b l D v :: pthT m a b l D fr f (nx m a b l D v)
theorem pthT_end {D : Nat → Int} {fr f : Nat} : pthT m a b l D fr f fr = [] := by
  cases f with
  | zero => rfl
  | succ f => exact if_pos rfl
theorem pthT_step {D : Nat → Int} {fr f v : Nat} (hne : v ≠ fr) : pthT m a b l D fr (f + 1) v = nx m a b l D v :: pthT m a b l D fr f (nx m a b l D v) := if_neg hne
/-- How many places are nearer. -/
def cntP (n : Nat) (D : Nat → Int) (x : Int) : Nat := sumN (fun v => if 0 ≤ D v ∧ D v < x then 1 else 0) n
theorem sumN_le {f g : Nat → Nat} : ∀ {k : Nat}, (∀ j, j < k → f j ≤ g j) → sumN f k ≤ sumN g k
  | 0, _ => Nat.le_refl _
  | k + 1, h => by
    have := sumN_le (k := k) (fun j hj => h j (by omega))
    have := h k (by omega)
    show sumN f k + f k ≤ sumN g k + g k
    omega
theorem sumN_lt {f g : Nat → Nat} {i : Nat} : ∀ {k : Nat}, i < k → (∀ j, j < k → f j ≤ g j) → f i < g i → sumN f k < sumN g k
  | 0, h, _, _ => absurd h (by omega)
  | k + 1, hi, h, hl => by
    have h2 := h k (by omega)
    show sumN f k + f k < sumN g k + g k
    by_cases e : i = k
    · subst e
      have := sumN_le (k := i) (fun j hj => h j (by omega))
      omega
    · have := sumN_lt (k := k) (by omega) (fun j hj => h j (by omega)) hl
      omega
theorem cntP_lt {D : Nat → Int} {u : Nat} {x : Int} (hu : u < n) (h0 : 0 ≤ D u) (h : D u < x) : cntP n D (D u) < cntP n D x :=
  sumN_lt hu (fun j _ => by split <;> split <;> omega) (by rw [if_neg (by omega), if_pos ⟨h0, h⟩]; decide)
theorem cntP_le {D : Nat → Int} {x : Int} : ∀ k, sumN (fun v => if 0 ≤ D v ∧ D v < x then 1 else 0) k ≤ k
  | 0 => Nat.le_refl _
  | k + 1 => by
    have := cntP_le (D := D) (x := x) k
    show sumN _ k + (if 0 ≤ D k ∧ D k < x then 1 else 0) ≤ k + 1
    split <;> omega
theorem pthT_len {fr : Nat} {D : Nat → Int} (h : Long n m a b l fr D) : ∀ {f v : Nat}, v < n → 0 ≤ D v → (pthT m a b l D fr f v).length ≤ cntP n D (D v)
  | 0, _, _, _ => Nat.zero_le _
  | f + 1, v, hv, hd => by
    by_cases e : v = fr
    · subst e; rw [pthT_end]; exact Nat.zero_le _
    · obtain ⟨-, h1, h2, h3, -⟩ := nx_ok h hv e hd
      rw [pthT_step e]
      have := pthT_len h (f := f) h1 h2
      have := cntP_lt h1 h2 h3
      simp only [List.length_cons]
      omega
/-- The way back from a place. -/
def pth (m : Nat) (a b : Nat → Nat) (l : Nat → Int) (D : Nat → Int) (fr tg : Nat) : List Nat := tg :: pthT m a b l D fr (D tg).toNat tg
theorem pth_len {fr : Nat} {D : Nat → Int} (h : Long n m a b l fr D) {tg : Nat} (ht : tg < n) (hd : 0 ≤ D tg) : 1 ≤ (pth m a b l D fr tg).length ∧ (pth m a b l D fr tg).length ≤ 65 := by
  have := pthT_len h (f := (D tg).toNat) ht hd
  have := cntP_le (D := D) (x := D tg) n
  have := h.small
  unfold cntP at *
  unfold pth
  simp only [List.length_cons]
  omega
end
end Go.Proofs.Ytpmeccjfjjklkaa
