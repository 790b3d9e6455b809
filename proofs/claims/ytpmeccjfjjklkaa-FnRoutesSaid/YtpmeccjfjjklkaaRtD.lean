/- What the longs of routes are, in plain words: the roads' relaxations, and that they end. No condition. -/
import Derived.Test.YtpmeccjfjjklkaaRds
namespace Go.Proofs.Ytpmeccjfjjklkaa
set_option linter.unusedSimpArgs false

/-! Sums over a list's places. -/
def sumN (f : Nat → Nat) : Nat → Nat
  | 0 => 0
  | k + 1 => sumN f k + f k
theorem sumN_congr {f g : Nat → Nat} : ∀ {n : Nat}, (∀ j, j < n → f j = g j) → sumN f n = sumN g n
  | 0, _ => rfl
  | n + 1, h => by
    show sumN f n + f n = sumN g n + g n
    rw [sumN_congr (n := n) (fun j hj => h j (by omega)), h n (by omega)]
theorem sumN_upd (g : Int → Nat) (d : Nat → Int) (b : Nat) (v : Int) : ∀ {n : Nat}, b < n → sumN (fun j => g (if j = b then v else d j)) n + g (d b) = sumN (fun j => g (d j)) n + g v
  | 0, h => absurd h (by omega)
  | n + 1, h => by
    show sumN (fun j => g (if j = b then v else d j)) n + g (if n = b then v else d n) + g (d b) = sumN (fun j => g (d j)) n + g (d n) + g v
    by_cases e : n = b
    · subst e
      rw [if_pos rfl, sumN_congr (g := fun j => g (d j)) (fun j hj => by show g (if j = n then v else d j) = _; rw [if_neg (by omega)])]
      omega
    · rw [if_neg e]
      have := sumN_upd g d b v (n := n) (by omega)
      omega
def pot (v : Int) : Nat := if v < 0 then 64000001 else v.toNat
def unr (v : Int) : Nat := if v < 0 then 1 else 0
/-- The sum that falls with each relaxation. -/
def mu (n : Nat) (d : Nat → Int) : Nat := sumN (fun j => pot (d j)) n
/-- How many are not reached. -/
def cu (n : Nat) (d : Nat → Int) : Nat := sumN (fun j => unr (d j)) n
/-- A road's relaxation one way, and whether it turns anything. -/
def rlc (d : Nat → Int) (a b : Nat) (l : Int) : Bool := decide (0 ≤ d a) && (decide (d b < 0) || decide (d a + l < d b))
def rl (d : Nat → Int) (a b : Nat) (l : Int) : Nat → Int := if rlc d a b l = true then fun j => if j = b then d a + l else d j else d
/-- What the values keep to. -/
def Inv (n : Nat) (d : Nat → Int) : Prop := ∀ j, j < n → -1 ≤ d j ∧ d j + 1000000 * (cu n d : Int) ≤ 1000000 * ((n : Int) - 1)
theorem Inv.bnd {n : Nat} {d : Nat → Int} (h : Inv n d) (hn : n ≤ 64) {j : Nat} (hj : j < n) : -1 ≤ d j ∧ d j ≤ 63000000 := by
  have := h j hj
  omega
theorem rl_step {n : Nat} {d : Nat → Int} {a b : Nat} {l : Int} (h : Inv n d) (hn : n ≤ 64) (ha : a < n) (hb : b < n) (hl : 1 ≤ l) (hl2 : l ≤ 1000000) (hc : rlc d a b l = true) : Inv n (rl d a b l) ∧ mu n (rl d a b l) < mu n d := by
  simp only [rlc, Bool.and_eq_true, Bool.or_eq_true, decide_eq_true_eq] at hc
  have e : rl d a b l = fun j => if j = b then d a + l else d j := by
    unfold rl
    rw [if_pos (by simp only [rlc, Bool.and_eq_true, Bool.or_eq_true, decide_eq_true_eq]; exact hc)]
  have hA := h a ha
  have hB := h b hb
  have u1 := sumN_upd unr d b (d a + l) hb
  have u2 := sumN_upd pot d b (d a + l) hb
  rw [e]
  change cu n (fun j => if j = b then d a + l else d j) + unr (d b) = cu n d + unr (d a + l) at u1
  change mu n (fun j => if j = b then d a + l else d j) + pot (d b) = mu n d + pot (d a + l) at u2
  have v0 : unr (d a + l) = 0 := by unfold unr; rw [if_neg (by omega)]
  have p0 : pot (d a + l) = (d a + l).toNat := by unfold pot; rw [if_neg (by omega)]
  rw [v0] at u1
  rw [p0] at u2
  by_cases hb0 : d b < 0
  · have v1 : unr (d b) = 1 := by unfold unr; rw [if_pos hb0]
    have p1 : pot (d b) = 64000001 := by unfold pot; rw [if_pos hb0]
    rw [v1] at u1
    rw [p1] at u2
    refine ⟨fun j hj => ?_, by omega⟩
    have hJ := h j hj
    by_cases ej : j = b
    · simp only [ej, if_true]; omega
    · simp only [if_neg ej]; omega
  · have v1 : unr (d b) = 0 := by unfold unr; rw [if_neg hb0]
    have p1 : pot (d b) = (d b).toNat := by unfold pot; rw [if_neg hb0]
    rw [v1] at u1
    rw [p1] at u2
    have hlt : d a + l < d b := by rcases hc.2 with h | h <;> omega
    refine ⟨fun j hj => ?_, by omega⟩
    have hJ := h j hj
    by_cases ej : j = b
    · simp only [ej, if_true]; omega
    · simp only [if_neg ej]; omega
theorem rl_same {d : Nat → Int} {a b : Nat} {l : Int} (hc : rlc d a b l = false) : rl d a b l = d := by
  unfold rl
  rw [hc]
  rfl
theorem rl_le {n : Nat} {d : Nat → Int} {a b : Nat} {l : Int} (h : Inv n d) (hn : n ≤ 64) (ha : a < n) (hb : b < n) (hl : 1 ≤ l) (hl2 : l ≤ 1000000) : Inv n (rl d a b l) ∧ mu n (rl d a b l) ≤ mu n d ∧ (rlc d a b l = true → mu n (rl d a b l) < mu n d) := by
  cases hc : rlc d a b l
  · rw [rl_same hc]
    exact ⟨h, Nat.le_refl _, fun h => by cases h⟩
  · have := rl_step h hn ha hb hl hl2 hc
    exact ⟨this.1, Nat.le_of_lt this.2, fun _ => this.2⟩
/-- The first k roads' relaxations, both ways, and whether they turn anything. -/
def ps (a b : Nat → Nat) (l : Nat → Int) (d : Nat → Int) : Nat → (Nat → Int) × Bool
  | 0 => (d, false)
  | k + 1 => (rl (rl (ps a b l d k).1 (a k) (b k) (l k)) (b k) (a k) (l k), ((ps a b l d k).2 || rlc (ps a b l d k).1 (a k) (b k) (l k)) || rlc (rl (ps a b l d k).1 (a k) (b k) (l k)) (b k) (a k) (l k))
/-- The roads are roads of n places. -/
def RdsOk (n m : Nat) (a b : Nat → Nat) (l : Nat → Int) : Prop := ∀ j, j < m → a j < n ∧ b j < n ∧ a j ≠ b j ∧ 1 ≤ l j ∧ l j ≤ 1000000
theorem ps_ok {n m : Nat} {a b : Nat → Nat} {l : Nat → Int} (hR : RdsOk n m a b l) (hn : n ≤ 64) {d : Nat → Int} (h : Inv n d) : ∀ {k : Nat}, k ≤ m → Inv n (ps a b l d k).1 ∧ mu n (ps a b l d k).1 ≤ mu n d ∧ ((ps a b l d k).2 = true → mu n (ps a b l d k).1 < mu n d) ∧ ((ps a b l d k).2 = false → (ps a b l d k).1 = d)
  | 0, _ => ⟨h, Nat.le_refl _, (fun h => absurd (show false = true from h) (by decide)), (fun _ => rfl)⟩
  | k + 1, hk => by
    obtain ⟨i1, i2, i3, i4⟩ := ps_ok hR hn h (k := k) (by omega)
    obtain ⟨ra, rb, rab, r1, r2⟩ := hR k (by omega)
    have s1 := rl_le (d := (ps a b l d k).1) i1 hn ra rb r1 r2
    have s2 := rl_le (d := rl (ps a b l d k).1 (a k) (b k) (l k)) s1.1 hn rb ra r1 r2
    have e1 : (ps a b l d (k + 1)).1 = rl (rl (ps a b l d k).1 (a k) (b k) (l k)) (b k) (a k) (l k) := rfl
    have e2 : (ps a b l d (k + 1)).2 = (((ps a b l d k).2 || rlc (ps a b l d k).1 (a k) (b k) (l k)) || rlc (rl (ps a b l d k).1 (a k) (b k) (l k)) (b k) (a k) (l k)) := rfl
    rw [e1, e2]
    refine ⟨s2.1, by omega, fun hc => ?_, fun hc => ?_⟩
    · simp only [Bool.or_eq_true] at hc
      rcases hc with (hc | hc) | hc
      · have := i3 hc; omega
      · have := s1.2.2 hc; omega
      · have := s2.2.2 hc; omega
    · simp only [Bool.or_eq_false_iff] at hc
      rw [rl_same (d := rl (ps a b l d k).1 (a k) (b k) (l k)) hc.2, rl_same hc.1.2, i4 hc.1.1]
/-- The passes till nothing turns. -/
def bf (m : Nat) (a b : Nat → Nat) (l : Nat → Int) : Nat → (Nat → Int) → Nat → Int
  | 0, d => d
  | f + 1, d => if (ps a b l d m).2 = true then bf m a b l f (ps a b l d m).1 else (ps a b l d m).1
def d0 (from' : Nat) (j : Nat) : Int := if j = from' then 0 else -1
/-- The longs of the routes from a place. -/
def rt (n m : Nat) (a b : Nat → Nat) (l : Nat → Int) (from' : Nat) : Nat → Int := bf m a b l (mu n (d0 from') + 1) (d0 from')
theorem cu_d0 {n from' : Nat} (h : from' < n) : cu n (d0 from') + 1 = n := by
  have hall : ∀ k, sumN (fun _ => 1) k = k := fun k => by
    induction k with
    | zero => rfl
    | succ k ih => show sumN _ k + 1 = _; rw [ih]
  have := sumN_upd unr (fun _ => -1) from' 0 h
  have e1 : sumN (fun j => unr (if j = from' then 0 else -1)) n = cu n (d0 from') := rfl
  have e2 : sumN (fun _ => unr (-1)) n = n := hall n
  have e3 : unr (-1) = 1 := rfl
  have e4 : unr 0 = 0 := rfl
  rw [e1, e2, e3, e4] at this
  omega
theorem Inv_d0 {n from' : Nat} (h : from' < n) : Inv n (d0 from') := by
  have hc := cu_d0 h
  intro j hj
  have hv : d0 from' j = 0 ∨ d0 from' j = -1 := by unfold d0; split <;> simp
  omega
/-- What a pass does to the end: the loop's relation. -/
def Rel (n m : Nat) (a b : Nat → Nat) (l : Nat → Int) (D : Nat → Int) (d : Nat → Int) (c : Bool) : Prop := Inv n d ∧ (c = true → ∃ f, mu n d < f ∧ bf m a b l f d = D) ∧ (c = false → d = D)
theorem Rel.start {n m : Nat} {a b : Nat → Nat} {l : Nat → Int} {from' : Nat} (h : from' < n) : Rel n m a b l (rt n m a b l from') (d0 from') true := ⟨Inv_d0 h, fun _ => ⟨_, Nat.lt_succ_self _, rfl⟩, fun h => by cases h⟩
theorem Rel.pass {n m : Nat} {a b : Nat → Nat} {l : Nat → Int} {D d : Nat → Int} (hR : RdsOk n m a b l) (hn : n ≤ 64) (h : Rel n m a b l D d true) : Rel n m a b l D (ps a b l d m).1 (ps a b l d m).2 := by
  obtain ⟨hi, hf, -⟩ := h
  obtain ⟨f, h1, h2⟩ := hf rfl
  obtain ⟨i1, i2, i3, i4⟩ := ps_ok hR hn hi (Nat.le_refl m)
  cases f with
  | zero => omega
  | succ f =>
    have h3 : (if (ps a b l d m).2 = true then bf m a b l f (ps a b l d m).1 else (ps a b l d m).1) = D := h2
    refine ⟨i1, fun hc => ⟨f, by have := i3 hc; omega, by rw [if_pos hc] at h3; exact h3⟩, fun hc => by rw [hc] at h3; simpa using h3⟩
end Go.Proofs.Ytpmeccjfjjklkaa
