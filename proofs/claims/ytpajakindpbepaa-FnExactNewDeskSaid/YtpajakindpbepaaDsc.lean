/- Where a place drains to lies lower: the drains come to an end. No condition. -/
import Derived.Test.YtpajakindpbepaaDr
import Derived.Test.YtpajakindpbepaaVal3
import Derived.Test.YtpajakindpbepaaInn
namespace Go.Proofs.Ytpajakindpbepaa
open Go.RowKit Ieee
set_option linter.unusedSimpArgs false
theorem word_sign (k : FloatKind) (neg : Bool) {rung : Nat} (h : rung < k.format.signWeight) {s : Bool} {m : Nat} {p : Int} (e : k.format.read (k.format.word neg rung) = .number s m p) : s = neg := by
  unfold Format.read at e
  simp only [word_mod k.format neg h, word_neg k.format neg h] at e
  split at e
  · injection e with e1; exact e1.symm
  · split at e
    · injection e with e1; exact e1.symm
    · split at e <;> cases e
theorem num_zero (k : FloatKind) : num k 0 := by cases k <;> exact num_of 0 (by decide +kernel)
theorem fv_zero (k : FloatKind) : fv k 0 = 0 := by cases k <;> decide +kernel
theorem Rd.pos {k : FloatKind} {e : Rat} {r : Nat} (h : Rd k e r) (hn : num k r) (hp : 0 < fv k r) : 0 < e := by
  obtain ⟨s, m, p, rfl, hb⟩ := h
  refine Rat.not_le.1 fun he => ?_
  have h1 : dval (.number s m p) ≤ 0 := by have := (hb 0 (num_zero k)).1.2; rw [fv_zero] at this; exact this he
  cases s
  · rw [dval_pos] at h1
    by_cases hm : m = 0
    · subst hm
      unfold fv at hp
      rw [nearest_zero] at hp
      simp [dval_pos] at hp
    · have : (0 : Rat) < m * p2 p := Rat.mul_pos (by exact_mod_cast Nat.pos_of_ne_zero hm) (p2_pos p)
      grind
  · obtain ⟨q, hq, e1⟩ := nearest_word k.format true m p
    rw [e1] at hn hp
    obtain ⟨s', m', p', e2⟩ := hn
    have := word_sign k true (Nat.lt_of_le_of_lt hq k.format.infRung_lt) e2
    subst this
    unfold fv at hp
    rw [e2, dval_neg] at hp
    have := sgn_nonneg m' p'
    grind
theorem not_num_inf (k : FloatKind) (s : Bool) : ¬ num k (k.format.write (.infinity s)) := by
  rintro ⟨s', m, p, e⟩
  have : ∀ s, (k.format.read (k.format.write (.infinity s))).isInfinity = true := by cases k <;> decide +kernel
  have h := this s
  rw [e] at h
  cases h
theorem not_num_qn (k : FloatKind) : ¬ num k (qn k) := fun h => by have := num_notnan h; rw [nanB_qn] at this; cases this
theorem quo_num {k : FloatKind} {x y : Nat} (hy : num k y) (h : num k (fop .quo k x y)) : num k x ∧ fv k y ≠ 0 := by
  obtain ⟨t, n, j, ey⟩ := hy
  cases ex : k.format.read x with
  | nan s f => exact absurd (by rw [show fop .quo k x y = qn k by simp only [fop, fopO, Format.div, ex]; rfl] at h; exact h) (not_num_qn k)
  | infinity s => exact absurd (by rw [show fop .quo k x y = k.format.write (.infinity (s ^^ t)) by simp only [fop, fopO, Format.div, ex, ey, Datum.quotient]; rfl] at h; exact h) (not_num_inf k _)
  | number s m i =>
    refine ⟨⟨_, _, _, ex⟩, fun h0 => ?_⟩
    have hn : n = 0 := by
      unfold fv at h0
      rw [ey] at h0
      by_cases hn : n = 0
      · exact hn
      · have : (0 : Rat) < n * p2 j := Rat.mul_pos (by exact_mod_cast Nat.pos_of_ne_zero hn) (p2_pos j)
        cases t
        · rw [dval_pos] at h0; grind
        · rw [dval_neg] at h0; grind
    subst hn
    by_cases hm : m = 0
    · exact not_num_qn k (by rw [show fop .quo k x y = qn k by simp only [fop, fopO, Format.div, ex, ey, Datum.quotient, if_pos hm, if_true]; rfl] at h; exact h)
    · exact not_num_inf k _ (by rw [show fop .quo k x y = k.format.write (.infinity (s ^^ t)) by simp only [fop, fopO, Format.div, ex, ey, Datum.quotient, if_neg hm, if_true]; rfl] at h; exact h)
theorem lng_all : ∀ N : Fin 451, (fin .f32 (lngN N.val) && !flt .f32 (lngN N.val) 0) = true := by decide +kernel
theorem lng_facts {N : Nat} (h : N ≤ 450) : num .f32 (lngN N) ∧ 0 ≤ fv .f32 (lngN N) := by
  have h1 := lng_all ⟨N, by omega⟩
  simp only [Bool.and_eq_true] at h1
  have h2 := (fin_num _).1 h1.1
  refine ⟨h2, ?_⟩
  have h3 := h1.2
  rw [flt_val h2 (num_zero _), fv_zero] at h3
  simp at h3
  grind
theorem dsq_le {W H i k : Nat} (h1 : 2 ≤ W) (h2 : W ≤ 16) (h3 : 2 ≤ H) (h4 : H ≤ 16) (hi : i < W * H) (hk : k < W * H) : dsq W i k ≤ 450 := by
  obtain ⟨⟨a1, a2⟩, a3, a4⟩ := col_bnd h1 h2 h3 h4 hi
  obtain ⟨⟨b1, b2⟩, b3, b4⟩ := col_bnd h1 h2 h3 h4 hk
  have ha := sq_le (show ((i : Int) % (W : Int) - (k : Int) % (W : Int)).natAbs ≤ 15 by omega)
  have hb := sq_le (show ((i : Int) / (W : Int) - (k : Int) / (W : Int)).natAbs ≤ 15 by omega)
  unfold dsq
  omega
theorem fal_desc {X : Nat → Nat} {W H i k : Nat} (h1 : 2 ≤ W) (h2 : W ≤ 16) (h3 : 2 ≤ H) (h4 : H ≤ 16) (hi : i < W * H) (hk : k < W * H) (ni : num .f32 (X i)) (nk : num .f32 (X k)) (hn : num .f32 (fal X W i k)) (hp : 0 < fv .f32 (fal X W i k)) : fv .f32 (X k) < fv .f32 (X i) := by
  obtain ⟨l1, l2⟩ := lng_facts (dsq_le h1 h2 h3 h4 hi hk)
  unfold fal at hn hp
  obtain ⟨d1, d2⟩ := quo_num l1 hn
  have q := (quo_rd d1 l1 d2).pos hn hp
  have hl : 0 < fv .f32 (lngN (dsq W i k)) := by grind
  have hd : 0 < fv .f32 (fop .sub .f32 (X i) (X k)) := by
    refine Rat.not_le.1 fun he => ?_
    rw [Rat.div_def] at q
    have h5 : 0 ≤ (fv .f32 (lngN (dsq W i k)))⁻¹ := Rat.le_of_lt (Rat.inv_pos.2 hl)
    have h6 := Rat.mul_nonneg (show 0 ≤ -fv .f32 (fop .sub .f32 (X i) (X k)) by grind) h5
    grind
  have := (sub_rd ni nk).pos d1 hd
  grind
/-- The best so far is none, or falls. -/
theorem drS_inv {X : Nat → Nat} {W i : Nat} {L : List Nat} (hf : ∀ t, t < L.length → num .f32 (fal X W i ((L[t]?).getD 0))) : ∀ t, t ≤ L.length →
    drS X W i L t = (-1, 0) ∨ ∃ j, j < t ∧ drS X W i L t = ((((L[j]?).getD 0 : Nat) : Int), fal X W i ((L[j]?).getD 0)) ∧ 0 < fv .f32 (fal X W i ((L[j]?).getD 0))
  | 0, _ => .inl rfl
  | t + 1, ht => by
    have ih := drS_inv hf t (by omega)
    unfold drS
    split
    · rename_i h
      refine .inr ⟨t, by omega, rfl, ?_⟩
      rcases ih with e | ⟨j, hj, e, hp⟩
      · rw [e, fgt_val (hf t (by omega)) (num_zero _), fv_zero] at h
        simpa using h
      · rw [e, fgt_val (hf t (by omega)) (hf j (by omega))] at h
        simp at h
        grind
    · rcases ih with e | ⟨j, hj, e, hp⟩
      · exact .inl e
      · exact .inr ⟨j, by omega, e, hp⟩
/-- How many are lower. -/
def rank (n : Nat) (v : Nat → Rat) (a : Nat) : Nat := ((List.range n).countP fun j => decide (v j < v a))
theorem rank_le (n : Nat) (v : Nat → Rat) (a : Nat) : rank n v a ≤ n := by
  have := List.countP_le_length (p := fun j => decide (v j < v a)) (l := List.range n)
  simpa [rank] using this
theorem countP_lt {p q : Nat → Bool} {i : Nat} (hp : p i = false) (hq : q i = true) (h : ∀ j, p j = true → q j = true) : ∀ (l : List Nat), i ∈ l → l.countP p < l.countP q
  | [], hi => by simp at hi
  | a :: l, hi => by
    have hle : l.countP p ≤ l.countP q := List.countP_mono_left fun x _ hx => h x hx
    rcases List.mem_cons.1 hi with rfl | hi'
    · rw [List.countP_cons, List.countP_cons, hp, hq]; simp; omega
    · have := countP_lt hp hq h l hi'
      rw [List.countP_cons, List.countP_cons]
      cases e : p a
      · simp; omega
      · rw [h a e]; simp; omega
theorem rank_lt {n : Nat} {v : Nat → Rat} {a k : Nat} (hk : k < n) (h : v k < v a) : rank n v k < rank n v a :=
  countP_lt (i := k) (by simp) (by simpa using h) (fun j hj => by simp at hj ⊢; grind) _ (List.mem_range.2 hk)
theorem rank_lt_n {n : Nat} {v : Nat → Rat} {a : Nat} (ha : a < n) : rank n v a < n := by
  have := countP_lt (p := fun j => decide (v j < v a)) (q := fun _ => true) (i := a) (by simp) rfl (fun _ _ => rfl) (List.range n) (List.mem_range.2 ha)
  simpa [rank] using this
/-- Drains end: each is none or goes to a place of lower rank. -/
def Desc (D : Nat → Int) (R : Nat → Nat) (n : Nat) : Prop := (∀ a, a < n → R a < n) ∧ ∀ a, a < n → (D a < 0 ∧ D a = -1) ∨ ∃ k : Nat, D a = (k : Int) ∧ k < n ∧ R k < R a
theorem drB_desc {X : Nat → Nat} {W H n : Nat} (hg : gridOk (W : Int) (H : Int) n X = true) (h : drOk X W H n = true) : Desc (drB X W H) (rank n (fun a => fv .f32 (X a))) n := by
  obtain ⟨a, b, ha, hb, h1, h2, h3, h4, hn, hfin⟩ := gridOk_facts hg
  obtain rfl : W = a := by omega
  obtain rfl : H = b := by omega
  refine ⟨fun a ha => rank_lt_n ha, fun i hi => ?_⟩
  have hf : ∀ t, t < (nbs W H i).length → num .f32 (fal X W i (((nbs W H i)[t]?).getD 0)) := fun t ht => (fin_num _).1 (allB_of (allB_of h i hi) t ht)
  unfold drB
  rcases drS_inv hf (nbs W H i).length (Nat.le_refl _) with e | ⟨j, hj, e, hp⟩
  · rw [e]; exact .inl ⟨by decide, rfl⟩
  · rw [e]
    have hk := nbs_lt (H := H) (i := i) h1 hj
    exact .inr ⟨_, rfl, hn ▸ hk, rank_lt (hn ▸ hk) (fal_desc h1 h2 h3 h4 (hn ▸ hi) hk ((fin_num _).1 (hfin i hi)) ((fin_num _).1 (hfin _ (hn ▸ hk))) (hf j hj) hp)⟩
/-- Where a place's water ends. -/
def skO (D : Nat → Int) : Nat → Nat → Nat
  | 0, a => a
  | f + 1, a => if D a < 0 then a else skO D f (D a).toNat
theorem skO_stable {D : Nat → Int} {R : Nat → Nat} {n : Nat} (h : Desc D R n) : ∀ (f a : Nat), a < n → R a ≤ f → skO D f a = skO D (f + 1) a
  | 0, a, ha, hr => by
    rcases h.2 a ha with ⟨e, -⟩ | ⟨k, e, hk, hlt⟩
    · simp only [skO, if_pos e]
    · omega
  | f + 1, a, ha, hr => by
    rcases h.2 a ha with ⟨e, -⟩ | ⟨k, e, hk, hlt⟩
    · simp only [skO, if_pos e]
    · have := skO_stable h f k hk (by omega)
      unfold skO
      rw [e]
      rw [Int.toNat_natCast]
      rw [this]
def snk (D : Nat → Int) (n a : Nat) : Nat := skO D n a
theorem snk_end {D : Nat → Int} {R : Nat → Nat} {n a : Nat} (h : Desc D R n) (ha : a < n) (e : D a < 0) : snk D n a = a := by
  unfold snk
  cases n
  · omega
  · simp only [skO, if_pos e]
theorem snk_step {D : Nat → Int} {R : Nat → Nat} {n a k : Nat} (h : Desc D R n) (ha : a < n) (e : D a = (k : Int)) (_hk : k < n) : snk D n a = snk D n k := by
  unfold snk
  have h1 := h.1 a ha
  rw [skO_stable h n a ha (by omega)]
  conv => lhs; unfold skO
  rw [e, if_neg (by omega), Int.toNat_natCast]
end Go.Proofs.Ytpajakindpbepaa
