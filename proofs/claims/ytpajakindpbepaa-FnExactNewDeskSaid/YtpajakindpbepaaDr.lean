/- The drains of a grid in plain words; how long small numbers are. No condition. -/
import Derived.Test.YtpajakindpbepaaNbi
namespace Go.Proofs.Ytpajakindpbepaa
open Go.RowKit
set_option linter.unusedSimpArgs false
def allB (f : Nat → Bool) (n : Nat) : Bool := (List.range n).all f
theorem allB_true {f : Nat → Bool} {n : Nat} (h : ∀ j, j < n → f j = true) : allB f n = true := by simpa [allB] using h
theorem allB_of {f : Nat → Bool} {n : Nat} (h : allB f n = true) : ∀ j, j < n → f j = true := by simpa [allB] using h
theorem allB_false {f : Nat → Bool} {n m : Nat} (hm : m < n) (h : f m = false) : allB f n = false := by
  unfold allB
  rw [Bool.eq_false_iff]
  intro e
  rw [List.all_eq_true] at e
  rw [e m (List.mem_range.2 hm)] at h
  exact absurd h (by decide)
def lngN (N : Nat) : Nat := fcv .f64 .f32 (fsq (fofI .f64 (N : Int)))
def fitsB (k k' : FloatKind) (x : Nat) : Bool := match k.format.read x with
  | .number s m p => !(k'.format.read (k'.format.write (.number s m p))).isInfinity
  | _ => true
theorem fits_ofB {k k' : FloatKind} {x : Nat} (h : fitsB k k' x = true) : fits k k' x := by
  intro s m p e
  unfold fitsB at h
  rw [e] at h
  simpa using h
theorem sub_all : ∀ u v : Fin 16, fop .sub .f32 (fofI .f32 (u.val : Int)) (fofI .f32 (v.val : Int)) = fofI .f32 ((u.val : Int) - (v.val : Int)) := by decide +kernel
theorem sq_all : ∀ u : Fin 31, fop .mul .f64 (fcv .f32 .f64 (fofI .f32 ((u.val : Int) - 15))) (fcv .f32 .f64 (fofI .f32 ((u.val : Int) - 15))) = fofI .f64 (((u.val : Int) - 15) * ((u.val : Int) - 15)) := by decide +kernel
theorem add_all : ∀ u v : Fin 16, fop .add .f64 (fofI .f64 ((u.val * u.val : Nat) : Int)) (fofI .f64 ((v.val * v.val : Nat) : Int)) = fofI .f64 ((u.val * u.val + v.val * v.val : Nat) : Int) := by decide +kernel
theorem fits_all : ∀ u : Fin 451, fitsB .f64 .f32 (fsq (fofI .f64 (u.val : Int))) = true := by decide +kernel
theorem sub_small {u v : Int} (h1 : 0 ≤ u) (h2 : u ≤ 15) (h3 : 0 ≤ v) (h4 : v ≤ 15) : fop .sub .f32 (fofI .f32 u) (fofI .f32 v) = fofI .f32 (u - v) := by
  have h := sub_all ⟨u.toNat, by omega⟩ ⟨v.toNat, by omega⟩
  simp only [Int.toNat_of_nonneg h1, Int.toNat_of_nonneg h3] at h
  exact h
/-- The square of how far two places are apart. -/
def dsq (W i k : Nat) : Nat := ((i : Int) % (W : Int) - (k : Int) % (W : Int)).natAbs * ((i : Int) % (W : Int) - (k : Int) % (W : Int)).natAbs + ((i : Int) / (W : Int) - (k : Int) / (W : Int)).natAbs * ((i : Int) / (W : Int) - (k : Int) / (W : Int)).natAbs
theorem sq_small {a : Int} (h1 : -15 ≤ a) (h2 : a ≤ 15) : fop .mul .f64 (fcv .f32 .f64 (fofI .f32 a)) (fcv .f32 .f64 (fofI .f32 a)) = fofI .f64 ((a.natAbs * a.natAbs : Nat) : Int) := by
  have h := sq_all ⟨(a + 15).toNat, by omega⟩
  have e : (((a + 15).toNat : Nat) : Int) - 15 = a := by omega
  simp only [e] at h
  rw [h, ← Int.natAbs_mul_self' a, Int.natCast_mul]
theorem pww_small {a b : Int} (h1 : -15 ≤ a) (h2 : a ≤ 15) (h3 : -15 ≤ b) (h4 : b ≤ 15) : pww (fofI .f32 a) (fofI .f32 b) = fofI .f64 ((a.natAbs * a.natAbs + b.natAbs * b.natAbs : Nat) : Int) := by
  unfold pww
  rw [sq_small h1 h2, sq_small h3 h4]
  exact add_all ⟨a.natAbs, by omega⟩ ⟨b.natAbs, by omega⟩
theorem sq_le {a : Nat} (h : a ≤ 15) : a * a ≤ 225 := Nat.mul_le_mul h h
theorem lng_small {a b : Int} (h1 : -15 ≤ a) (h2 : a ≤ 15) (h3 : -15 ≤ b) (h4 : b ≤ 15) : lng (fofI .f32 a) (fofI .f32 b) = lngN (a.natAbs * a.natAbs + b.natAbs * b.natAbs) ∧ fits .f64 .f32 (fsq (pww (fofI .f32 a) (fofI .f32 b))) := by
  have e := pww_small h1 h2 h3 h4
  refine ⟨by unfold lng lngN; rw [e], ?_⟩
  rw [e]
  have ha := sq_le (show a.natAbs ≤ 15 by omega)
  have hb := sq_le (show b.natAbs ≤ 15 by omega)
  exact fits_ofB (fits_all ⟨a.natAbs * a.natAbs + b.natAbs * b.natAbs, by omega⟩)
/-- Column and row of a place of a grid. -/
theorem col_bnd {W H i : Nat} (h1 : 2 ≤ W) (h2 : W ≤ 16) (h3 : 2 ≤ H) (h4 : H ≤ 16) (hi : i < W * H) : (0 ≤ (i : Int) % (W : Int) ∧ (i : Int) % (W : Int) ≤ 15) ∧ (0 ≤ (i : Int) / (W : Int) ∧ (i : Int) / (W : Int) ≤ 15) := by
  have hx := IxOk.mk' h1 h2 h3 h4 hi
  have e1 := hx.rem
  have e2 : ((i / W : Nat) : Int) = (i : Int) / (W : Int) := by simp
  have h5 := hx.2.2.1
  have h6 := hx.2.2.2.1
  rw [e1, ← e2]
  generalize i / W = q at *
  generalize i % W = r at *
  omega
/-- How steeply a place falls to another one. -/
def fal (X : Nat → Nat) (W i k : Nat) : Nat := fop .quo .f32 (fop .sub .f32 (X i) (X k)) (lngN (dsq W i k))
def drS (X : Nat → Nat) (W i : Nat) (L : List Nat) : Nat → Int × Nat
  | 0 => (-1, 0)
  | t + 1 => if fgt .f32 (fal X W i ((L[t]?).getD 0)) (drS X W i L t).2 then (((((L[t]?).getD 0) : Nat) : Int), fal X W i ((L[t]?).getD 0)) else drS X W i L t
def drF (X : Nat → Nat) (W i : Nat) (L : List Nat) : Bool := allB (fun t => fin .f32 (fal X W i ((L[t]?).getD 0))) L.length
def nbs (W H i : Nat) : List Nat := nbL W H (i % W) (i / W) i 9
def drB (X : Nat → Nat) (W H i : Nat) : Int := (drS X W i (nbs W H i) (nbs W H i).length).1
def drOk (X : Nat → Nat) (W H n : Nat) : Bool := allB (fun i => drF X W i (nbs W H i)) n
/-- A neighbour is a place of the grid. -/
theorem nbL_mem {W H X Y i k : Nat} : ∀ {t : Nat}, k ∈ nbL W H X Y i t → ∃ s, s < t ∧ nbOk W H X Y i s = true ∧ k = nbV W X Y s
  | 0, h => absurd h (by simp [nbL])
  | t + 1, h => by
    unfold nbL at h
    split at h
    · rename_i hok
      rw [List.mem_append] at h
      rcases h with h | h
      · obtain ⟨s, h1, h2⟩ := nbL_mem h
        exact ⟨s, by omega, h2⟩
      · exact ⟨t, by omega, hok, by simpa using h⟩
    · obtain ⟨s, h1, h2⟩ := nbL_mem h
      exact ⟨s, by omega, h2⟩
theorem nbV_lt {W H X Y i s : Nat} (hW : 2 ≤ W) (h : nbOk W H X Y i s = true) : nbV W X Y s < W * H := by
  unfold nbOk at h
  simp only [Bool.and_eq_true, decide_eq_true_eq] at h
  obtain ⟨⟨h1, h2⟩, ⟨h3, h4⟩, -⟩ := h
  unfold nbV
  have a : nV Y s * (W : Int) ≤ ((H : Int) - 1) * (W : Int) := Int.mul_le_mul_of_nonneg_right h4 (by omega)
  have b : 0 ≤ nV Y s * (W : Int) := Int.mul_nonneg h3 (by omega)
  have c : ((H : Int) - 1) * (W : Int) = ((W * H : Nat) : Int) - (W : Int) := by rw [Int.sub_mul, Int.natCast_mul, Int.mul_comm (H : Int), Int.one_mul]
  omega
theorem nbs_lt {W H i t : Nat} (hW : 2 ≤ W) (ht : t < (nbs W H i).length) : ((nbs W H i)[t]?).getD 0 < W * H := by
  have hm : ((nbs W H i)[t]?).getD 0 ∈ nbs W H i := by rw [List.getElem?_eq_getElem ht]; exact List.getElem_mem ht
  obtain ⟨s, -, h1, h2⟩ := nbL_mem hm
  rw [h2]
  exact nbV_lt hW h1
theorem nbs_len (W H i : Nat) : (nbs W H i).length ≤ 9 := nbL_len _ _ _ _ _ _
theorem dsq_comm (W i k : Nat) : dsq W i k = dsq W k i := by
  unfold dsq
  rw [← Int.natAbs_neg ((i : Int) % (W : Int) - (k : Int) % (W : Int)), ← Int.natAbs_neg ((i : Int) / (W : Int) - (k : Int) / (W : Int)), Int.neg_sub, Int.neg_sub]
/-- Two places' numbers taken from each other. -/
theorem away {W H i k : Nat} (h1 : 2 ≤ W) (h2 : W ≤ 16) (h3 : 2 ≤ H) (h4 : H ≤ 16) (hi : i < W * H) (hk : k < W * H) :
    lng (fop .sub .f32 (fofI .f32 ((i : Int) % (W : Int))) (fofI .f32 ((k : Int) % (W : Int)))) (fop .sub .f32 (fofI .f32 ((i : Int) / (W : Int))) (fofI .f32 ((k : Int) / (W : Int)))) = lngN (dsq W i k) ∧
    fits .f64 .f32 (fsq (pww (fop .sub .f32 (fofI .f32 ((i : Int) % (W : Int))) (fofI .f32 ((k : Int) % (W : Int)))) (fop .sub .f32 (fofI .f32 ((i : Int) / (W : Int))) (fofI .f32 ((k : Int) / (W : Int)))))) := by
  obtain ⟨⟨a1, a2⟩, a3, a4⟩ := col_bnd h1 h2 h3 h4 hi
  obtain ⟨⟨b1, b2⟩, b3, b4⟩ := col_bnd h1 h2 h3 h4 hk
  rw [sub_small a1 a2 b1 b2, sub_small a3 a4 b3 b4]
  exact lng_small (by omega) (by omega) (by omega) (by omega)
end Go.Proofs.Ytpajakindpbepaa
