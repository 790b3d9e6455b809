/- What one sees from a place of a grid, in plain words; the reference's check of a sight. No condition. -/
import Derived.Test.YtpajakindpbepaaIdx
namespace Go.Proofs.Ytpajakindpbepaa
open Go.RowKit
set_option linter.unusedSimpArgs false
/-- The looks along a way: f left, from the k-th. -/
def seeL (G S : Nat → Nat) : Nat → Nat → Bool × Bool
  | 0, _ => (true, true)
  | f + 1, k => if (fin .f32 (G k) && fin .f32 (S k)) = true then (if fgt .f32 (G k) (S k) = true then (false, true) else seeL G S f (k + 1)) else (false, false)
def farF (W f t : Nat) : Nat := lngN (dsq W t f)
def topF (X : Nat → Nat) (f E : Nat) : Nat := fop .add .f32 (X f) E
def endF (X : Nat → Nat) (W f t B : Nat) : Nat := fop .sub .f32 (X t) (dropF (farF W f t) B)
def seeX (W f t T : Nat) : Nat := mixF (fofI .f32 ((f : Int) % (W : Int))) (fofI .f32 ((t : Int) % (W : Int))) T
def seeY (W f t T : Nat) : Nat := mixF (fofI .f32 ((f : Int) / (W : Int))) (fofI .f32 ((t : Int) / (W : Int))) T
/-- The ground, and the sight, at the k-th look of s. -/
def grdF (X : Nat → Nat) (W D f t B s k : Nat) : Nat := fop .sub .f32 (htF X W D (seeX W f t (shrF k s)) (seeY W f t (shrF k s))) (dropF (fop .mul .f32 (farF W f t) (shrF k s)) B)
def sgtF (X : Nat → Nat) (W f t E B s k : Nat) : Nat := fop .add .f32 (topF X f E) (fop .mul .f32 (fop .sub .f32 (endF X W f t B) (topF X f E)) (shrF k s))
def seeF (X : Nat → Nat) (W D f t E B s : Nat) : Bool × Bool :=
  if (fin .f32 (topF X f E) && fin .f32 (endF X W f t B)) = true then seeL (grdF X W D f t B s) (sgtF X W f t E B s) (s - 1) 1 else (false, false)
/-- A place's column and row are within the grid's. -/
theorem see_inn {W D f t T : Nat} (h1 : 2 ≤ W) (h2 : W ≤ 16) (h3 : 2 ≤ D) (h4 : D ≤ 16) (hf : f < W * D) (ht : t < W * D) (hT : inn .f32 T 0 1) : inn .f32 (seeX W f t T) 0 ((W - 1 : Nat) : Rat) ∧ inn .f32 (seeY W f t T) 0 ((D - 1 : Nat) : Rat) := by
  unfold seeX seeY
  have e1 : (f : Int) % (W : Int) = ((f % W : Nat) : Int) := by omega
  have e2 : (t : Int) % (W : Int) = ((t % W : Nat) : Int) := by omega
  have e3 : (f : Int) / (W : Int) = ((f / W : Nat) : Int) := by simp
  have e4 : (t : Int) / (W : Int) = ((t / W : Nat) : Int) := by simp
  rw [e1, e2, e3, e4]
  have m1 := Nat.mod_lt f (show 0 < W by omega)
  have m2 := Nat.mod_lt t (show 0 < W by omega)
  have d1 : f / W < D := Nat.div_lt_of_lt_mul hf
  have d2 : t / W < D := Nat.div_lt_of_lt_mul ht
  exact ⟨mix_inn (by omega) (by omega) (by omega) hT, mix_inn (by omega) (by omega) (by omega) hT⟩
def eyesF (W H : Int) (n : Nat) (X : Nat → Nat) (f : Int) (E B : Nat) (s : Int) : Bool := idxOk W H n X f && sightF E B s
set_option maxRecDepth 100000 in
set_option maxHeartbeats 4000000 in
theorem l06Eyes_c (p b n c : Nat) (W H : Int) (X : Nat → Nat) (i : Int) (x y E B : Nat) (s : Int) (w : World) (hn : n ≤ 1048576) (c0 : w.cell? ⟨p, 0, none⟩ = some (.int .i64 W)) (c1 : w.cell? ⟨p, 1, none⟩ = some (.int .i64 H)) (c2 : w.cell? ⟨p, 2, none⟩ = some (.slice (some ⟨b, 0, none⟩) n c)) (hbl : b < w.heap.size) (hX : FlCells w b n X) (hx : cn .f32 x = E) (hy : cn .f32 y = B) :
    Calls Try.prog 67 #[.pointer (some ⟨p, 0, none⟩), .int .i64 i, .float .f32 x, .float .f32 y, .int .i64 s] w (Ret (RV (.bool (eyesF W H n X i E B s))) w) := by
  have hI := l06Index_c p b n c W H X i w hn c0 c1 c2 hbl hX
  have HL := Lib.hid (fun w => l02Least_c x E hx w)
  have HS := Lib.hid (fun w => l02Share_c y B hy w)
  have HW := Lib.hid (fun w => l00In_c s 1 64 w)
  clear hX c0 c1 c2
  unfold eyesF sightF
  generalize idxOk W H n X i = q1 at hI
  generalize leastF E = q2 at HL
  generalize shareF B = q3 at HS
  have HI := Lib.hid hI
  clear hI
  cases q1
  · go_enter Try.func67, Try.ntmps67
    go_wp2_with (first | (go_at_call 68; ((with_reducible refine (HI.out).mono ?_); rintro e w1 ⟨⟨v, rfl, rfl⟩, hb1⟩)))
    go_ret
    exact ⟨⟨_, rfl, by simp [RV]⟩, hb1⟩
  · cases q2
    · go_enter Try.func67, Try.ntmps67
      go_wp2_with (first | (go_at_call 68; ((with_reducible refine (HI.out).mono ?_); rintro e w1 ⟨⟨v, rfl, rfl⟩, hb1⟩)) | (go_at_call 104; ((with_reducible refine (HL.out _).mono ?_); rintro e w2 ⟨⟨v, rfl, rfl⟩, hb2⟩)))
      go_ret
      exact ⟨⟨_, rfl, by simp [RV]⟩, hb1.trans (hb2.mono hb1.size)⟩
    · cases q3
      · go_enter Try.func67, Try.ntmps67
        go_wp2_with (first | (go_at_call 68; ((with_reducible refine (HI.out).mono ?_); rintro e w1 ⟨⟨v, rfl, rfl⟩, hb1⟩)) | (go_at_call 104; ((with_reducible refine (HL.out _).mono ?_); rintro e w2 ⟨⟨v, rfl, rfl⟩, hb2⟩)) | (go_at_call 105; ((with_reducible refine (HS.out _).mono ?_); rintro e w3 ⟨⟨v, rfl, rfl⟩, hb3⟩)))
        go_ret
        have hB2 := hb1.trans (hb2.mono hb1.size)
        exact ⟨⟨_, rfl, by simp [RV]⟩, hB2.trans (hb3.mono hB2.size)⟩
      · go_enter Try.func67, Try.ntmps67
        go_wp2_with (first | (go_at_call 68; ((with_reducible refine (HI.out).mono ?_); rintro e w1 ⟨⟨v, rfl, rfl⟩, hb1⟩)) | (go_at_call 104; ((with_reducible refine (HL.out _).mono ?_); rintro e w2 ⟨⟨v, rfl, rfl⟩, hb2⟩)) | (go_at_call 105; ((with_reducible refine (HS.out _).mono ?_); rintro e w3 ⟨⟨v, rfl, rfl⟩, hb3⟩)) | (go_at_call 106; ((with_reducible refine (HW.out _).mono ?_); rintro e w' ⟨rfl, rfl⟩)))
        go_ret
        have hB2 := hb1.trans (hb2.mono hb1.size)
        exact ⟨⟨_, rfl, by simp [RV]⟩, hB2.trans (hb3.mono hB2.size)⟩
end Go.Proofs.Ytpajakindpbepaa
