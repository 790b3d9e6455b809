/- Contracts of SeenFrom in both spellings, in plain words. No condition. -/
import Derived.Test.YtpajakindpbepaaSFi
namespace Go.Proofs.Ytpajakindpbepaa
open Go.RowKit
set_option linter.unusedSimpArgs false
def sfG (W H : Int) (X : Nat → Nat) (f : Int) (E B : Nat) (s : Int) (t : Nat) : Bool × Bool := seeF X W.toNat H.toNat f.toNat t E B s.toNat
def sfQ (W H : Int) (n : Nat) (X : Nat → Nat) (f : Int) (E B : Nat) (s : Int) : Bool := eyesF W H n X f E B s && sfK (sfG W H X f E B s) n
def SFR (W H : Int) (n : Nat) (X : Nat → Nat) (f : Int) (E B : Nat) (s : Int) : World → Ending → World → Prop := BRes (sfQ W H n X f E B s) (if sfQ W H n X f E B s then n else 0) (fun t => (sfG W H X f E B s t).1)
theorem SFR.no {W H : Int} {n : Nat} {X : Nat → Nat} {f : Int} {E B : Nat} {s : Int} {w : World} {e : Ending} {w' : World} (h : eyesF W H n X f E B s = false) (hx : BRes false 0 (fun t => (sfG W H X f E B s t).1) w e w') : SFR W H n X f E B s w e w' := by
  unfold SFR sfQ
  rw [h]
  exact hx
theorem SFR.yes {W H : Int} {n : Nat} {X : Nat → Nat} {f : Int} {E B : Nat} {s : Int} {w : World} {e : Ending} {w' : World} (h : eyesF W H n X f E B s = true) (hx : BRes (sfK (sfG W H X f E B s) n) (if sfK (sfG W H X f E B s) n = true then n else 0) (fun t => (sfG W H X f E B s t).1) w e w') : SFR W H n X f E B s w e w' := by
  unfold SFR sfQ
  rw [h, Bool.true_and]
  exact hx
theorem eyes_facts {W H : Int} {n : Nat} {X : Nat → Nat} {f : Int} {E B : Nat} {s : Int} (h : eyesF W H n X f E B s = true) :
    ∃ a d f' s' : Nat, W = a ∧ H = d ∧ f = f' ∧ s = s' ∧ 2 ≤ a ∧ a ≤ 16 ∧ 2 ≤ d ∧ d ≤ 16 ∧ n = a * d ∧ f' < n ∧ 1 ≤ s' ∧ s' ≤ 64 ∧ shareF B = true ∧ idxOk W H n X f = true ∧ sightF E B s = true := by
  have h' := h
  unfold eyesF at h
  rw [Bool.and_eq_true] at h
  have ho : spOk W H n X f f E B s = true := by unfold spOk; rw [h', h.1]; rfl
  obtain ⟨a, d, f', t', s', e1, e2, e3, e4, e5, g1, g2, g3, g4, hn, -, hf, -, q1, q2, -, hsh⟩ := spOk_facts ho
  exact ⟨a, d, f', s', e1, e2, e3, e5, g1, g2, g3, g4, hn, hf, q1, q2, hsh, h.1, h.2⟩
set_option maxRecDepth 100000 in
set_option maxHeartbeats 2000000 in
theorem sSeenFrom_c (W H : Int) (b n c : Nat) (X : Nat → Nat) (f : Int) (x y E B : Nat) (s : Int) (w : World) (hn : n ≤ 1048576) (hbl : b < w.heap.size) (hX : FlCells w b n X) (hx : cn .f32 x = E) (hy : cn .f32 y = B) :
    Calls Try.prog 31 #[.agg #[.int .i64 W, .int .i64 H, .slice (some ⟨b, 0, none⟩) n c], .int .i64 f, .float .f32 x, .float .f32 y, .int .i64 s] w (SFR W H n X f E B s w) := by
  have hN := gtc.newAt (w := w) (p := w.heap.size) (u := .int .i64 W) (v := .int .i64 H) (z := .slice (some ⟨b, 0, none⟩) n c) rfl
  have hb0 : Below w.heap.size w (w.alloc (.cells #[.int .i64 W, .int .i64 H, .slice (some ⟨b, 0, none⟩) n c] 30)) := by (with_reducible repeat (first | exact Below.refl _ _ | apply below_alloc | apply below_dN | apply below_d | refine below_setCell ?_ (by dsimp only; omega) | refine below_call (by assumption) ?_))
  have hs0 : (w.alloc (.cells #[.int .i64 W, .int .i64 H, .slice (some ⟨b, 0, none⟩) n c] 30)).heap.size = w.heap.size + 1 := by simp
  have hI := l06Eyes_c w.heap.size b n c W H X f x y E B s _ hn hN.c0 hN.c1 hN.c2 (by omega) (hX.dn hbl hb0) hx hy
  cases hq : eyesF W H n X f E B s
  · refine Calls.mono ?_ (fun e w' h => SFR.no hq h)
    rw [hq] at hI
    have HI := Lib.hid hI
    clear hI hX hq hN
    go_enter Try.func31, Try.ntmps31
    go_wp2_with (go_at_call 67; ((with_reducible refine (HI.out).mono ?_); rintro e w1 ⟨⟨v, rfl, rfl⟩, hb1⟩))
    go_ret2
    exact BRes.nil (hb0.trans (hb1.mono (by omega)))
  · refine Calls.mono ?_ (fun e w' h => SFR.yes hq h)
    rw [hq] at hI
    obtain ⟨a, d, f', s', rfl, rfl, rfl, rfl, g1, g2, g3, g4, hnn, hf, q1, q2, hsh, -, -⟩ := eyes_facts hq
    have hwm : IntKind.i64.wrap ((a : Int) * (d : Int)) = (n : Int) := by
      have e : (a : Int) * (d : Int) = (n : Int) := by rw [hnn, Int.natCast_mul]
      have : n ≤ 256 := by rw [hnn]; exact Nat.mul_le_mul g2 g4
      rw [e, IntKind.wrap_i64]
      omega
    refine sSeen_loop a d b n c f' x y s' (sfG (a : Int) (d : Int) X (f' : Int) E B (s' : Int)) w (by rw [hnn]; exact Nat.mul_le_mul g2 g4) hwm hI (fun t ht w' hB => ?_)
    have hB' : Below (w.alloc (.cells #[.int .i64 (a : Int), .int .i64 (d : Int), .slice (some ⟨b, 0, none⟩) n c] 30)).heap.size (w.alloc (.cells #[.int .i64 (a : Int), .int .i64 (d : Int), .slice (some ⟨b, 0, none⟩) n c] 30)) w' := by rw [hs0]; exact hB
    have hN' := hN.below hB'
    have hB2 := hb0.trans (hB'.mono (by omega))
    unfold sfG
    simp only [Int.toNat_natCast]
    exact l06Sees_c w.heap.size a d b n c f' t x y E B s' X w' g1 g2 g3 g4 hnn hN'.c0 hN'.c1 hN'.c2 (Nat.lt_of_lt_of_le hbl hB2.size) (hX.dn hbl hB2) hf ht hx hy q1 q2
set_option maxRecDepth 100000 in
set_option maxHeartbeats 2000000 in
theorem iSeenFrom_c (W H : Int) (b n c : Nat) (X : Nat → Nat) (f : Int) (x y E B : Nat) (s : Int) (w : World) (hn : n ≤ 1048576) (hbl : b < w.heap.size) (hX : FlCells w b n X) (hx : cn .f32 x = E) (hy : cn .f32 y = B) :
    Calls Try.prog 32 #[.agg #[.int .i64 W, .int .i64 H, .slice (some ⟨b, 0, none⟩) n c], .int .i64 f, .float .f32 x, .float .f32 y, .int .i64 s] w (SFR W H n X f E B s w) := by
  have hb0 : Below w.heap.size w (w.alloc (.cells #[.int .i64 W, .int .i64 H, .slice (some ⟨b, 0, none⟩) n c] 30)) := by (with_reducible repeat (first | exact Below.refl _ _ | apply below_alloc | apply below_dN | apply below_d | refine below_setCell ?_ (by dsimp only; omega) | refine below_call (by assumption) ?_))
  have hs0 : (w.alloc (.cells #[.int .i64 W, .int .i64 H, .slice (some ⟨b, 0, none⟩) n c] 30)).heap.size = w.heap.size + 1 := by simp
  have hI := fun (w' : World) (hB : Below w.heap.size w w') => isPlaceOf_c b n c W H X f w' hn (Nat.lt_of_lt_of_le hbl hB.size) (hX.dn hbl hB)
  have hE := fun (w' : World) => isSight_c x y E B s hx hy w'
  cases hq : eyesF W H n X f E B s
  · refine Calls.mono ?_ (fun e w' h => SFR.no hq h)
    unfold eyesF at hq
    generalize idxOk W H n X f = k1 at hI hq
    generalize sightF E B s = k2 at hE hq
    have HI := Lib.hid (hI _ hb0)
    have HE := Lib.hid hE
    have HB0 := Lib.hid hb0
    clear hI hE hX hb0
    cases k1
    · go_enter Try.func32, Try.ntmps32
      go_wp2_with (go_at_call 70; ((with_reducible refine (HI.out).mono ?_); rintro e w1 ⟨⟨v, rfl, rfl⟩, hb1⟩))
      go_ret2
      exact BRes.nil (HB0.out.trans (hb1.mono (by omega)))
    · obtain rfl : k2 = false := by simpa using hq
      clear hq
      go_enter Try.func32, Try.ntmps32
      go_wp2_with (first | (go_at_call 70; ((with_reducible refine (HI.out).mono ?_); rintro e w1 ⟨⟨v, rfl, rfl⟩, hb1⟩)) | (go_at_call 71; ((with_reducible refine (HE.out _).mono ?_); rintro e w2 ⟨⟨v, rfl, rfl⟩, hb2⟩)))
      go_ret2
      have hB1 := HB0.out.trans (hb1.mono (by omega))
      exact BRes.nil (hB1.trans (hb2.mono hB1.size))
  · refine Calls.mono ?_ (fun e w' h => SFR.yes hq h)
    obtain ⟨a, d, f', s', rfl, rfl, rfl, rfl, g1, g2, g3, g4, hnn, hf, q1, q2, hsh, k1, k2⟩ := eyes_facts hq
    rw [k1] at hI
    rw [k2] at hE
    refine iSeen_loop a d b n c f' x y s' (sfG (a : Int) (d : Int) X (f' : Int) E B (s' : Int)) w (by rw [hnn]; exact Nat.mul_le_mul g2 g4) hI hE (fun t ht w' hB => ?_)
    unfold sfG
    simp only [Int.toNat_natCast]
    exact sees_c a d b n c f' t x y E B s' X w' g1 g2 g3 g4 hnn (Nat.lt_of_lt_of_le hbl hB.size) (hX.dn hbl hB) hf ht hx hy q1 q2 hsh
end Go.Proofs.Ytpajakindpbepaa
