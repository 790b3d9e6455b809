/- Contract of spec.SeesPlace. No condition. -/
import Derived.Test.YtpajakindpbepaaSees
namespace Go.Proofs.Ytpajakindpbepaa
open Go.RowKit
set_option linter.unusedSimpArgs false
def spOk (W H : Int) (n : Nat) (X : Nat → Nat) (f t : Int) (E B : Nat) (s : Int) : Bool := eyesF W H n X f E B s && idxOk W H n X t
def spF (W H : Int) (n : Nat) (X : Nat → Nat) (f t : Int) (E B : Nat) (s : Int) : Bool × Bool := if spOk W H n X f t E B s = true then seeF X W.toNat H.toNat f.toNat t.toNat E B s.toNat else (false, false)
theorem spOk_facts {W H : Int} {n : Nat} {X : Nat → Nat} {f t : Int} {E B : Nat} {s : Int} (h : spOk W H n X f t E B s = true) :
    ∃ a d f' t' s' : Nat, W = a ∧ H = d ∧ f = f' ∧ t = t' ∧ s = s' ∧ 2 ≤ a ∧ a ≤ 16 ∧ 2 ≤ d ∧ d ≤ 16 ∧ n = a * d ∧ (∀ j, j < n → fin .f32 (X j) = true) ∧ f' < n ∧ t' < n ∧ 1 ≤ s' ∧ s' ≤ 64 ∧ leastF E = true ∧ shareF B = true := by
  unfold spOk eyesF idxOk sightF at h
  simp only [Bool.and_eq_true, decide_eq_true_eq] at h
  obtain ⟨⟨⟨hg, h1, h2⟩, ⟨hE, hB⟩, h3, h4⟩, -, h5, h6⟩ := h
  obtain ⟨a, d, e1, e2, g1, g2, g3, g4, hn, hfin⟩ := gridOk_facts hg
  exact ⟨a, d, f.toNat, t.toNat, s.toNat, e1, e2, by omega, by omega, by omega, g1, g2, g3, g4, hn, hfin, by omega, by omega, by omega, by omega, hE, hB⟩
set_option maxRecDepth 100000 in
set_option maxHeartbeats 4000000 in
theorem sSeesPlace_c (W H : Int) (b n c : Nat) (X : Nat → Nat) (f t : Int) (x y E B : Nat) (s : Int) (w : World) (hn : n ≤ 1048576) (hbl : b < w.heap.size) (hX : FlCells w b n X) (hx : cn .f32 x = E) (hy : cn .f32 y = B) :
    Calls Try.prog 29 #[.agg #[.int .i64 W, .int .i64 H, .slice (some ⟨b, 0, none⟩) n c], .int .i64 f, .int .i64 t, .float .f32 x, .float .f32 y, .int .i64 s] w (Ret (two (spF W H n X f t E B s)) w) := by
  have hN := gtc.newAt (w := w) (p := w.heap.size) (u := .int .i64 W) (v := .int .i64 H) (z := .slice (some ⟨b, 0, none⟩) n c) rfl
  have hb0 : Below w.heap.size w (w.alloc (.cells #[.int .i64 W, .int .i64 H, .slice (some ⟨b, 0, none⟩) n c] 30)) := by (with_reducible repeat (first | exact Below.refl _ _ | apply below_alloc | apply below_dN | apply below_d | refine below_setCell ?_ (by dsimp only; omega) | refine below_call (by assumption) ?_))
  have hs0 : (w.alloc (.cells #[.int .i64 W, .int .i64 H, .slice (some ⟨b, 0, none⟩) n c] 30)).heap.size = w.heap.size + 1 := by simp
  generalize hV : (w.alloc (.cells #[.int .i64 W, .int .i64 H, .slice (some ⟨b, 0, none⟩) n c] 30)) = V0 at hN hb0 hs0
  have hE := fun (w' : World) (hB : Below V0.heap.size V0 w') => l06Eyes_c w.heap.size b n c W H X f x y E B s w' hn (hN.below hB).c0 (hN.below hB).c1 (hN.below hB).c2 (Nat.lt_of_lt_of_le hbl (hb0.trans (hB.mono (by omega))).size) (hX.dn hbl (hb0.trans (hB.mono (by omega)))) hx hy
  have hI := fun (w' : World) (hB : Below V0.heap.size V0 w') => l06Index_c w.heap.size b n c W H X t w' hn (hN.below hB).c0 (hN.below hB).c1 (hN.below hB).c2 (Nat.lt_of_lt_of_le hbl (hb0.trans (hB.mono (by omega))).size) (hX.dn hbl (hb0.trans (hB.mono (by omega))))
  have hS : spOk W H n X f t E B s = true → ∀ (w' : World) (hB : Below V0.heap.size V0 w'), Calls Try.prog 69 #[.pointer (some ⟨w.heap.size, 0, none⟩), .int .i64 f, .int .i64 t, .float .f32 x, .float .f32 y, .int .i64 s] w' (Ret (two (seeF X W.toNat H.toNat f.toNat t.toNat E B s.toNat)) w') := by
    intro hk w' hB
    obtain ⟨a, d, f', t', s', rfl, rfl, rfl, rfl, rfl, g1, g2, g3, g4, hnn, -, hf, ht, q1, q2, -, -⟩ := spOk_facts hk
    simp only [Int.toNat_natCast]
    exact l06Sees_c w.heap.size a d b n c f' t' x y E B s' X w' g1 g2 g3 g4 hnn (hN.below hB).c0 (hN.below hB).c1 (hN.below hB).c2 (Nat.lt_of_lt_of_le hbl (hb0.trans (hB.mono (by omega))).size) (hX.dn hbl (hb0.trans (hB.mono (by omega)))) hf ht hx hy q1 q2
  unfold spF
  generalize hk : spOk W H n X f t E B s = k at hS
  unfold spOk at hk
  generalize eyesF W H n X f E B s = k1 at hE hk
  generalize idxOk W H n X t = k2 at hI hk
  have HE := Lib.hid hE
  have HI := Lib.hid hI
  have HS := Lib.hid hS
  have HB0 := Lib.hid hb0
  subst hV
  clear hE hI hS hX hN hb0
  cases k1
  · subst hk
    go_enter Try.func29, Try.ntmps29
    go_wp2_with (first | (go_at_call 67; ((with_reducible refine (HE.out _ (Below.refl _ _)).mono ?_); rintro e w1 ⟨⟨v, rfl, rfl⟩, hb1⟩)))
    go_ret2
    exact ⟨⟨_, rfl, _, _, rfl, rfl, rfl⟩, HB0.out.trans (hb1.mono (by omega))⟩
  · cases k2
    · subst hk
      go_enter Try.func29, Try.ntmps29
      go_wp2_with (first | (go_at_call 67; ((with_reducible refine (HE.out _ (Below.refl _ _)).mono ?_); rintro e w1 ⟨⟨v, rfl, rfl⟩, hb1⟩)) | (go_at_call 68; ((with_reducible refine (HI.out _ hb1).mono ?_); rintro e w2 ⟨⟨v, rfl, rfl⟩, hb2⟩)))
      go_ret2
      exact ⟨⟨_, rfl, _, _, rfl, rfl, rfl⟩, HB0.out.trans ((hb1.trans (hb2.mono hb1.size)).mono (by omega))⟩
    · subst hk
      generalize seeF X W.toNat H.toNat f.toNat t.toNat E B s.toNat = R at HS ⊢
      go_enter Try.func29, Try.ntmps29
      go_wp2_with (first | (go_at_call 67; ((with_reducible refine (HE.out _ (Below.refl _ _)).mono ?_); rintro e w1 ⟨⟨v, rfl, rfl⟩, hb1⟩)) | (go_at_call 68; ((with_reducible refine (HI.out _ hb1).mono ?_); rintro e w2 ⟨⟨v, rfl, rfl⟩, hb2⟩)) | (go_at_call 69; have hB2 := hb1.trans (hb2.mono hb1.size); ((with_reducible refine (HS.out rfl _ hB2).mono ?_); rintro e w3 ⟨⟨v, rfl, v1, v2, rfl, rfl, rfl⟩, hb3⟩)))
      go_ret2
      exact ⟨⟨_, rfl, _, _, rfl, rfl, rfl⟩, HB0.out.trans ((hB2.trans (hb3.mono hB2.size)).mono (by omega))⟩
end Go.Proofs.Ytpajakindpbepaa
