/- Contract of impl.SeesPlace. No condition. -/
import Derived.Test.YtpajakindpbepaaSeei
namespace Go.Proofs.Ytpajakindpbepaa
open Go.RowKit
set_option linter.unusedSimpArgs false
set_option maxRecDepth 100000 in
set_option maxHeartbeats 4000000 in
theorem iSeesPlace_c (W H : Int) (b n c : Nat) (X : Nat → Nat) (f t : Int) (x y E B : Nat) (s : Int) (w : World) (hn : n ≤ 1048576) (hbl : b < w.heap.size) (hX : FlCells w b n X) (hx : cn .f32 x = E) (hy : cn .f32 y = B) :
    Calls Try.prog 30 #[.agg #[.int .i64 W, .int .i64 H, .slice (some ⟨b, 0, none⟩) n c], .int .i64 f, .int .i64 t, .float .f32 x, .float .f32 y, .int .i64 s] w (Ret (two (spF W H n X f t E B s)) w) := by
  have hN := gtc.newAt (w := w) (p := w.heap.size) (u := .int .i64 W) (v := .int .i64 H) (z := .slice (some ⟨b, 0, none⟩) n c) rfl
  have hb0 : Below w.heap.size w (w.alloc (.cells #[.int .i64 W, .int .i64 H, .slice (some ⟨b, 0, none⟩) n c] 30)) := by (with_reducible repeat (first | exact Below.refl _ _ | apply below_alloc | apply below_dN | apply below_d | refine below_setCell ?_ (by dsimp only; omega) | refine below_call (by assumption) ?_))
  have hs0 : (w.alloc (.cells #[.int .i64 W, .int .i64 H, .slice (some ⟨b, 0, none⟩) n c] 30)).heap.size = w.heap.size + 1 := by simp
  have hI := fun (i : Int) (w' : World) (hB : Below w.heap.size w w') => isPlaceOf_c b n c W H X i w' hn (Nat.lt_of_lt_of_le hbl hB.size) (hX.dn hbl hB)
  have hE := fun (w' : World) => isSight_c x y E B s hx hy w'
  have hS : spOk W H n X f t E B s = true → ∀ (w' : World) (hB : Below w.heap.size w w'), Calls Try.prog 72 #[.agg #[.int .i64 W, .int .i64 H, .slice (some ⟨b, 0, none⟩) n c], .int .i64 f, .int .i64 t, .float .f32 x, .float .f32 y, .int .i64 s] w' (Ret (two (seeF X W.toNat H.toNat f.toNat t.toNat E B s.toNat)) w') := by
    intro hk w' hB
    obtain ⟨a, d, f', t', s', rfl, rfl, rfl, rfl, rfl, g1, g2, g3, g4, hnn, -, hf, ht, q1, q2, -, hsh⟩ := spOk_facts hk
    simp only [Int.toNat_natCast]
    exact sees_c a d b n c f' t' x y E B s' X w' g1 g2 g3 g4 hnn (Nat.lt_of_lt_of_le hbl hB.size) (hX.dn hbl hB) hf ht hx hy q1 q2 hsh
  unfold spF
  generalize hk : spOk W H n X f t E B s = k at hS
  unfold spOk eyesF at hk
  have hI1 := hI f
  have hI2 := hI t
  generalize idxOk W H n X f = k1 at hI1 hk
  generalize sightF E B s = k2 at hE hk
  generalize idxOk W H n X t = k3 at hI2 hk
  have HE := Lib.hid hE
  have HI1 := Lib.hid hI1
  have HI2 := Lib.hid hI2
  have HS := Lib.hid hS
  have HB0 := Lib.hid hb0
  have j0 := hN.c0
  have j1 := hN.c1
  have j2 := hN.c2
  have jl := hN.lt
  have HN := Lib.hid hN
  clear hE hI hI1 hI2 hS hX hN hb0
  cases k1
  · subst hk
    go_enter Try.func30, Try.ntmps30
    go_wp2_with (first | (go_at_call 70; ((with_reducible refine (HI1.out _ HB0.out).mono ?_); rintro e w1 ⟨⟨v, rfl, rfl⟩, hb1⟩)))
    go_ret2
    exact ⟨⟨_, rfl, _, _, rfl, rfl, rfl⟩, HB0.out.trans (hb1.mono (by omega))⟩
  · cases k3
    · have hk' : k = false := by rw [← hk]; simp
      subst hk'
      clear hk
      go_enter Try.func30, Try.ntmps30
      go_wp2_with (first | (go_at_call 70; ((with_reducible refine (HI1.out _ HB0.out).mono ?_); rintro e w1 ⟨⟨v, rfl, rfl⟩, hb1⟩); have hB1 := HB0.out.trans (hb1.mono (by omega)); have j0 := (HN.out.below hb1).c0; have j1 := (HN.out.below hb1).c1; have j2 := (HN.out.below hb1).c2; have jl := (HN.out.below hb1).lt) | (go_at_call 70; ((with_reducible refine (HI2.out _ hB1).mono ?_); rintro e w2 ⟨⟨v, rfl, rfl⟩, hb2⟩)))
      go_ret2
      exact ⟨⟨_, rfl, _, _, rfl, rfl, rfl⟩, hB1.trans (hb2.mono hB1.size)⟩
    · cases k2
      · have hk' : k = false := by rw [← hk]; simp
        subst hk'
        clear hk
        go_enter Try.func30, Try.ntmps30
        go_wp2_with (first | (go_at_call 70; ((with_reducible refine (HI1.out _ HB0.out).mono ?_); rintro e w1 ⟨⟨v, rfl, rfl⟩, hb1⟩); have hB1 := HB0.out.trans (hb1.mono (by omega)); have j0 := (HN.out.below hb1).c0; have j1 := (HN.out.below hb1).c1; have j2 := (HN.out.below hb1).c2; have jl := (HN.out.below hb1).lt) | (go_at_call 70; ((with_reducible refine (HI2.out _ hB1).mono ?_); rintro e w2 ⟨⟨v, rfl, rfl⟩, hb2⟩)) | (go_at_call 71; ((with_reducible refine (HE.out _).mono ?_); rintro e w3 ⟨⟨v, rfl, rfl⟩, hb3⟩)))
        go_ret2
        have hB2 := hB1.trans (hb2.mono hB1.size)
        exact ⟨⟨_, rfl, _, _, rfl, rfl, rfl⟩, hB2.trans (hb3.mono hB2.size)⟩
      · have hk' : k = true := by rw [← hk]; simp
        subst hk'
        clear hk
        generalize seeF X W.toNat H.toNat f.toNat t.toNat E B s.toNat = R at HS ⊢
        have HN1 := Lib.hid (fun w' (hb : Below (w.alloc (.cells #[.int .i64 W, .int .i64 H, .slice (some ⟨b, 0, none⟩) n c] 30)).heap.size (w.alloc (.cells #[.int .i64 W, .int .i64 H, .slice (some ⟨b, 0, none⟩) n c] 30)) w') => HN.out.below hb)
        go_enter Try.func30, Try.ntmps30
        go_upto_region 3 with (first | (go_at_call 70; ((with_reducible refine (HI1.out _ HB0.out).mono ?_); rintro e w1 ⟨⟨v, rfl, rfl⟩, hb1⟩); have hB1 := HB0.out.trans (hb1.mono (by omega)); have hN1 := HN.out.below hb1; have j0 := hN1.c0; have j1 := hN1.c1; have j2 := hN1.c2; have jl := hN1.lt) | (go_at_call 70; ((with_reducible refine (HI2.out _ hB1).mono ?_); rintro e w2 ⟨⟨v, rfl, rfl⟩, hb2⟩)) | (go_at_call 71; ((with_reducible refine (HE.out _).mono ?_); rintro e w3 ⟨⟨v, rfl, rfl⟩, hb3⟩)))
        have hB2 := hB1.trans (hb2.mono hB1.size)
        have hB3 := hB2.trans (hb3.mono hB2.size)
        have hN3 := (hN1.below hb2).below hb3
        clear j0 j1 j2 jl hN1
        have j0 := hN3.c0
        have j1 := hN3.c1
        have j2 := hN3.c2
        have jl := hN3.lt
        clear hb1 hb2 hb3 hB1 hB2
        go_wp2_with (first | (go_at_call 72; ((with_reducible refine (HS.out trivial _ hB3).mono ?_); rintro e w4 ⟨⟨v, rfl, v1, v2, rfl, rfl, rfl⟩, hb4⟩)))
        go_ret2
        exact ⟨⟨_, rfl, _, _, rfl, rfl, rfl⟩, hB3.trans (hb4.mono hB3.size)⟩
end Go.Proofs.Ytpajakindpbepaa
