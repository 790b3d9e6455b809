/- Contract of impl.SeenFrom. No condition. -/
import Derived.Test.YtpajakindpbepaaSFs
import Derived.Test.YtpajakindpbepaaSPi
namespace Go.Proofs.Ytpajakindpbepaa
open Go.RowKit
set_option linter.unusedSimpArgs false
set_option maxRecDepth 100000 in
set_option maxHeartbeats 4000000 in
theorem iSeen_loop (W D b n c : Nat) (f : Int) (x y : Nat) (s : Int) (G : Nat → Bool × Bool) (w : World) (hnb : n ≤ 256)
    (hI : ∀ w', Below w.heap.size w w' → Calls Try.prog 70 #[.agg #[.int .i64 (W : Int), .int .i64 (D : Int), .slice (some ⟨b, 0, none⟩) n c], .int .i64 f] w' (Ret (RV (.bool true)) w'))
    (hE : ∀ w', Calls Try.prog 71 #[.float .f32 x, .float .f32 y, .int .i64 s] w' (Ret (RV (.bool true)) w'))
    (hS : ∀ t, t < n → ∀ w', Below w.heap.size w w' → Calls Try.prog 72 #[.agg #[.int .i64 (W : Int), .int .i64 (D : Int), .slice (some ⟨b, 0, none⟩) n c], .int .i64 f, .int .i64 (t : Nat), .float .f32 x, .float .f32 y, .int .i64 s] w' (Ret (two (G t)) w')) :
    Calls Try.prog 32 #[.agg #[.int .i64 (W : Int), .int .i64 (D : Int), .slice (some ⟨b, 0, none⟩) n c], .int .i64 f, .float .f32 x, .float .f32 y, .int .i64 s] w (BRes (sfK G n) (if sfK G n = true then n else 0) (fun t => (G t).1) w) := by
  obtain ⟨i0, hi0, hI0, hI1, hI2⟩ := info_parts info_bo
  obtain ⟨K, hK⟩ : ∃ K, sfK G n = K := ⟨_, rfl⟩
  rw [hK]
  obtain ⟨N, hNn⟩ : ∃ N, (if K = true then n else 0) = N := ⟨_, rfl⟩
  rw [hNn]
  unfold BRes
  have HKK := Lib.hid hK
  have HNN := Lib.hid hNn
  have hN := gtc.newAt (w := w) (p := w.heap.size) (u := .int .i64 (W : Int)) (v := .int .i64 (D : Int)) (z := .slice (some ⟨b, 0, none⟩) n c) rfl
  have hb0 : Below w.heap.size w (w.alloc (.cells #[.int .i64 (W : Int), .int .i64 (D : Int), .slice (some ⟨b, 0, none⟩) n c] 30)) := by (with_reducible repeat (first | exact Below.refl _ _ | apply below_alloc | apply below_dN | apply below_d | refine below_setCell ?_ (by dsimp only; omega) | refine below_call (by assumption) ?_))
  have hs0 : (w.alloc (.cells #[.int .i64 (W : Int), .int .i64 (D : Int), .slice (some ⟨b, 0, none⟩) n c] 30)).heap.size = w.heap.size + 1 := by simp
  have HI := Lib.hid (hI _ hb0)
  have HE := Lib.hid hE
  have HS := Lib.hid hS
  have j0 := hN.c0
  have j1 := hN.c1
  have j2 := hN.c2
  have jl := hN.lt
  clear hK hNn hE hS hI
  go_enter Try.func32, Try.ntmps32
  go_upto_region 3 with (first | (go_at_call 70; ((with_reducible refine (HI.out).mono ?_); rintro e w1 ⟨⟨v, rfl, rfl⟩, hb1⟩)) | (go_at_call 71; ((with_reducible refine (HE.out _).mono ?_); rintro e wA ⟨⟨v, rfl, rfl⟩, hb2⟩)))
  have hbA := hb1.trans (hb2.mono hb1.size)
  have HNA := Lib.hid (hN.below hbA)
  have HBA := Lib.hid (hb0.trans (hbA.mono (by omega)))
  have hsA := HBA.out.size
  clear hN hbA hb0 j0 j1 j2 jl hb1 hb2
  have j2 := HNA.out.c2
  have jl := HNA.out.lt
  have hNA1 := HNA.out
  go_wp2_with (go_at_call 56; ((with_reducible refine (length_c _ _ n _ rfl _).mono ?_); rintro e wL ⟨⟨v, rfl, rfl⟩, hbL⟩))
  have HNL := Lib.hid (hNA1.below hbL)
  have HBL := Lib.hid (HBA.out.trans (hbL.mono hsA))
  have hsL := HBL.out.size
  clear j2 jl hNA1 hbL
  go_loopw [12, 30] (fun ov iv wr => ∃ i : Nat, i ≤ n ∧ iv = .int .i64 i ∧ wr.ownsRow wL.heap.size 4 1 ov i (bvs G i) ∧ (∀ j, j < i → (G j).2 = true) ∧ Below wL.heap.size wL wr) (fun _ iv _ => n - (intOf iv).toNat)
  case atStart => exact ⟨0, by omega, rfl, ⟨rfl, .inl ⟨rfl, rfl⟩⟩, by omega, Below.refl _ _⟩
  case round =>
    rename World => wO
    obtain ⟨i, hi, rfl, hown, hall, hB⟩ := hrel
    have hNO := HNL.out.below hB
    have c0 := hNO.c0
    have c1 := hNO.c1
    have c2 := hNO.c2
    have pl := hNO.lt
    have HOWN := Lib.hid hown
    have HALL := Lib.hid hall
    have HB := Lib.hid hB
    have hBs := hB.size
    clear hown hall hB hNO
    by_cases hlt : i < n
    · have hlt' : (i : Int) < (n : Int) := by omega
      have HSI := Lib.hid (HS.out i hlt wO (HBL.out.trans (HB.out.mono hsL)))
      have HKF := Lib.hid (fun (h : (G i).2 = false) => HKK.out.symm.trans (allB_false (f := fun t => (G t).2) hlt h))
      generalize hgi : G i = gi at HSI HKF
      obtain ⟨g1, g2⟩ := gi
      cases g2
      · go_wp2_with (go_at_call 72; ((with_reducible refine (HSI.out).mono ?_); rintro e w3 ⟨⟨v, rfl, v1, v2, rfl, rfl, rfl⟩, hb3⟩))
        go_ret2
        obtain rfl : K = false := HKF.out trivial
        obtain rfl : N = 0 := HNN.out.symm
        exact BRes.from' HBL.out (BRes.nil (HB.out.trans (hb3.mono hBs)))
      · go_upto_region 10 with (go_at_call 72; ((with_reducible refine (HSI.out).mono ?_); rintro e w3 ⟨⟨v, rfl, v1, v2, rfl, rfl, rfl⟩, hb3⟩))
        have hown := own_below HOWN.out hb3
        have hBw := HB.out.trans (hb3.mono hBs)
        have hBws := hBw.size
        have HBw := Lib.hid hBw
        clear hb3 hBw
        go_wp2_with (at_builtin; refine wpList_append_own _ rfl (.tmp 45) (.tmp 47) 46 rfl wL.heap.size 4 i0 (.bool false) 1 1 Try.underlying46 hi0 hI0 hI1 hI2 rfl (by decide) _ _ _ rfl (hown.alloc _) ⟨w3.heap.size, 0, none⟩ 1 1 [.bool g1] rfl rfl (cell_one_new _ _ _) (by intro u hu; simp at hu; subst hu; rfl) (by unfold maxLen; omega) (by omega) (by simp; omega) ?_; intro v1 w5 hown5 hgrow5 hnil5)
        go_roundw
        case rel => exact ⟨i + 1, by omega, by go_num, by rw [bvs_snoc, hgi]; exact hown5, fun j hj => by
          by_cases ej : j = i
          · rw [ej, hgi]
          · exact HALL.out j (by omega), (HBw.out.alloc hBws _).grown hgrow5 (by simp; omega) (fun j hj => (hown.lt j hj).1)⟩
        case measure => first | (simp [intOf]; done) | (simp [intOf]; omega)
    · obtain rfl : i = n := by omega
      have hlt' : ¬ ((i : Int) < (i : Int)) := by omega
      have HI := Lib.hid (own_barr HOWN.out (fun j hj => bvs_at hj))
      go_wp2
      go_ret2
      obtain rfl : K = true := HKK.out.symm.trans (allB_true HALL.out)
      obtain rfl : N = i := HNN.out.symm
      exact BRes.from' HBL.out ⟨_, rfl, HI.out, HB.out⟩
end Go.Proofs.Ytpajakindpbepaa
