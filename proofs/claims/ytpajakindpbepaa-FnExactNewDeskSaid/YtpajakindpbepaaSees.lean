/- Contract of spec.l06Sees. No condition. -/
import Derived.Test.YtpajakindpbepaaSeeD
namespace Go.Proofs.Ytpajakindpbepaa
open Go.RowKit
set_option linter.unusedSimpArgs false
theorem seeL_no {G S : Nat → Nat} {m k : Nat} (h : (fin .f32 (G k) && fin .f32 (S k)) = false) : seeL G S (m + 1) k = (false, false) := by
  show (if _ then _ else _) = _
  rw [h]; rfl
theorem seeL_hid {G S : Nat → Nat} {m k : Nat} (h : (fin .f32 (G k) && fin .f32 (S k)) = true) (h2 : fgt .f32 (G k) (S k) = true) : seeL G S (m + 1) k = (false, true) := by
  show (if _ then _ else _) = _
  rw [h, if_pos rfl, h2]; rfl
theorem seeL_on {G S : Nat → Nat} {m k : Nat} (h : (fin .f32 (G k) && fin .f32 (S k)) = true) (h2 : fgt .f32 (G k) (S k) = false) : seeL G S (m + 1) k = seeL G S m (k + 1) := by
  show (if _ then _ else _) = _
  rw [h, if_pos rfl, h2]; rfl
def two (r : Bool × Bool) : Value → Prop := RP (RV (.bool r.1)) (RV (.bool r.2))
set_option maxRecDepth 100000 in
set_option maxHeartbeats 8000000 in
theorem l06Sees_c (p W D b n c f t x y E B s : Nat) (X : Nat → Nat) (w : World) (h1 : 2 ≤ W) (h2 : W ≤ 16) (h3 : 2 ≤ D) (h4 : D ≤ 16) (hn : n = W * D) (c0 : w.cell? ⟨p, 0, none⟩ = some (.int .i64 W)) (c1 : w.cell? ⟨p, 1, none⟩ = some (.int .i64 D)) (c2 : w.cell? ⟨p, 2, none⟩ = some (.slice (some ⟨b, 0, none⟩) n c)) (hbl : b < w.heap.size) (hX : FlCells w b n X)
    (hf : f < n) (ht : t < n) (hx : cn .f32 x = E) (hy : cn .f32 y = B) (hs1 : 1 ≤ s) (hs2 : s ≤ 64) :
    Calls Try.prog 69 #[.pointer (some ⟨p, 0, none⟩), .int .i64 f, .int .i64 t, .float .f32 x, .float .f32 y, .int .i64 s] w (Ret (two (seeF X W D f t E B s)) w) := by
  have hpl := block_lt_of_cell c0
  simp only at hpl
  have hnb : n ≤ 256 := by rw [hn]; exact Nat.mul_le_mul h2 h4
  have hfi : (f : Int) < (n : Int) := by omega
  have hti : (t : Int) < (n : Int) := by omega
  obtain ⟨r0, x0, e0⟩ := hX f hf
  obtain ⟨r1, x1, e1⟩ := hX t ht
  have hAW := away h1 h2 h3 h4 (hn ▸ ht) (hn ▸ hf)
  have HAW := Lib.hid hAW
  have HP := Lib.hid (fun (w' : World) (hB : Below w.heap.size w w') (i : Nat) (hi : i < n) => l06Place_c p W i (by omega) (by omega) (by omega) w' ((hB.cell (p := ⟨p, 0, none⟩) hpl).trans c0))
  have HAT := Lib.hid (fun (w' : World) (hB : Below w.heap.size w w') a a' P Q ha ha' hP hQ => l06At_c p W D b n c a a' P Q X w' h1 h2 h3 h4 hn ((hB.cell (p := ⟨p, 0, none⟩) hpl).trans c0) ((hB.cell (p := ⟨p, 1, none⟩) hpl).trans c1) ((hB.cell (p := ⟨p, 2, none⟩) hpl).trans c2) (Nat.lt_of_lt_of_le hbl hB.size) (hX.dn hbl hB) ha ha' hP hQ)
  have HIN := Lib.hid (fun T hT => see_inn (T := T) h1 h2 h3 h4 (hn ▸ hf) (hn ▸ ht) hT)
  have HE0 := Lib.hid e0
  have HE1 := Lib.hid e1
  have HE := Lib.hid hx
  have HYB := Lib.hid hy
  clear hX hn hAW e0 e1 hx hy
  go_enter Try.func69, Try.ntmps69
  go_upto_region 2 with (go_at_call 101; ((with_reducible refine (HP.out _ (Below.refl _ _) f hf).mono ?_); rintro e w1 ⟨rfl, hb1⟩))
  go_upto_region 3 with (go_at_call 101; ((with_reducible refine (HP.out _ hb1 t ht).mono ?_); rintro e w2 ⟨rfl, hb2⟩))
  have hB2 := hb1.trans (hb2.mono hb1.size)
  go_upto_region 4 with (first | (refine wpL_csub rfl _ _ _ _ rfl _ _ _ _ rfl rfl ?_; intro cx cy nc hcx hcy hwx hwy) | (go_at_call 100; have hcx' := hcx.trans (by rw [cn_fofI, cn_fofI]); have hcy' := hcy.trans (by rw [cn_fofI, cn_fofI]); ((with_reducible refine (HAW.out.1 ▸ l01Long_c _ _ _ _ hcx' hcy' HAW.out.2 _).mono ?_); rintro e w3 ⟨⟨v, rfl, lr, rfl, hlr, hlo⟩, hb3⟩)))
  have hB3 := hB2.trans (((below_dN (Below.refl _ _)).trans (hb3.mono (by simp))).mono hB2.size)
  have q2 := (hB3.cell (p := ⟨p, 2, none⟩) hpl).trans c2
  have y0 := (hB3.cell (p := ⟨b, f, none⟩) hbl).trans x0
  have y1 := (hB3.cell (p := ⟨b, t, none⟩) hbl).trans x1
  have pl3 := Nat.lt_of_lt_of_le hpl hB3.size
  have bl3 := Nat.lt_of_lt_of_le hbl hB3.size
  have HB3 := Lib.hid hB3
  have hs3 := hB3.size
  clear c0 c1 c2 x0 x1 hb1 hb2 hb3 hB2 hB3
  go_upto_region 5 with (first | (refine wpL_farith rfl _ _ _ _ _ rfl rfl _ _ _ rfl rfl ?_; intro r n hr hw))
  have htop : cn .f32 r = topF X f E := by rw [hr, HE0.out, HE.out]; rfl
  have hotop := okf_of hw
  clear hr hw
  have e1 := HE1.out
  (apply region_looseK (k := 11); (kernel_rfl); (kernel_rfl); intro opsL KL hopsL hKL; (dsimp only [List.take]))
  iterate 7 (apply rel_val; (rfl); (intro wq hbq; have hcq := (bcell hbq).1; (try simp only [World.heap_drewN] at hcq); (go_simp; first | done | rfl | exact ⟨rfl, rfl⟩)); (try go_simp))
  iterate 2 (apply rel_val; (rfl); (intro wq hbq; have hcq := (bcell hbq).1; (try simp only [World.heap_drewN] at hcq); (go_simp; first | done | rfl | exact ⟨rfl, rfl⟩)); (try go_simp))
  (apply rel_call (RF .f32 (dropF (lngN (dsq W t f)) B)); (rfl); (intro wq hbq; (go_simp; first | done | rfl | exact ⟨rfl, rfl⟩)); (intro wq hbq; exact l06Drop_c _ _ _ _ hlr HYB.out _); (try go_simp))
  rintro v ⟨dr, rfl, hdr, hdo⟩
  (apply rel_farith; (rfl); (rfl); (rfl); (rfl); (rfl); (assumption); (assumption); intro r hr hw; (try go_simp))
  (refine wpRel_nil ?_; refine hKL _ _ ?_; clear hKL hopsL opsL KL; intro w1 hb hnews; obtain ⟨hc, hfz⟩ := bcell hb; (try simp only [World.heap_drewN] at hc hfz); have hz := hb.size; (dsimp only [List.drop]))
  have hend : cn .f32 r = endF X W f t B := by rw [hr]; rfl
  have hoend := hw
  have hB4 := HB3.out.trans (((below_dN (Below.refl _ _)).trans (hb.mono (by simp))).mono hs3)
  have HB4 := Lib.hid hB4
  have hs4 := hB4.size
  clear hr hw hb hc hfz hB4 y0 y1 q2 pl3 bl3 e1
  go_upto_region 6 with fail
  have HTOP := Lib.hid htop
  have HEND := Lib.hid hend
  cases ct : fin .f32 (topF X f E)
  · have HC := Lib.hid (fun w => ct ▸ sFinite_c _ _ htop w)
    have HSF := Lib.hid (show seeF X W D f t E B s = (false, false) by unfold seeF; rw [ct]; rfl)
    go_wp2_with (first | (go_at_call 50; ((with_reducible refine (HC.out _).mono ?_); rintro e w1 ⟨⟨v, rfl, rfl⟩, hb⟩)))
    go_ret2
    exact ⟨⟨_, rfl, _, _, rfl, by rw [HSF.out]; rfl, by rw [HSF.out]; rfl⟩, HB4.out.trans (hb.mono hs4)⟩
  · have HC := Lib.hid (fun w => ct ▸ sFinite_c _ _ htop w)
    cases ce : fin .f32 (endF X W f t B)
    · have HC' := Lib.hid (fun w => ce ▸ sFinite_c _ _ hend w)
      have HSF := Lib.hid (show seeF X W D f t E B s = (false, false) by unfold seeF; rw [ct, ce]; rfl)
      go_wp2_with (first | (go_at_call 50; ((with_reducible refine (HC.out _).mono ?_); rintro e w5 ⟨⟨v, rfl, rfl⟩, hb5⟩); have hB5 := HB4.out.trans (hb5.mono hs4)) | (go_at_call 50; ((with_reducible refine (HC'.out _).mono ?_); rintro e w6 ⟨⟨v, rfl, rfl⟩, hb6⟩)))
      go_ret2
      exact ⟨⟨_, rfl, _, _, rfl, by rw [HSF.out]; rfl, by rw [HSF.out]; rfl⟩, hB5.trans (hb6.mono hB5.size)⟩
    · have HC' := Lib.hid (fun w => ce ▸ sFinite_c _ _ hend w)
      have HSF := Lib.hid (show seeF X W D f t E B s = seeL (grdF X W D f t B s) (sgtF X W f t E B s) (s - 1) 1 by unfold seeF; rw [ct, ce]; rfl)
      go_upto_region 8 with (first | (go_at_call 50; ((with_reducible refine (HC.out _).mono ?_); rintro e w5 ⟨⟨v, rfl, rfl⟩, hb5⟩); have hB5 := HB4.out.trans (hb5.mono hs4)) | (go_at_call 50; ((with_reducible refine (HC'.out _).mono ?_); rintro e w6 ⟨⟨v, rfl, rfl⟩, hb6⟩)))
      have hB6 := hB5.trans (hb6.mono hB5.size)
      have HB6 := Lib.hid hB6
      have hs6 := hB6.size
      clear hB5 hb5 hb6 hB6 ct ce htop hend
      go_wp2
      go_loopw [19] (fun kv wr => ∃ k : Nat, 1 ≤ k ∧ k ≤ s ∧ kv = .int .i64 k ∧ seeL (grdF X W D f t B s) (sgtF X W f t E B s) (s - k) k = seeL (grdF X W D f t B s) (sgtF X W f t E B s) (s - 1) 1 ∧ Below w.heap.size w wr) (fun kv _ => s - (intOf kv).toNat)
      case atStart => exact ⟨1, by omega, hs1, rfl, rfl, HB6.out⟩
      case round =>
        rename World => wO
        obtain ⟨k, hk1, hks, rfl, hse, hB⟩ := hrel
        have HSE := Lib.hid hse
        have HB := Lib.hid hB
        have hBs := hB.size
        clear hse hB
        by_cases hlt : k < s
        · have hlt' : (k : Int) < (s : Int) := by omega
          have HT := Lib.hid (shr_inn hks hs1 hs2)
          go_upto_region 12 with (first | (refine wpL_farith rfl _ _ _ _ _ rfl rfl _ _ _ rfl rfl ?_; intro r n hr hw))
          have hT : cn .f32 r = shrF k s := by rw [hr, cn_fofI, cn_fofI]; rfl
          have hoT := okf_of hw
          clear hr hw
          obtain ⟨i1, i2⟩ := HIN.out _ HT.out
          have HI1 := Lib.hid i1
          have HI2 := Lib.hid i2
          clear i1 i2
          go_upto_region 13 with (first | (refine wpL_csub rfl _ _ _ _ rfl _ _ _ _ rfl rfl ?_; intro cx cy nc hcx hcy hwx hwy) | (refine wpL_cadd rfl _ _ _ _ rfl _ _ _ _ rfl rfl ?_; intro ax ay na hax hay hvx hvy) | (refine wpL_farith rfl _ _ _ _ _ rfl rfl _ _ _ rfl rfl ?_; intro r n hr hw) | (go_at_call 108; have hzx : cn .f32 ax = seeX W f t (shrF k s) := (by rw [hax]; simp only [*, cn_fofI]; rfl); have hzy : cn .f32 ay = seeY W f t (shrF k s) := (by rw [hay]; simp only [*, cn_fofI]; rfl); ((with_reducible refine (HAT.out _ (below_dN HB.out) _ _ _ _ hzx hzy HI1.out HI2.out).mono ?_); rintro e w7 ⟨⟨v, rfl, gr, rfl, hgr, hgo⟩, hb7⟩)))
          have hB7 := (below_dN HB.out).trans (hb7.mono (by simpa using hBs))
          have HB7 := Lib.hid hB7
          have hs7 := hB7.size
          clear hb7 hB7
          go_upto_region 14 with (first | (refine wpL_farith rfl _ _ _ _ _ rfl rfl _ _ _ rfl rfl ?_; intro r n hr hw) | (go_at_call 107; have hfa : cn .f32 r = fop .mul .f32 (farF W f t) (shrF k s) := (by rw [hr, hlr, hT]; rfl); ((with_reducible refine (l06Drop_c _ _ _ _ hfa HYB.out _).mono ?_); rintro e w8 ⟨⟨v, rfl, d8, rfl, hd8, ho8⟩, hb8⟩)))
          have hgrd : cn .f32 r = grdF X W D f t B s k := by rw [hr, hgr, hd8]; rfl
          have hogrd := okf_of hw
          clear hr hw
          have htop := HTOP.out
          have hend := HEND.out
          go_upto_region 15 with (first | (refine wpL_farith rfl _ _ _ _ _ rfl rfl _ _ _ rfl rfl ?_; intro r n hr hw))
          have hsgt : cn .f32 r = sgtF X W f t E B s k := by rw [hr]; simp only [*]; rfl
          clear hr hw htop hend
          obtain ⟨m, hm⟩ : ∃ m, s - k = m + 1 := ⟨s - k - 1, by omega⟩
          have hm1 : s - (k + 1) = m := by omega
          rw [hm] at HSE
          have hB8 := HB7.out.trans (((below_dN (Below.refl _ _)).trans (hb8.mono (by simp))).mono hs7)
          have HB8 := Lib.hid hB8
          have hs8 := hB8.size
          clear hb8 hB8
          cases cg : fin .f32 (grdF X W D f t B s k)
          · have HC1 := Lib.hid (fun w => cg ▸ sFinite_c _ _ hgrd w)
            have hres : seeF X W D f t E B s = (false, false) := by rw [HSF.out, ← HSE.out, seeL_no (by rw [cg]; rfl)]
            have HRES := Lib.hid hres
            clear hres
            go_wp2_with (first | (go_at_call 50; ((with_reducible refine (HC1.out _).mono ?_); rintro e w1 ⟨⟨v, rfl, rfl⟩, hb⟩)))
            go_ret2
            exact ⟨⟨_, rfl, _, _, rfl, by rw [HRES.out]; rfl, by rw [HRES.out]; rfl⟩, HB8.out.trans (((below_dN (Below.refl _ _)).trans (hb.mono (by simp))).mono hs8)⟩
          · have HC1 := Lib.hid (fun w => cg ▸ sFinite_c _ _ hgrd w)
            cases cs : fin .f32 (sgtF X W f t E B s k)
            · have HC2 := Lib.hid (fun w => cs ▸ sFinite_c _ _ hsgt w)
              have hres : seeF X W D f t E B s = (false, false) := by rw [HSF.out, ← HSE.out, seeL_no (by rw [cg, cs]; rfl)]
              have HRES := Lib.hid hres
              clear hres
              go_wp2_with (first | ((go_at_call 50; ((with_reducible refine (HC1.out _).mono ?_); rintro e w9 ⟨⟨v, rfl, rfl⟩, hb9⟩)); have hB9 := HB8.out.trans (((below_dN (Below.refl _ _)).trans (hb9.mono (by simp))).mono hs8)) | (go_at_call 50; ((with_reducible refine (HC2.out _).mono ?_); rintro e w10 ⟨⟨v, rfl, rfl⟩, hb10⟩)))
              go_ret2
              exact ⟨⟨_, rfl, _, _, rfl, by rw [HRES.out]; rfl, by rw [HRES.out]; rfl⟩, hB9.trans (hb10.mono hB9.size)⟩
            · have HC2 := Lib.hid (fun w => cs ▸ sFinite_c _ _ hsgt w)
              cases cf : fgt .f32 (grdF X W D f t B s k) (sgtF X W f t E B s k)
              · have hres : seeL (grdF X W D f t B s) (sgtF X W f t E B s) (s - (k + 1)) (k + 1) = seeL (grdF X W D f t B s) (sgtF X W f t E B s) (s - 1) 1 := by rw [hm1, ← HSE.out, seeL_on (by rw [cg, cs]; rfl) cf]
                have HRES := Lib.hid hres
                clear hres
                go_wp2_with (first | ((go_at_call 50; ((with_reducible refine (HC1.out _).mono ?_); rintro e w9 ⟨⟨v, rfl, rfl⟩, hb9⟩)); have hB9 := HB8.out.trans (((below_dN (Below.refl _ _)).trans (hb9.mono (by simp))).mono hs8)) | (go_at_call 50; ((with_reducible refine (HC2.out _).mono ?_); rintro e w10 ⟨⟨v, rfl, rfl⟩, hb10⟩)))
                go_roundw
                case rel => exact ⟨k + 1, by omega, by omega, by go_num, HRES.out, hB9.trans (hb10.mono hB9.size)⟩
                case measure => first | (simp [intOf]; done) | (simp [intOf]; omega)
              · have hres : seeF X W D f t E B s = (false, true) := by rw [HSF.out, ← HSE.out, seeL_hid (by rw [cg, cs]; rfl) cf]
                have HRES := Lib.hid hres
                clear hres
                go_wp2_with (first | ((go_at_call 50; ((with_reducible refine (HC1.out _).mono ?_); rintro e w9 ⟨⟨v, rfl, rfl⟩, hb9⟩)); have hB9 := HB8.out.trans (((below_dN (Below.refl _ _)).trans (hb9.mono (by simp))).mono hs8)) | (go_at_call 50; ((with_reducible refine (HC2.out _).mono ?_); rintro e w10 ⟨⟨v, rfl, rfl⟩, hb10⟩)))
                go_ret2
                exact ⟨⟨_, rfl, _, _, rfl, by rw [HRES.out]; rfl, by rw [HRES.out]; rfl⟩, hB9.trans (hb10.mono hB9.size)⟩
        · obtain rfl : k = s := by omega
          have hlt' : ¬ ((k : Int) < (k : Int)) := by omega
          go_wp2
          go_ret2
          have hres : seeF X W D f t E B k = (true, true) := by rw [HSF.out, ← HSE.out, Nat.sub_self]; rfl
          exact ⟨⟨_, rfl, _, _, rfl, by rw [hres]; rfl, by rw [hres]; rfl⟩, HB.out⟩
end Go.Proofs.Ytpajakindpbepaa
