/- Contracts of packing places, in both spellings. No condition. -/
import Derived.Test.YteecbhmgogndaaaVar
import Derived.Test.YteecbhmgogndaaaMem
namespace Go.Proofs.Yteecbhmgogndaaa
open Go.RowKit
set_option linter.unusedSimpArgs false

theorem own_below {w w' : World} {B : Nat} {e : TypeId} {size : Nat} {v : Value} {n : Nat} {xs : List Value} (h : w.ownsRow B e size v n xs) (hb : Below w.heap.size w w') : w'.ownsRow B e size v n xs := by
  refine ⟨h.1, h.2.imp id ?_⟩
  rintro ⟨g, cap, cur, rfl, h1, h2, h3⟩
  exact ⟨g, cap, cur, rfl, h1, (hb.block g (Array.getElem?_eq_some_iff.1 h2).1).trans h2, h3⟩
theorem own_slice {w : World} {B : Nat} {e : TypeId} {size : Nat} {v : Value} {n : Nat} {xs : List Value} (h : w.ownsRow B e size v n xs) (hn : 0 < n) : ∃ g c, v = .slice (some ⟨g, 0, none⟩) n c ∧ g < w.heap.size ∧ (∀ j u, xs[j]? = some u → w.cell? ((⟨g, 0, none⟩ : Addr).add j) = some u) := by
  have hc := fun g hg => h.cells (g := g) hg
  rcases h.2 with ⟨rfl, e⟩ | ⟨g, cap, cur, rfl, h1, h2, h3⟩
  · omega
  · exact ⟨g, cap, rfl, (Array.getElem?_eq_some_iff.1 h2).1, hc g rfl⟩
/-- All of a list are bytes. -/
def AllU8 (xs : List Value) : Prop := xs = (xs.map intOf).map (Value.int .u8)
theorem AllU8.append {xs ys : List Value} (h : AllU8 xs) (k : AllU8 ys) : AllU8 (xs ++ ys) := by
  unfold AllU8 at *
  rw [List.map_append, List.map_append, ← h, ← k]
theorem vb_u8 (n : Nat) : AllU8 (vb n) := by
  induction n using Nat.strongRecOn with
  | _ n ih =>
    by_cases h : n < 128
    · rw [vb_small h]; rfl
    · rw [vb_big h]
      exact AllU8.append (xs := [_]) rfl (ih _ (by omega))
theorem vb_one (n : Nat) : ∀ u ∈ vb n, u.oneCell' = true := by
  have := vb_u8 n
  unfold AllU8 at this
  intro u hu
  rw [this] at hu
  obtain ⟨z, -, rfl⟩ := List.mem_map.1 hu
  rfl
theorem vb_pos (n : Nat) : 0 < (vb n).length := by unfold vb; split <;> simp
/-- Bytes as a string. -/
def strL (xs : List Value) : ByteArray := ⟨((xs.map intOf).map fun n => UInt8.ofNat n.toNat).toArray⟩
theorem own_string {P : Program} {w : World} {B : Nat} {v : Value} {n : Nat} {e : TypeId} {xs : List Value} (src dst : TypeId) (hs : P.underlying src = some (.slice e)) (he : P.underlying e = some (.int .u8)) (hd : P.underlying dst = some .string)
    (h : w.ownsRow B e 1 v n xs) (hn : 0 < n) (hu : AllU8 xs) : (convert src dst v).run P w = .ok (.string (strL xs)) w := by
  obtain ⟨g, c, rfl, -, hc⟩ := own_slice h hn
  rw [run_convert_bytes_string w src dst e _ _ _ hs he hd]
  have hl := run_loadCells_list (P := P) w ⟨g, 0, none⟩ xs hc
  have e1 : xs.length = n := by rw [h.1]; omega
  rw [e1] at hl
  rw [run_bytesToString w ⟨g, 0, none⟩ n c (xs.map intOf) (by rw [hl, ← hu]), push_fold]
  simp [strL]

/-! The bytes of a list. -/
def pN (X : Nat → Nat) (m : Nat) : Int := if m = 0 then 0 else StepI (X (m - 1))
def pE (Y : Nat → Nat) (m : Nat) : Int := if m = 0 then 0 else StepE (Y (m - 1))
def pkL (X Y : Nat → Nat) : Nat → List Value
  | 0 => []
  | m + 1 => (pkL X Y m ++ vb (zz (StepI (X m) - pN X m))) ++ vb (zz (StepE (Y m) - pE Y m))
theorem pkL_u8 (X Y : Nat → Nat) (m : Nat) : AllU8 (pkL X Y m) := by
  induction m with
  | zero => rfl
  | succ m ih => exact (ih.append (vb_u8 _)).append (vb_u8 _)
theorem pkL_pos (X Y : Nat → Nat) {n : Nat} (h : 1 ≤ n) : 0 < (pkL X Y n).length := by
  obtain ⟨m, rfl⟩ : ∃ m, n = m + 1 := ⟨n - 1, by omega⟩
  unfold pkL
  rw [List.length_append]
  have := vb_pos (zz (StepE (Y m) - pE Y m))
  omega
theorem pN_bnd {X Y : Nat → Nat} {n : Nat} (hv : ∀ j, j < n → vplace (X j) (Y j) = true) {m : Nat} (hm : m ≤ n) : -4194304 ≤ pN X m ∧ pN X m ≤ 4194304 := by
  unfold pN
  split
  · omega
  · obtain ⟨-, -, a, b⟩ := tv_ok (hv (m - 1) (by omega))
    exact ⟨a, b⟩
theorem pE_bnd {X Y : Nat → Nat} {n : Nat} (hv : ∀ j, j < n → vplace (X j) (Y j) = true) {m : Nat} (hm : m ≤ n) : -8388608 ≤ pE Y m ∧ pE Y m ≤ 8388607 := by
  unfold pE
  split
  · omega
  · obtain ⟨-, -, a, b⟩ := tu_ok (hv (m - 1) (by omega))
    exact ⟨a, b⟩
theorem zz_bnd {d : Int} (h1 : -33554432 ≤ d) (h2 : d ≤ 33554432) : zz d ≤ 67108864 := by unfold zz; split <;> omega
theorem pkL_len {X Y : Nat → Nat} {n : Nat} (hv : ∀ j, j < n → vplace (X j) (Y j) = true) {m : Nat} (hm : m ≤ n) : (pkL X Y m).length ≤ m * 134217730 := by
  induction m with
  | zero => simp [pkL]
  | succ m ih =>
    have := ih (by omega)
    obtain ⟨-, -, a, b⟩ := tv_ok (hv m (by omega))
    obtain ⟨-, -, c, d⟩ := tu_ok (hv m (by omega))
    obtain ⟨a', b'⟩ := pN_bnd hv (m := m) (by omega)
    obtain ⟨c', d'⟩ := pE_bnd hv (m := m) (by omega)
    have z1 := zz_bnd (d := StepI (X m) - pN X m) (by omega) (by omega)
    have z2 := zz_bnd (d := StepE (Y m) - pE Y m) (by omega) (by omega)
    have l1 := vb_len (zz (StepI (X m) - pN X m))
    have l2 := vb_len (zz (StepE (Y m) - pE Y m))
    unfold pkL
    rw [List.length_append, List.length_append]
    omega

set_option maxRecDepth 100000 in
set_option maxHeartbeats 2000000 in
theorem packPlaces_c (b n cap : Nat) (X Y : Nat → Nat) (w : World) (hbb : b < w.heap.size) (hn1 : 1 ≤ n) (hn : n ≤ 64) (hv : ∀ j, j < n → vplace (X j) (Y j) = true) (h : PlCells w b n X Y) :
    Calls Try.prog 48 #[.slice (some ⟨b, 0, none⟩) n cap] w (Ret (RV (.string (strL (pkL X Y n)))) w) := by
  obtain ⟨i0, hi, hI0, hI1, hI2⟩ := info_parts info_u8
  go_enter Try.func48, Try.ntmps48
  go_wp2
  go_loopw [3, 4, 5, 13] (fun v k1 k2 k wr => ∃ m : Nat, m ≤ n ∧ k = .int .i64 m ∧ k1 = .int .i64 (pN X m) ∧ k2 = .int .i64 (pE Y m) ∧ wr.ownsRow w.heap.size 5 1 v (pkL X Y m).length (pkL X Y m) ∧ Below w.heap.size w wr) (fun _ _ _ k _ => n - (intOf k).toNat)
  case atStart => exact ⟨0, by omega, rfl, rfl, rfl, World.ownsRow_nil _ _ _ _, by (with_reducible repeat (first | exact Below.refl _ _ | apply below_alloc | apply below_dN | apply below_d | refine below_setCell ?_ (by dsimp only; omega) | refine below_call (by assumption) ?_))⟩
  case round =>
    obtain ⟨m, hm, rfl, rfl, rfl, hown, hB⟩ := hrel
    have hsz := hB.size
    have hlen := pkL_len hv hm
    have HX := Lib.hid h
    have HV := Lib.hid hv
    by_cases hlt : m < n
    · obtain ⟨u, v, h0, h1, h2, h3⟩ := HX.out m hlt
      have hv' := HV.out m hlt
      rw [← hB.cell (p := ⟨b, m * 2, none⟩) hbb] at h0
      rw [← hB.cell (p := ⟨b, m * 2 + 1, none⟩) hbb] at h1
      obtain ⟨-, -, b1, b2⟩ := tv_ok hv'
      obtain ⟨-, -, b3, b4⟩ := tu_ok hv'
      obtain ⟨b5, b6⟩ := pN_bnd HV.out hm
      obtain ⟨b7, b8⟩ := pE_bnd HV.out hm
      have HB := Lib.hid hB
      clear h hv hB
      have eN : pN X (m + 1) = StepI (X m) := by unfold pN; rw [if_neg (by omega)]; rfl
      have eE : pE Y (m + 1) = StepE (Y m) := by unfold pE; rw [if_neg (by omega)]; rfl
      have eL : pkL X Y (m + 1) = (pkL X Y m ++ vb (zz (StepI (X m) - pN X m))) ++ vb (zz (StepE (Y m) - pE Y m)) := rfl
      have HS := Lib.hid (iStepsOk_c u v (X m) (Y m) h2 h3 hv')
      obtain ⟨N, hN⟩ : ∃ N, StepI (X m) = N := ⟨_, rfl⟩
      obtain ⟨E, hE⟩ : ∃ E, StepE (Y m) = E := ⟨_, rfl⟩
      rw [hN] at eN b1 b2 eL HS
      rw [hE] at eE b3 b4 eL HS
      obtain ⟨pn, hpn⟩ : ∃ pn, pN X m = pn := ⟨_, rfl⟩
      obtain ⟨pe, hpe⟩ : ∃ pe, pE Y m = pe := ⟨_, rfl⟩
      rw [hpn] at eL b5 b6 ⊢
      rw [hpe] at eL b7 b8 ⊢
      clear hN hE hpn hpe
      obtain ⟨L, hL⟩ : ∃ L, pkL X Y m = L := ⟨_, rfl⟩
      rw [hL] at eL hown hlen
      clear hL
      go_wp2_with (go_at_call 54; ((with_reducible refine (HS.out _).mono ?_); rintro e wa ⟨⟨v, rfl, rfl⟩, hb⟩); have hu2 : ∀ n : Nat, n < n + 1 + 1 := (fun n => by omega); have hu3 : ∀ n : Nat, n < n + 1 + 1 + 1 := (fun n => by omega); obtain ⟨hc, hfz⟩ := bcell hb; (try simp only [World.heap_drewN] at hc hfz); have hs_ := hb.size; (try simp at hs_); (try have hz0 : w.heap.size < wa.heap.size := (by omega)); (try have hz1 : w.heap.size + 1 < wa.heap.size := (by omega)); (try have hz2 : w.heap.size + 2 < wa.heap.size := (by omega)); (try have hz3 : w.heap.size + 3 < wa.heap.size := (by omega)); (try have hza : wa.heap.size < wa.heap.size := (by omega)); (try have hza1 : wa.heap.size + 1 < wa.heap.size := (by omega)); (try have hzb : wb.heap.size < wa.heap.size := (by omega)); (try have hzb1 : wb.heap.size + 1 < wa.heap.size := (by omega)); (try have hzc : wc.heap.size < wa.heap.size := (by omega)); (try have hzd : wd.heap.size < wa.heap.size := (by omega)))
      have HBa : Below w.heap.size w wa := by have := HB.out; (with_reducible repeat (first | exact Below.refl _ _ | apply below_alloc | apply below_dN | apply below_d | refine below_setCell ?_ (by dsimp only; omega) | refine below_call (by assumption) ?_))
      have Ha := own_below (hown.alloc (.cells #[.float .f32 u, .float .f32 v] 29)) hb
      (go_at_call 66; refine (packNumber_c (N - pn) (by omega) (by omega) _).mono ?_; rintro e wb ⟨vb1, rfl, hownb, hbb1⟩)
      obtain ⟨g1, c1, rfl, hg1, hc1⟩ := own_slice hownb (vb_pos _)
      have Hb := own_below Ha hbb1
      have hzz1 := zz_bnd (d := N - pn) (by omega) (by omega)
      have hl1 := vb_len (zz (N - pn))
      have hs1 := HBa.size
      have hs2 := hbb1.size
      go_wp2_with (at_builtin; refine wpList_append_own _ rfl (.tmp 23) (.tmp 27) 67 rfl w.heap.size 5 i0 (.int .u8 0) 1 1 Try.underlying67 hi hI0 hI1 hI2 rfl (by decide) _ _ _ rfl (Hb) ⟨g1, 0, none⟩ (vb (zz (N - pn))).length c1 (vb (zz (N - pn))) rfl (by simp) hc1 (vb_one _) (by unfold maxLen; omega) (by omega) (by omega) ?_; intro vc wc hownc hgrowc hnilc)
      have HBb : Below w.heap.size w wb := HBa.trans (hbb1.mono HBa.size)
      have HBc : Below w.heap.size w wc := HBb.grown hgrowc HBb.size (fun j hj => (Hb.lt j hj).1)
      clear hgrowc hnilc Hb Ha
      (go_at_call 66; refine (packNumber_c (E - pe) (by omega) (by omega) _).mono ?_; rintro e wd ⟨vb2, rfl, hownd, hbd⟩)
      obtain ⟨g2, c2, rfl, hg2, hc2⟩ := own_slice hownd (vb_pos _)
      have Hd := own_below hownc hbd
      have hzz2 := zz_bnd (d := E - pe) (by omega) (by omega)
      have hl2 := vb_len (zz (E - pe))
      have HBd : Below w.heap.size w wd := HBc.trans (hbd.mono HBc.size)
      have hs3 := HBd.size
      go_wp2_with (at_builtin; refine wpList_append_own _ rfl (.tmp 29) (.tmp 33) 67 rfl w.heap.size 5 i0 (.int .u8 0) 1 1 Try.underlying67 hi hI0 hI1 hI2 rfl (by decide) _ _ _ rfl (Hd) ⟨g2, 0, none⟩ (vb (zz (E - pe))).length c2 (vb (zz (E - pe))) rfl (by simp) hc2 (vb_one _) (by unfold maxLen; omega) (by omega) (by omega) ?_; intro ve we howne hgrowe hnile)
      have HBe : Below w.heap.size w we := HBd.grown hgrowe HBd.size (fun j hj => (Hd.lt j hj).1)
      go_roundw
      case rel => exact ⟨m + 1, by omega, by go_num, by rw [eN], by rw [eE], by rw [eL, List.length_append, List.length_append]; exact howne, HBe⟩
      case measure => first | (simp [intOf]; done) | (simp [intOf]; omega)
    · obtain rfl : m = n := by omega
      have hcv := own_string (P := Try.prog) 67 9 (by kernel_rfl) (by kernel_rfl) (by kernel_rfl) hown (pkL_pos X Y hn1) (pkL_u8 X Y m)
      obtain ⟨L, hL⟩ : ∃ L, strL (pkL X Y m) = L := ⟨_, rfl⟩
      rw [hL] at hcv
      have HL := Lib.hid hL
      have HB := Lib.hid hB
      clear hB hown hL h hv
      go_wp2
      go_ret
      exact ⟨⟨_, rfl, congrArg Value.string HL.out.symm⟩, HB.out⟩
set_option maxRecDepth 100000 in
set_option maxHeartbeats 2000000 in
theorem l07Pack_c (b n cap : Nat) (X Y : Nat → Nat) (w : World) (hbb : b < w.heap.size) (hn1 : 1 ≤ n) (hn : n ≤ 64) (hv : ∀ j, j < n → vplace (X j) (Y j) = true) (h : PlCells w b n X Y) :
    Calls Try.prog 47 #[.slice (some ⟨b, 0, none⟩) n cap] w (Ret (RV (.string (strL (pkL X Y n)))) w) := by
  obtain ⟨i0, hi, hI0, hI1, hI2⟩ := info_parts info_u8
  go_enter Try.func47, Try.ntmps47
  go_wp2
  have hE0 : (w.alloc (.cells #[] 5)).ownsRow w.heap.size 5 1 (.slice (some ⟨w.heap.size, 0, none⟩) 0 0) 0 [] := ⟨rfl, .inr ⟨w.heap.size, 0, #[], rfl, Nat.le_refl _, heap_alloc_new _ _, by omega, by simp [maxLen], rfl, rfl⟩⟩
  go_loopw [3, 4, 5, 13] (fun v k1 k2 k wr => ∃ m : Nat, m ≤ n ∧ k = .int .i64 m ∧ k1 = .int .i64 (pN X m) ∧ k2 = .int .i64 (pE Y m) ∧ wr.ownsRow w.heap.size 5 1 v (pkL X Y m).length (pkL X Y m) ∧ Below w.heap.size w wr) (fun _ _ _ k _ => n - (intOf k).toNat)
  case atStart => exact ⟨0, by omega, rfl, rfl, rfl, hE0, by (with_reducible repeat (first | exact Below.refl _ _ | apply below_alloc | apply below_dN | apply below_d | refine below_setCell ?_ (by dsimp only; omega) | refine below_call (by assumption) ?_))⟩
  case round =>
    obtain ⟨m, hm, rfl, rfl, rfl, hown, hB⟩ := hrel
    have hsz := hB.size
    have hlen := pkL_len hv hm
    have HX := Lib.hid h
    have HV := Lib.hid hv
    by_cases hlt : m < n
    · obtain ⟨u, v, h0, h1, h2, h3⟩ := HX.out m hlt
      have hv' := HV.out m hlt
      rw [← hB.cell (p := ⟨b, m * 2, none⟩) hbb] at h0
      rw [← hB.cell (p := ⟨b, m * 2 + 1, none⟩) hbb] at h1
      obtain ⟨-, -, b1, b2⟩ := tv_ok hv'
      obtain ⟨-, -, b3, b4⟩ := tu_ok hv'
      obtain ⟨b5, b6⟩ := pN_bnd HV.out hm
      obtain ⟨b7, b8⟩ := pE_bnd HV.out hm
      have HB := Lib.hid hB
      clear h hv hB
      have eN : pN X (m + 1) = StepI (X m) := by unfold pN; rw [if_neg (by omega)]; rfl
      have eE : pE Y (m + 1) = StepE (Y m) := by unfold pE; rw [if_neg (by omega)]; rfl
      have eL : pkL X Y (m + 1) = (pkL X Y m ++ vb (zz (StepI (X m) - pN X m))) ++ vb (zz (StepE (Y m) - pE Y m)) := rfl
      have HS := Lib.hid (sStepsOk_c u v (X m) (Y m) h2 h3 hv')
      obtain ⟨N, hN⟩ : ∃ N, StepI (X m) = N := ⟨_, rfl⟩
      obtain ⟨E, hE⟩ : ∃ E, StepE (Y m) = E := ⟨_, rfl⟩
      rw [hN] at eN b1 b2 eL HS
      rw [hE] at eE b3 b4 eL HS
      obtain ⟨pn, hpn⟩ : ∃ pn, pN X m = pn := ⟨_, rfl⟩
      obtain ⟨pe, hpe⟩ : ∃ pe, pE Y m = pe := ⟨_, rfl⟩
      rw [hpn] at eL b5 b6 ⊢
      rw [hpe] at eL b7 b8 ⊢
      clear hN hE hpn hpe
      obtain ⟨L, hL⟩ : ∃ L, pkL X Y m = L := ⟨_, rfl⟩
      rw [hL] at eL hown hlen
      clear hL
      go_wp2_with (go_at_call 58; ((with_reducible refine (HS.out _).mono ?_); rintro e wa ⟨⟨v, rfl, rfl⟩, hb⟩); have hu2 : ∀ n : Nat, n < n + 1 + 1 := (fun n => by omega); have hu3 : ∀ n : Nat, n < n + 1 + 1 + 1 := (fun n => by omega); obtain ⟨hc, hfz⟩ := bcell hb; (try simp only [World.heap_drewN] at hc hfz); have hs_ := hb.size; (try simp at hs_); (try have hz0 : w.heap.size < wa.heap.size := (by omega)); (try have hz1 : w.heap.size + 1 < wa.heap.size := (by omega)); (try have hz2 : w.heap.size + 2 < wa.heap.size := (by omega)); (try have hz3 : w.heap.size + 3 < wa.heap.size := (by omega)); (try have hza : wa.heap.size < wa.heap.size := (by omega)); (try have hza1 : wa.heap.size + 1 < wa.heap.size := (by omega)); (try have hzb : wb.heap.size < wa.heap.size := (by omega)); (try have hzb1 : wb.heap.size + 1 < wa.heap.size := (by omega)); (try have hzc : wc.heap.size < wa.heap.size := (by omega)); (try have hzd : wd.heap.size < wa.heap.size := (by omega)))
      have HBa : Below w.heap.size w wa := by have := HB.out; (with_reducible repeat (first | exact Below.refl _ _ | apply below_alloc | apply below_dN | apply below_d | refine below_setCell ?_ (by dsimp only; omega) | refine below_call (by assumption) ?_))
      have Ha := own_below hown hb
      have hs1 := HBa.size
      (go_at_call 65; refine (l07Bytes_c _ _ w.heap.size (N - pn) (by omega) (by omega) (by omega) _ HBa.size Ha).mono ?_; rintro e wb ⟨vb1, rfl, hownb, hbb1⟩)
      have hzz1 := zz_bnd (d := N - pn) (by omega) (by omega)
      have hl1 := vb_len (zz (N - pn))
      have HBb : Below w.heap.size w wb := HBa.trans hbb1
      have hs2 := HBb.size
      go_wp2_with fail
      (go_at_call 65; refine (l07Bytes_c _ _ w.heap.size (E - pe) (by omega) (by omega) (by rw [List.length_append]; omega) _ HBb.size hownb).mono ?_; rintro e wc ⟨vb2, rfl, hownc, hbc⟩)
      have HBc : Below w.heap.size w wc := HBb.trans hbc
      go_wp2_with fail
      go_roundw
      case rel => exact ⟨m + 1, by omega, by go_num, by rw [eN], by rw [eE], by rw [eL]; exact hownc, HBc⟩
      case measure => first | (simp [intOf]; done) | (simp [intOf]; omega)
    · obtain rfl : m = n := by omega
      have hcv := own_string (P := Try.prog) 67 9 (by kernel_rfl) (by kernel_rfl) (by kernel_rfl) hown (pkL_pos X Y hn1) (pkL_u8 X Y m)
      obtain ⟨L, hL⟩ : ∃ L, strL (pkL X Y m) = L := ⟨_, rfl⟩
      rw [hL] at hcv
      have HL := Lib.hid hL
      have HB := Lib.hid hB
      clear hB hown hL h hv
      go_wp2
      go_ret
      exact ⟨⟨_, rfl, congrArg Value.string HL.out.symm⟩, HB.out⟩
end Go.Proofs.Yteecbhmgogndaaa
