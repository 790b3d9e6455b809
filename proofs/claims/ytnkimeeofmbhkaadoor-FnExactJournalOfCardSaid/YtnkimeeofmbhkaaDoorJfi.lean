/- strconv.FormatInt at numbers below 65536: the decimal digits. No condition. -/
import Derived.Test.YtnkimeeofmbhkaaDoorJf10
namespace Go.Proofs.YtnkimeeofmbhkaaDoor
open Go.RowKit
set_option linter.unusedSimpArgs false
theorem bytes_strA {P : Program} {w : World} {e : TypeId} {ad : Addr} {c : Nat} (xs : List UInt8) (src dst : TypeId) (hs : P.underlying src = some (.slice e)) (he : P.underlying e = some (.int .u8)) (hd : P.underlying dst = some .string)
    (h : ∀ j u, (xs.map u8v)[j]? = some u → w.cell? (ad.add j) = some u) : (convert src dst (.slice (some ad) xs.length c)).run P w = .ok (.string ⟨xs.toArray⟩) w := by
  rw [run_convert_bytes_string w src dst e _ _ _ hs he hd]
  have hl := run_loadCells_list (P := P) w ad (xs.map u8v) h
  rw [List.length_map] at hl
  have hmm : (xs.map u8v).toArray = ((xs.map fun b => (b.toNat : Int)).map fun z => Value.int .u8 z).toArray := by rw [List.map_map]; rfl
  rw [hmm] at hl
  rw [run_bytesToString w ad xs.length c (xs.map fun b => (b.toNat : Int)) (by rw [hl]), push_fold]
  simp only [List.map_map, ByteArray.data_empty, List.nil_append]
  congr 2
  have e : (fun n : Int => UInt8.ofNat n.toNat) ∘ (fun b : UInt8 => (b.toNat : Int)) = id := by
    funext b
    simp
  rw [e, List.map_id]
theorem ndg_len {n : Nat} (h1 : 100 ≤ n) (h2 : n < 65536) : (dg n).length = ndg n := by
  unfold ndg
  by_cases a : n < 1000
  · rw [if_pos a, dg3 h1 a]; rfl
  · rw [if_neg a]
    by_cases b : n < 10000
    · rw [if_pos b, dg4 (by omega) b]; rfl
    · rw [if_neg b, dg5 (by omega) (by omega)]; rfl
theorem dg_row {n : Nat} (h1 : 100 ≤ n) (h2 : n < 65536) (f : Nat → Value) : ∀ j u, ((dg n).map u8v)[j]? = some u → j < ndg n ∧ u = f10 n (ndg n) f (1 + j) := by
  intro j u hu
  have hd : ∀ d, u8v (dgt (d % 10)) = .int .u8 ((48 + d % 10 : Nat) : Int) := fun d => by rw [u8v_dgt (Nat.mod_lt _ (by decide))]; push_cast; rfl
  unfold ndg
  by_cases a : n < 1000
  · rw [if_pos a]
    rw [dg3 h1 a, show n / 100 = n / 100 % 10 by omega] at hu
    match j, hu with
    | 0, hu => refine ⟨by omega, ?_⟩; rw [f10_3e, if_pos rfl]; simp at hu; rw [← hu]; exact hd _
    | 1, hu => refine ⟨by omega, ?_⟩; rw [f10_3e, if_neg (by decide), if_pos rfl]; simp at hu; rw [← hu]; exact hd _
    | 2, hu => refine ⟨by omega, ?_⟩; rw [f10_3e, if_neg (by decide), if_neg (by decide), if_pos rfl]; simp at hu; rw [← hu]; exact hd _
    | j + 3, hu => simp at hu
  · rw [if_neg a]
    by_cases b : n < 10000
    · rw [if_pos b]
      rw [dg4 (by omega) b, show n / 1000 = n / 1000 % 10 by omega] at hu
      match j, hu with
      | 0, hu => refine ⟨by omega, ?_⟩; rw [f10_4e, if_pos rfl]; simp at hu; rw [← hu]; exact hd _
      | 1, hu => refine ⟨by omega, ?_⟩; rw [f10_4e, if_neg (by decide), if_pos rfl]; simp at hu; rw [← hu]; exact hd _
      | 2, hu => refine ⟨by omega, ?_⟩; rw [f10_4e, if_neg (by decide), if_neg (by decide), if_pos rfl]; simp at hu; rw [← hu]; exact hd _
      | 3, hu => refine ⟨by omega, ?_⟩; rw [f10_4e, if_neg (by decide), if_neg (by decide), if_neg (by decide), if_pos rfl]; simp at hu; rw [← hu]; exact hd _
      | j + 4, hu => simp at hu
    · rw [if_neg b]
      rw [dg5 (by omega) (by omega), show n / 10000 = n / 10000 % 10 by omega] at hu
      match j, hu with
      | 0, hu => refine ⟨by omega, ?_⟩; rw [f10_5e, if_pos rfl]; simp at hu; rw [← hu]; exact hd _
      | 1, hu => refine ⟨by omega, ?_⟩; rw [f10_5e, if_neg (by decide), if_pos rfl]; simp at hu; rw [← hu]; exact hd _
      | 2, hu => refine ⟨by omega, ?_⟩; rw [f10_5e, if_neg (by decide), if_neg (by decide), if_pos rfl]; simp at hu; rw [← hu]; exact hd _
      | 3, hu => refine ⟨by omega, ?_⟩; rw [f10_5e, if_neg (by decide), if_neg (by decide), if_neg (by decide), if_pos rfl]; simp at hu; rw [← hu]; exact hd _
      | 4, hu => refine ⟨by omega, ?_⟩; rw [f10_5e, if_neg (by decide), if_neg (by decide), if_neg (by decide), if_neg (by decide), if_pos rfl]; simp at hu; rw [← hu]; exact hd _
      | j + 5, hu => simp at hu
theorem f10_any (T : TypeId) (b N c n : Nat) (f : Nat → Value) (h1 : 100 ≤ n) (h2 : n < 65536) (hN : 6 ≤ N) (w : World) (hrow : w.rowIs b T N f) :
    Calls Tryd.prog 29 #[.slice (some ⟨b, 1, none⟩) (ndg n) c, .int .u64 n] w (F10 T b N n (ndg n) f w) := by
  unfold ndg
  by_cases a : n < 1000
  · rw [if_pos a]; exact f10_3 T b N c n f h1 a hN w hrow
  · rw [if_neg a]
    by_cases b' : n < 10000
    · rw [if_pos b']; exact f10_4 T b N c n f (by omega) b' hN w hrow
    · rw [if_neg b']; exact f10_5 T b N c n f (by omega) (by omega) hN w hrow
def s1Ok (T : ByteArray) : Bool := (List.range 10).all fun k => (T.extract k (k + 1)).data.toList == [dgt k]
def s2Ok (T : ByteArray) : Bool := (List.range 100).all fun k => (T.extract (k * 2) (k * 2 + 2)).data.toList == [dgt (k / 10), dgt (k % 10)]
theorem ba_ext {a b : ByteArray} (h : a.data.toList = b.data.toList) : a = b := by
  obtain ⟨⟨x⟩⟩ := a
  obtain ⟨⟨y⟩⟩ := b
  simp at h
  rw [h]
theorem s1_at {T : ByteArray} {n : Nat} (hn : n < 10) (hT : s1Ok T = true) : T.extract n (n + 1) = ⟨(dg n).toArray⟩ := by
  unfold s1Ok at hT
  simp only [List.all_eq_true, List.mem_range, beq_iff_eq] at hT
  rw [dg_small hn]
  exact ba_ext (by rw [hT n hn])
theorem s2_at {T : ByteArray} {n : Nat} (h0 : 10 ≤ n) (hn : n < 100) (hT : s2Ok T = true) : T.extract (n * 2) (n * 2 + 2) = ⟨(dg n).toArray⟩ := by
  unfold s2Ok at hT
  simp only [List.all_eq_true, List.mem_range, beq_iff_eq] at hT
  rw [dg2 h0 hn]
  exact ba_ext (by rw [hT n hn])
set_option maxRecDepth 100000 in
set_option maxHeartbeats 2000000 in
theorem small_c (n : Nat) (hn : n < 100) (w : World) : Calls Tryd.prog 27 #[.int .i64 n] w fun e w' => e = .returned (.string ⟨(dg n).toArray⟩) ∧ w = w' := by
  by_cases h : n < 10
  · have h1 : (0 : Int) ≤ (n : Int) := by omega
    have h2 : (n : Int) < 10 := by omega
    have h3 : (n : Int) ≤ (n : Int) + 1 := by omega
    have h4 : (n : Int) + 1 ≤ 36 := by omega
    have h5 : ((n : Int) + 1).toNat = n + 1 := by omega
    go_enter Tryd.func27, Tryd.ntmps27
    go_wp2
    go_ret
    exact ⟨congrArg (fun z => Ending.returned (.string z)) (s1_at h (by decide +kernel)), rfl⟩
  · have h1 : (0 : Int) ≤ (n : Int) * 2 := by omega
    have h2 : ¬ ((n : Int) < 10) := by omega
    have h3 : (n : Int) * 2 ≤ (n : Int) * 2 + 2 := by omega
    have h4 : (n : Int) * 2 + 2 ≤ 200 := by omega
    have h5 : ((n : Int) * 2 + 2).toNat = n * 2 + 2 := by omega
    have h6 : ((n : Int) * 2).toNat = n * 2 := by omega
    go_enter Tryd.func27, Tryd.ntmps27
    go_wp2
    go_ret
    exact ⟨congrArg (fun z => Ending.returned (.string z)) (s2_at (by omega) hn (by decide +kernel)), rfl⟩
theorem row_new (w : World) (cs : Array Value) (t : TypeId) : (w.alloc (.cells cs t)).rowIs w.heap.size t cs.size (fun i => (cs[i]?).getD undef) := ⟨cs, heap_alloc_new _ _, rfl, fun i hi => by
  show cs[i]? = some ((cs[i]?).getD undef)
  rw [Array.getElem?_eq_getElem (by omega)]; rfl⟩
set_option maxRecDepth 100000 in
set_option maxHeartbeats 2000000 in
theorem fmtInt_c (n : Nat) (hn : n < 65536) (w : World) (ht : TB w) : Calls Tryd.prog 24 #[.int .i64 n, .int .i64 10] w fun e w' => e = .returned (.string ⟨(dg n).toArray⟩) ∧ Below w.heap.size w w' := by
  have h0 : (0 : Int) ≤ (n : Int) := by omega
  by_cases h : n < 100
  · have h1 : (n : Int) < 100 := by omega
    have HS := Lib.hid (small_c n h)
    go_enter Tryd.func24, Tryd.ntmps24
    go_wp2_with (go_at_call 27; refine (HS.out _).mono ?_; rintro e w' ⟨rfl, rfl⟩)
    go_ret
    exact ⟨rfl, Below.refl _ _⟩
  · have h1 : ¬ ((n : Int) < 100) := by omega
    have h2 : ¬ ((n : Int) < 0) := by omega
    have HN := Lib.hid (fun w' (hb : Below w.heap.size w w') => numDigits_c n (by omega) hn w' (ht.below hb))
    have HD := Lib.hid (dg_row (n := n) (by omega) hn)
    have hlen := ndg_len (n := n) (by omega) hn
    have hnd : 3 ≤ ndg n ∧ ndg n ≤ 5 := by unfold ndg; (repeat' split) <;> omega
    have HF := Lib.hid (fun T b N c f w' hN hr => f10_any T b N c n f (by omega) hn hN w' hr)
    generalize ndg n = nd at HN HD hlen hnd HF
    have k1 : (1 : Int) ≤ 1 + (nd : Int) := by omega
    have k2 : 1 + (nd : Int) ≤ 24 := by omega
    go_enter Tryd.func24, Tryd.ntmps24
    go_upto_region 10 with (first | (go_at_call 28; refine (HN.out _ (by (with_reducible repeat (first | exact Below.refl _ _ | apply below_alloc | apply below_dN | apply below_d | refine below_setCell ?_ (by dsimp only; omega) | refine below_call (by assumption) ?_)))).mono ?_; rintro e w' ⟨rfl, rfl⟩) | (go_at_call 29; refine (HF.out 48 w.heap.size 24 23 _ _ (by omega) (row_new w _ _)).mono ?_; rintro e w1 ⟨⟨v, rfl⟩, hrow, hb, hs⟩))
    have hstr := bytes_strA (P := Tryd.prog) (w := w1) (ad := ⟨w.heap.size, 1, none⟩) (c := 23) (dg n) 38 9 Tryd.underlying38 Tryd.underlying5 Tryd.underlying9 (fun j u hu => by
      obtain ⟨hj, hue⟩ := HD.out _ j u hu
      have hadd : (⟨w.heap.size, 1, none⟩ : Addr).add j = ⟨w.heap.size, 1 + j, none⟩ := by unfold Addr.add; split <;> simp_all
      rw [hadd, hue]
      exact hrow.cell (by omega))
    rw [hlen] at hstr
    have HB : Below w.heap.size w w1 := ((Below.refl _ _).alloc (Nat.le_refl _) _).trans hb
    clear hrow hb hs hlen
    have HB2 := Lib.hid HB
    clear HB
    go_wp2
    go_ret
    exact ⟨rfl, HB2.out⟩
theorem fmtInt2_c (n : Nat) (hn : n < 65536) (w : World) (ht : TB w) : Calls Tryd.prog 19 #[.int .i64 n, .int .i64 10] w fun e w' => e = .returned (.string ⟨(dg n).toArray⟩) ∧ Below w.heap.size w w' := by
  have H := Lib.hid (fmtInt_c n hn w ht)
  go_enter Tryd.func19, Tryd.ntmps19
  go_wp2_with (go_at_call 24; ((with_reducible refine (H.out).mono ?_); rintro e w1 ⟨rfl, hb1⟩))
  go_ret
  exact ⟨rfl, hb1⟩
theorem decimal_c (n : Nat) (hn : n < 65536) (w : World) (ht : TB w) : Calls Tryd.prog 16 #[.int .i64 n] w fun e w' => e = .returned (.string ⟨(dg n).toArray⟩) ∧ Below w.heap.size w w' := by
  have H := Lib.hid (fmtInt2_c n hn w ht)
  go_enter Tryd.func16, Tryd.ntmps16
  go_wp2_with (go_at_call 19; ((with_reducible refine (H.out).mono ?_); rintro e w1 ⟨rfl, hb1⟩))
  go_ret
  exact ⟨rfl, hb1⟩
end Go.Proofs.YtnkimeeofmbhkaaDoor
