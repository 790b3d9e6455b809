/- The reference's decimal numbers. No condition. -/
import Derived.Test.YtnkimeeofmbhkaaDoorJdig
import Derived.Test.YtnkimeeofmbhkaaDoorBas2
import Derived.Test.YtnkimeeofmbhkaaDoorMem
import Derived.Maps.AppendAt
import Derived.Deep.AppendLies
import Derived.Deep.OwnRows
namespace Go.Proofs.YtnkimeeofmbhkaaDoor
open Go.RowKit
set_option linter.unusedSimpArgs false
def u8v (b : UInt8) : Value := .int .u8 (b.toNat : Int)
def lenV : Value → Nat
  | .slice _ n _ => n
  | _ => 0
theorem u8v_dgt {d : Nat} (h : d < 10) : u8v (dgt d) = .int .u8 (48 + (d : Int)) := by
  unfold u8v dgt
  rw [UInt8.toNat_ofNat', Nat.mod_eq_of_lt (by omega)]
  rfl
theorem info_u8J : (Tryd.prog.info? 5).map (fun i => (i.zero, i.size, i.bytes)) = some (some (.int .u8 0), 1, 1) := by kernel_rfl
theorem own_cellJ {w : World} {lo g n c : Nat} {t : TypeId} {xs : List Value} (h : w.ownsRow lo t 1 (.slice (some ⟨g, 0, none⟩) n c) n xs) : g < w.heap.size ∧ ∀ j u, xs[j]? = some u → w.cell? ((⟨g, 0, none⟩ : Addr).add j) = some u := by
  have hl := (h.lt g rfl).2
  refine ⟨hl, fun j u hu => ?_⟩
  have hadd : (⟨g, 0, none⟩ : Addr).add j = ⟨g, j, none⟩ := by unfold Addr.add; split <;> simp_all
  rw [hadd]
  rcases h.2 with ⟨e, -⟩ | ⟨g', cap, cur, e, h1, h2, h3, h4, h5, h6⟩
  · exact nomatch e
  · injection e with e1 e2 e3
    injection e1 with e1
    injection e1 with e1
    subst e1
    have hj : j < n := by
      have := h.1
      have := (List.getElem?_eq_some_iff.1 hu).1
      omega
    have hrow : w.rowIs g t (cap * 1) (fun i => (cur[i]?).getD undef) := ⟨cur, h2, by omega, fun i hi => by
      show cur[i]? = some ((cur[i]?).getD undef)
      rw [Array.getElem?_eq_getElem (by omega)]; rfl⟩
    rw [hrow.cell (i := j) (by omega)]
    rw [← h6, List.getElem?_take, if_pos (by omega), Array.getElem?_toList] at hu
    rw [hu]; rfl
theorem bytes_str {P : Program} {w : World} {lo g c : Nat} {e : TypeId} (xs : List UInt8) (src dst : TypeId) (hs : P.underlying src = some (.slice e)) (he : P.underlying e = some (.int .u8)) (hd : P.underlying dst = some .string)
    (h : w.ownsRow lo e 1 (.slice (some ⟨g, 0, none⟩) xs.length c) xs.length (xs.map u8v)) : (convert src dst (.slice (some ⟨g, 0, none⟩) xs.length c)).run P w = .ok (.string ⟨xs.toArray⟩) w := by
  rw [run_convert_bytes_string w src dst e _ _ _ hs he hd]
  have hl := run_loadCells_list (P := P) w ⟨g, 0, none⟩ (xs.map u8v) (own_cellJ h).2
  rw [List.length_map] at hl
  have hmm : (xs.map u8v).toArray = ((xs.map fun b => (b.toNat : Int)).map fun z => Value.int .u8 z).toArray := by rw [List.map_map]; rfl
  rw [hmm] at hl
  rw [run_bytesToString w ⟨g, 0, none⟩ xs.length c (xs.map fun b => (b.toNat : Int)) (by rw [hl]), push_fold]
  simp only [List.map_map, ByteArray.data_empty, List.nil_append]
  congr 2
  have e : (fun n : Int => UInt8.ofNat n.toNat) ∘ (fun b : UInt8 => (b.toNat : Int)) = id := by
    funext b
    simp
  rw [e, List.map_id]
set_option maxRecDepth 100000 in
set_option maxHeartbeats 1000000 in
theorem l01Dec_c (n : Nat) (hn : n < 65003) (w : World) : Calls Tryd.prog 13 #[.int .i64 n] w fun e w' => e = .returned (.string ⟨(dg n).toArray⟩) ∧ Below w.heap.size w w' := by
  obtain ⟨i0, hti, hI0, hI1, hI2⟩ := info_parts info_u8J
  have hdl := dg_len (n := n) (by omega)
  go_enter Tryd.func13, Tryd.ntmps13
  go_wp2
  go_loopw [3, 4] (fun v k wr => ∃ (m g c : Nat) (xs : List UInt8), m ≤ n ∧ k = .int .i64 m ∧ v = .slice (some ⟨g, 0, none⟩) xs.length c ∧ xs.length ≤ 5 ∧ DS n m xs ∧ wr.ownsRow w.heap.size 5 1 v xs.length (xs.map u8v) ∧ Below w.heap.size w wr) (fun v k _ => (intOf k).toNat + (1 - lenV v))
  case atStart => exact ⟨n, w.heap.size, 0, [], Nat.le_refl _, rfl, rfl, by simp, .inl ⟨by simp, .inr rfl⟩, ⟨rfl, .inr ⟨w.heap.size, 0, #[], rfl, Nat.le_refl _, heap_alloc_new _ _, Nat.le_refl _, by simp [maxLen], rfl, rfl⟩⟩, by (with_reducible repeat (first | exact Below.refl _ _ | apply below_alloc | apply below_dN | apply below_d | refine below_setCell ?_ (by dsimp only; omega) | refine below_call (by assumption) ?_))⟩
  case round =>
    obtain ⟨m, g, c, xs, hm, rfl, rfl, hxl, hD, hown, hB⟩ := hrel
    have hsz := hB.size
    by_cases hx : xs = []
    · subst hx
      have hd10 : m % 10 < 10 := Nat.mod_lt _ (by decide)
      have hnew : (wr.alloc (.cells #[.int .u8 (48 + (m % 10 : Nat))] 5)).ownsRow w.heap.size 5 1 (.slice (some ⟨wr.heap.size, 0, none⟩) 1 1) 1 [.int .u8 (48 + (m % 10 : Nat))] := ⟨rfl, .inr ⟨wr.heap.size, 1, #[.int .u8 (48 + (m % 10 : Nat))], rfl, hsz, heap_alloc_new _ _, Nat.le_refl _, by simp [maxLen], rfl, rfl⟩⟩
      have hnc := (own_cellJ (hown.alloc (.cells #[.int .u8 (48 + (m % 10 : Nat))] 5))).2
      have hDS := hD.step (.inl rfl)
      have hlen := hDS.len
      have HDS := Lib.hid hDS
      have HB := Lib.hid hB
      clear hDS hB hD
      go_wp2_with (at_builtin; refine wpList_append_own _ rfl (.tmp 24) (.tmp 25) 38 rfl w.heap.size 5 i0 (.int .u8 0) 1 1 Tryd.underlying38 hti hI0 hI1 hI2 rfl (by decide) _ _ _ rfl hnew ⟨g, 0, none⟩ 0 c (([] : List UInt8).map u8v) rfl (by simp) hnc (by intro z hz; obtain ⟨b, -, rfl⟩ := List.mem_map.1 hz; rfl) (by unfold maxLen; omega) (by omega) (by simp; omega) ?_; intro v1 w1 hown1 hgrow1 hnil1)
      obtain ⟨g1, c1, rfl, -, -⟩ := hown1.form (by omega)
      go_roundw
      case rel =>
        refine ⟨m / 10, g1, c1, dgt (m % 10) :: ([] : List UInt8), by omega, by go_num, by simp [Nat.add_comm], by omega, HDS.out, ?_, (HB.out.alloc hsz _).grown hgrow1 (by simp; omega) (fun j hj => (hnew.lt j hj).1)⟩
        rw [List.map_cons, u8v_dgt hd10, List.length_cons]
        simpa [Nat.add_comm] using hown1
      case measure => first | (simp [intOf, lenV]; done) | (simp [intOf, lenV]; omega)
    · have hx0 : ((xs.length : Int) == 0) = false := by
        have : xs.length ≠ 0 := fun e => hx (List.eq_nil_of_length_eq_zero e)
        simp; exact hx
      by_cases hm0 : m = 0
      · subst hm0
        have hne : (((0 : Nat) : Int) != 0) = false := by simp
        have hL := hD.last hx rfl
        subst hL
        have hstr := bytes_str (P := Tryd.prog) (dg n) 38 9 Tryd.underlying38 Tryd.underlying5 Tryd.underlying9 hown
        have hneg : ¬ ((n : Int) < 0) := by omega
        have HB := Lib.hid hB
        clear hB hD
        go_wp2
        go_ret
        exact ⟨rfl, HB.out⟩
      · have hne : ((m : Int) != 0) = true := by simp; omega
        have hxp : 1 ≤ xs.length := by have : xs.length ≠ 0 := fun e => hx (List.eq_nil_of_length_eq_zero e)
                                       omega
        have hd10 : m % 10 < 10 := Nat.mod_lt _ (by decide)
        have hnew : (wr.alloc (.cells #[.int .u8 (48 + (m % 10 : Nat))] 5)).ownsRow w.heap.size 5 1 (.slice (some ⟨wr.heap.size, 0, none⟩) 1 1) 1 [.int .u8 (48 + (m % 10 : Nat))] := ⟨rfl, .inr ⟨wr.heap.size, 1, #[.int .u8 (48 + (m % 10 : Nat))], rfl, hsz, heap_alloc_new _ _, Nat.le_refl _, by simp [maxLen], rfl, rfl⟩⟩
        have hnc := (own_cellJ (hown.alloc (.cells #[.int .u8 (48 + (m % 10 : Nat))] 5))).2
        have hDS := hD.step (.inr hm0)
        have hlen := hDS.len
        have HDS := Lib.hid hDS
        have HB := Lib.hid hB
        clear hDS hB hD
        go_wp2_with (at_builtin; refine wpList_append_own _ rfl (.tmp 24) (.tmp 25) 38 rfl w.heap.size 5 i0 (.int .u8 0) 1 1 Tryd.underlying38 hti hI0 hI1 hI2 rfl (by decide) _ _ _ rfl hnew ⟨g, 0, none⟩ xs.length c (xs.map u8v) rfl (by simp) hnc (by intro z hz; obtain ⟨b, -, rfl⟩ := List.mem_map.1 hz; rfl) (by unfold maxLen; omega) (by omega) (by simp; omega) ?_; intro v1 w1 hown1 hgrow1 hnil1)
        obtain ⟨g1, c1, rfl, -, -⟩ := hown1.form (by omega)
        go_roundw
        case rel =>
          refine ⟨m / 10, g1, c1, dgt (m % 10) :: xs, by omega, by go_num, by simp [Nat.add_comm], by omega, HDS.out, ?_, (HB.out.alloc hsz _).grown hgrow1 (by simp; omega) (fun j hj => (hnew.lt j hj).1)⟩
          rw [List.map_cons, u8v_dgt hd10, List.length_cons]
          simpa [Nat.add_comm] using hown1
        case measure => first | (simp [intOf, lenV]; done) | (simp [intOf, lenV]; omega)
end Go.Proofs.YtnkimeeofmbhkaaDoor
