/- The reference's counting of outputs. No condition. -/
import Derived.Test.YtnkimeeofmbhkaaLn
import Derived.Maps.AppendAt
import Derived.Deep.OwnRows
import Derived.Deep.AppendLies
import Derived.Deep.DeepCutAuto
namespace Go.Proofs.Ytnkimeeofmbhkaa
open Go.RowKit
set_option linter.unusedSimpArgs false
theorem info_strC : (Try.prog.info? 9).map (fun i => (i.zero, i.size, i.bytes)) = some (some (.string ⟨#[]⟩), 1, 16) := by kernel_rfl
theorem cellOneC (w : World) (v : Value) (t : TypeId) : ∀ j u, [v][j]? = some u → (w.alloc (.cells #[v] t)).cell? ((⟨w.heap.size, 0, none⟩ : Addr).add j) = some u := by
  intro j u hu
  match j, hu with
  | 0, hu => cases hu; simp [Addr.add]
set_option maxRecDepth 100000 in
set_option maxHeartbeats 1000000 in
theorem l01Cut_c (s : ByteArray) (hs : s.size ≤ 1048576) (w : World) :
    Calls Try.prog 81 #[.string s, .int .u8 10] w fun e w' => ∃ v, e = .returned v ∧ w'.ownsRow w.heap.size 9 1 v (lns s (s.size + 1)).length ((lns s (s.size + 1)).map Value.string) ∧ Below w.heap.size w w' := by
  obtain ⟨i0, hti, hI0, hI1, hI2⟩ := info_parts info_strC
  go_enter Try.func81, Try.ntmps81
  go_wp2
  go_loopw [5, 6, 7] (fun v f k wr => ∃ i : Nat, i ≤ s.size + 1 ∧ k = .int .i64 i ∧ f = .int .i64 (fr s i) ∧ wr.ownsRow w.heap.size 9 1 v (lns s i).length ((lns s i).map Value.string) ∧ Below w.heap.size w wr) (fun _ _ k _ => s.size + 1 - (intOf k).toNat)
  case atStart => exact ⟨0, by omega, rfl, rfl, ⟨rfl, .inr ⟨w.heap.size, 0, #[], rfl, Nat.le_refl _, heap_alloc_new _ _, Nat.le_refl _, by simp [maxLen], rfl, rfl⟩⟩, by (with_reducible repeat (first | exact Below.refl _ _ | apply below_alloc | apply below_dN | apply below_d | refine below_setCell ?_ (by dsimp only; omega) | refine below_call (by assumption) ?_))⟩
  case round =>
    obtain ⟨i, hi, rfl, rfl, hown, hB⟩ := hrel
    have hfl := fr_le (s := s) i
    have hll := lns_len (s := s) i
    have hf0 : (0 : Int) ≤ (fr s i : Int) := by omega
    have hf1 : (fr s i : Int) ≤ (i : Int) := by omega
    have hsz := hB.size
    have HOWN := Lib.hid hown
    have HB := Lib.hid hB
    clear hB
    by_cases hle : i ≤ s.size
    · have hf2 : (i : Int) ≤ (s.size : Int) := by omega
      by_cases hlt : i < s.size
      · cases hnl : nlAt s i
        · have hb : ((s[i].toNat : Int) == 10) = false := by rw [nlAt_lt hlt] at hnl; simpa using hnl
          have hie : ((i : Int) == (s.size : Int)) = false := by simp; omega
          clear hown
          go_wp2
          go_roundw
          case rel => exact ⟨i + 1, by omega, by go_num, by rw [fr_f hnl], by rw [lns_f hnl]; exact HOWN.out, HB.out⟩
          case measure => first | (simp [intOf]; done) | (simp [intOf]; omega)
        · have hb : ((s[i].toNat : Int) == 10) = true := by rw [nlAt_lt hlt] at hnl; simpa using hnl
          have hie : ((i : Int) == (s.size : Int)) = false := by simp; omega
          go_wp2_with (at_builtin; refine wpList_append_own _ rfl (.tmp 26) (.tmp 31) 81 rfl w.heap.size 9 i0 (.string ⟨#[]⟩) 1 16 Try.underlying81 hti hI0 hI1 hI2 rfl (by decide) _ _ _ rfl (hown.alloc _) ⟨wr.heap.size, 0, none⟩ 1 1 [.string (s.extract (fr s i) i)] rfl rfl (cellOneC _ _ _) (by intro z hz; simp at hz; subst hz; rfl) (by unfold maxLen; omega) (by omega) (by simp; omega) ?_; intro v1 w1 hown1 hgrow1 hnil1)
          go_roundw
          case rel =>
            refine ⟨i + 1, by omega, by go_num, by rw [fr_t hnl]; go_num, ?_, (HB.out.alloc hsz _).grown hgrow1 (by simp; omega) (fun j hj => (HOWN.out.lt j hj).1)⟩
            rw [lns_t hnl]
            simpa using hown1
          case measure => first | (simp [intOf]; done) | (simp [intOf]; omega)
      · obtain rfl : i = s.size := by omega
        have hie : ((s.size : Int) == (s.size : Int)) = true := by simp
        have hnl : nlAt s s.size = true := nlAt_end (by omega)
        go_wp2_with (at_builtin; refine wpList_append_own _ rfl (.tmp 26) (.tmp 31) 81 rfl w.heap.size 9 i0 (.string ⟨#[]⟩) 1 16 Try.underlying81 hti hI0 hI1 hI2 rfl (by decide) _ _ _ rfl (hown.alloc _) ⟨wr.heap.size, 0, none⟩ 1 1 [.string (s.extract (fr s s.size) s.size)] rfl rfl (cellOneC _ _ _) (by intro z hz; simp at hz; subst hz; rfl) (by unfold maxLen; omega) (by omega) (by simp; omega) ?_; intro v1 w1 hown1 hgrow1 hnil1)
        go_roundw
        case rel =>
          refine ⟨s.size + 1, by omega, by go_num, by rw [fr_t hnl]; go_num, ?_, (HB.out.alloc hsz _).grown hgrow1 (by simp; omega) (fun j hj => (HOWN.out.lt j hj).1)⟩
          rw [lns_t hnl]
          simpa using hown1
        case measure => first | (simp [intOf]; done) | (simp [intOf]; omega)
    · obtain rfl : i = s.size + 1 := by omega
      clear hown
      go_wp2
      go_ret
      exact ⟨_, rfl, HOWN.out, HB.out⟩
/-- All lines of a text but what stands behind the last newline. -/
def lns0 (s : ByteArray) : List ByteArray := lns s s.size
theorem lns_all (s : ByteArray) : lns s (s.size + 1) = lns0 s ++ [s.extract (fr s s.size) s.size] := lns_t (nlAt_end (by omega))
/-- What the reference's split returns. -/
def LR (s : ByteArray) (w : World) (e : Ending) (w' : World) : Prop := ∃ g c, e = .returned (.tuple #[.slice (some ⟨g, 0, none⟩) (lns0 s).length c, .string (s.extract (fr s s.size) s.size)]) ∧ g < w'.heap.size ∧ (∀ j p, (lns0 s)[j]? = some p → w'.cell? ⟨g, j, none⟩ = some (.string p)) ∧ Below w.heap.size w w'
theorem own_cell {w : World} {lo g n c : Nat} {t : TypeId} {xs : List Value} (h : w.ownsRow lo t 1 (.slice (some ⟨g, 0, none⟩) n c) n xs) : g < w.heap.size ∧ ∀ j u, xs[j]? = some u → w.cell? ⟨g, j, none⟩ = some u := by
  have hl := (h.lt g rfl).2
  refine ⟨hl, fun j u hu => ?_⟩
  rcases h.2 with ⟨e, -⟩ | ⟨g', cap, cur, e, h1, h2, h3, h4, h5, h6⟩
  · exact nomatch e
  · injection e with e1 e2 e3
    injection e1 with e1
    injection e1 with e1
    subst e1
    have hj : j < n := by
      have := h.1
      have := (List.getElem?_eq_some_iff.1 hu).1
      omega
    have hrow : w.rowIs g t (cap * 1) (fun i => (cur[i]?).getD undef) := ⟨cur, h2, by omega, fun i hi => by
      show cur[i]? = some ((cur[i]?).getD undef)
      rw [Array.getElem?_eq_getElem (by omega)]; rfl⟩
    rw [hrow.cell (i := j) (by omega)]
    rw [← h6, List.getElem?_take, if_pos (by omega), Array.getElem?_toList] at hu
    rw [hu]; rfl
set_option maxRecDepth 100000 in
set_option maxHeartbeats 2000000 in
theorem l08Lines_c (s : ByteArray) (hs : s.size ≤ 1048576) (w : World) : Calls Try.prog 54 #[.string s] w (LR s w) := by
  have HC := Lib.hid (l01Cut_c s hs)
  unfold LR
  have hll := lns_len (s := s) s.size
  obtain ⟨n, hn⟩ : ∃ n, (lns0 s).length = n := ⟨_, rfl⟩
  have hn2 : (lns s (s.size + 1)).length = n + 1 := by rw [lns_all, List.length_append, hn]; rfl
  have hnb : n ≤ 1048576 := by rw [← hn]; exact Nat.le_trans hll hs
  obtain ⟨q, hq⟩ : ∃ q, s.extract (fr s s.size) s.size = q := ⟨_, rfl⟩
  rw [hq, hn]
  have hat : ((lns s (s.size + 1)).map Value.string)[n]? = some (Value.string q) := by
    rw [lns_all, hq, List.map_append, List.getElem?_append_right (by simp [hn])]
    simp [hn]
  have hat2 : ∀ j p, (lns0 s)[j]? = some p → ((lns s (s.size + 1)).map Value.string)[j]? = some (Value.string p) := fun j p hp => by
    have := (List.getElem?_eq_some_iff.1 hp).1
    rw [lns_all, List.map_append, List.getElem?_append_left (by simpa using this), List.getElem?_map, hp]
    rfl
  rw [hn2] at HC
  have HAT := Lib.hid hat
  have HAT2 := Lib.hid hat2
  clear hat hat2 hn hn2 hq hll
  go_enter Try.func54, Try.ntmps54
  go_upto_region 2 with (go_at_call 81; ((with_reducible refine (HC.out _).mono ?_); rintro e w1 ⟨v, rfl, hown, hb⟩))
  obtain ⟨g, c, rfl, -, -⟩ := hown.form (by omega)
  obtain ⟨hg, hc⟩ := own_cell hown
  have hc0 := hc n _ HAT.out
  have HG := Lib.hid (fun j p hp => hc j _ (HAT2.out j p hp))
  have HB := Lib.hid hb
  obtain ⟨i0, i1, i2, i3, i4⟩ := hown.2.resolve_left (by rintro ⟨e, -⟩; exact nomatch e)
  have hcap : n + 1 ≤ c := by
    injection i3 with e1 e2 e3
    omega
  clear hc hown hb i0 i1 i2 i3 i4
  have hk1 : (0 : Int) ≤ (n : Int) := by omega
  have hk2 : (n : Int) < (n : Int) + 1 := by omega
  have hk3 : (n : Int) ≤ (c : Int) := by omega
  have hwr : IntKind.i64.wrap (n : Int) = (n : Int) := by rw [IntKind.wrap_i64]; omega
  (apply region_looseK (k := 13); (kernel_rfl); (kernel_rfl); intro opsL KL hopsL hKL; (dsimp only [List.take]))
  (apply rel_val; (rfl); (intro wq hbq; have hcq := (bcell hbq).1; (go_simp; first | done | rfl | exact ⟨rfl, rfl⟩)); (try go_simp))
  (apply rel_val; (rfl); (intro wq hbq; have hcq := (bcell hbq).1; (go_simp; first | done | rfl | exact ⟨rfl, rfl⟩)); (try go_simp))
  (apply rel_val; (rfl); (intro wq hbq; have hcq := (bcell hbq).1; (go_simp; first | done | rfl | exact ⟨rfl, rfl⟩)); (try go_simp))
  (apply rel_val; (rfl); (intro wq hbq; have hcq := (bcell hbq).1; (go_simp; first | done | rfl | exact ⟨rfl, rfl⟩)); (try go_simp))
  (apply rel_val; (rfl); (intro wq hbq; have hcq := (bcell hbq).1; (go_simp; first | done | rfl | exact ⟨rfl, rfl⟩)); (try go_simp))
  (apply rel_val; (rfl); (intro wq hbq; have hcq := (bcell hbq).1; (go_simp; first | done | rfl | exact ⟨rfl, rfl⟩)); (try go_simp))
  (apply rel_val; (rfl); (intro wq hbq; have hcq := (bcell hbq).1; (go_simp; first | done | rfl | exact ⟨rfl, rfl⟩)); (try go_simp))
  (apply rel_val; (rfl); (intro wq hbq; have hcq := (bcell hbq).1; (go_simp; first | done | rfl | exact ⟨rfl, rfl⟩)); (try go_simp))
  (apply rel_val; (rfl); (intro wq hbq; have hcq := (bcell hbq).1; (go_simp; first | done | rfl | exact ⟨rfl, rfl⟩)); (try go_simp))
  (apply rel_val; (rfl); (intro wq hbq; have hcq := (bcell hbq).1; (go_simp; first | done | rfl | exact ⟨rfl, rfl⟩)); (try go_simp))
  (apply rel_val; (rfl); (intro wq hbq; have hcq := (bcell hbq).1; (go_simp; first | done | rfl | exact ⟨rfl, rfl⟩)); (try go_simp))
  (apply rel_val; (rfl); (intro wq hbq; have hcq := (bcell hbq).1; (go_simp; first | done | rfl | exact ⟨rfl, rfl⟩)); (try go_simp))
  (apply rel_val; (rfl); (intro wq hbq; have hcq := (bcell hbq).1; (go_simp; first | done | rfl | exact ⟨rfl, rfl⟩)); (try go_simp))
  (refine wpRel_nil ?_; refine hKL _ _ ?_; clear hKL hopsL opsL KL; intro w1 hb hnews; obtain ⟨hc, hfz⟩ := bcell hb; (try simp only [World.heap_drewN] at hc hfz); have hz := hb.size; (dsimp only [List.drop]))
  go_wp2
  go_ret2
  have hs1 := HB.out.size
  exact ⟨g, c, rfl, by omega, fun j p hp => (hc _ _ hg).trans (HG.out j p hp), HB.out.trans (hb.mono hs1)⟩
end Go.Proofs.Ytnkimeeofmbhkaa
