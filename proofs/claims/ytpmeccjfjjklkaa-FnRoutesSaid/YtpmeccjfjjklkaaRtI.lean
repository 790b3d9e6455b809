/- Contract of slices.Repeat for one whole number. No condition. -/
import Derived.Test.YtpmeccjfjjklkaaRtS
import Derived.Laws.CopyOwn
namespace Go.Proofs.Ytpmeccjfjjklkaa
open Go.RowKit
set_option linter.unusedSimpArgs false
theorem and32 {n : Nat} (h : n < 4294967296) : bits .and .u64 (n : Int) 4294967295 = (n : Int) := by
  have h1 : (BitVec.ofInt 64 (n : Int)).toNat = n := by rw [BitVec.ofInt_natCast, BitVec.toNat_ofNat]; exact Nat.mod_eq_of_lt (by omega)
  show IntKind.u64.wrap ((BitVec.ofInt 64 (n : Int) &&& BitVec.ofInt 64 4294967295).toNat : Int) = _
  rw [BitVec.toNat_and, h1, show (BitVec.ofInt 64 4294967295).toNat = 2 ^ 32 - 1 from rfl, Nat.and_two_pow_sub_one_eq_mod, IntKind.wrap_u64]
  omega
set_option maxRecDepth 100000 in
set_option maxHeartbeats 1000000 in
theorem mul_c (n : Nat) (hn : n ≤ 64) (w : World) : Calls Try.prog 88 #[.int .u64 1, .int .u64 n] w (Ret (RV (.tuple #[.int .u64 0, .int .u64 n])) w) := by
  have h1 : bits .and .u64 1 4294967295 = 1 := by decide
  have h0 : bits .and .u64 0 4294967295 = 0 := by decide
  have h2 := and32 (n := n) (by omega)
  have h3 : (n : Int) / 4294967296 = 0 := by omega
  have h4 : (1 : Int) / 4294967296 = 0 := by decide
  go_enter Try.func88, Try.ntmps88
  go_wp2
  go_ret2
  exact ⟨⟨_, rfl, rfl⟩, by (with_reducible repeat (first | exact Below.refl _ _ | apply below_alloc | apply below_dN | apply below_d | refine below_setCell ?_ (by dsimp only; omega) | refine below_call (by assumption) ?_))⟩
/-- A row that is filled up to k. -/
def fl (n k : Nat) : List Value := List.replicate k (.int .i64 (-1)) ++ List.replicate (n - k) (.int .i64 0)
theorem fl_len {n k : Nat} (h : k ≤ n) : (fl n k).length = n := by simp [fl]; omega
theorem fl_splice {n k c : Nat} (h : k + c ≤ n) : splice (fl n k) k (List.replicate c (.int .i64 (-1))) = fl n (k + c) := by
  unfold splice fl
  rw [List.take_append_of_le_length (by simp), List.take_of_length_le (by simp), List.length_replicate, List.drop_append, List.drop_of_length_le (by simp), List.length_replicate, List.drop_replicate, List.nil_append, ← List.append_assoc, List.replicate_append_replicate]
  congr 2
  omega
theorem fl_zero (n : Nat) : fl n 0 = List.replicate n (.int .i64 0) := by simp [fl]
theorem fl_at {n k j : Nat} (h : j < k) : (fl n k)[j]? = some (.int .i64 (-1)) := by
  unfold fl
  rw [List.getElem?_append_left (by simpa using h), List.getElem?_replicate, if_pos h]
theorem heap_cell {w : World} {q j : Nat} {L : List Value} {t : TypeId} {v : Value} (h : w.heap[q]? = some (.cells L.toArray t (0, 0))) (hv : L[j]? = some v) : w.cell? ((⟨q, 0, none⟩ : Addr).add j) = some v := by
  have e : (⟨q, 0, none⟩ : Addr).add j = ⟨q, j, none⟩ := by by_cases h : j = 0 <;> simp [Addr.add, h]
  rw [e]
  simp [World.cell?, h, hv]
theorem made1 (n : Nat) (z : Value) : madeCells #[z] (n * 1) = Array.replicate n z := by
  apply Array.ext'
  apply List.ext_getElem
  · simp [madeCells]
  · intro i h1 h2
    simp [madeCells, Nat.mod_one]
set_option maxRecDepth 100000 in
set_option maxHeartbeats 2000000 in
theorem repeat_c (bx n : Nat) (hn1 : 1 ≤ n) (hn : n ≤ 64) (w : World) (hx : w.cell? ⟨bx, 0, none⟩ = some (.int .i64 (-1))) :
    Calls Try.prog 78 #[.slice (some ⟨bx, 0, none⟩) 1 1, .int .i64 n] w fun e w' => ∃ q, e = .returned (.slice (some ⟨q, 0, none⟩) n n) ∧ w.heap.size ≤ q ∧ w'.heap[q]? = some (.cells (fl n n).toArray 2 (0, 0)) ∧ Below w.heap.size w w' := by
  have hmk := make_rows (P := Try.prog) 47 2 (.int .i64 0) 1 8 (by kernel_rfl) (by kernel_rfl) n (by omega) (by omega)
  have hcz : (Value.int .i64 0).cells = #[.int .i64 0] := rfl
  rw [hcz, made1] at hmk
  have HM := Lib.hid (mul_c n hn)
  have hbl := block_lt_of_cell hx
  simp only at hbl
  go_enter Try.func78, Try.ntmps78
  go_upto_region 7 with (first | (go_at_call 88; ((with_reducible refine (HM.out _).mono ?_); rintro e w1 ⟨⟨v, rfl, rfl⟩, hb⟩); have hu2 : ∀ n : Nat, n < n + 1 + 1 := (fun n => by omega); have hu3 : ∀ n : Nat, n < n + 1 + 1 + 1 := (fun n => by omega); obtain ⟨hc, hfz⟩ := bcell hb; (try simp only [World.heap_drewN] at hc hfz); have hs_ := hb.size; (try simp at hs_); (try have hz0 : w.heap.size < w1.heap.size := (by omega)); (try have hz1 : w.heap.size + 1 < w1.heap.size := (by omega)); (try have hz2 : w.heap.size + 2 < w1.heap.size := (by omega)); (try have hz3 : w.heap.size + 3 < w1.heap.size := (by omega)); (try have hza : wa.heap.size < w1.heap.size := (by omega)); (try have hza1 : wa.heap.size + 1 < w1.heap.size := (by omega)); (try have hzb : wb.heap.size < w1.heap.size := (by omega)); (try have hzb1 : wb.heap.size + 1 < w1.heap.size := (by omega)); (try have hzc : wc.heap.size < w1.heap.size := (by omega)); (try have hzd : wd.heap.size < w1.heap.size := (by omega))))
  have hl1 : w.heap.size ≤ w1.heap.size := by assumption
  have hx1 : w1.cell? ⟨bx, 0, none⟩ = some (.int .i64 (-1)) := by rw [hc bx 0 hbl]; exact hx
  have hbx1 : bx < w1.heap.size := by omega
  have hsr : ∀ (j : Nat) (v : Value), [Value.int .i64 (-1)][j]? = some v → (w1.alloc (.cells (Array.replicate n (.int .i64 0)) 2)).cell? ((⟨bx, 0, none⟩ : Addr).add j) = some v := by
    intro j v hj
    match j, hj with
    | 0, hj =>
      simp at hj
      subst hj
      have e : (⟨bx, 0, none⟩ : Addr).add 0 = ⟨bx, 0, none⟩ := by simp [Addr.add]
      rw [e]
      rw [World.cell?_alloc_past _ _ _ hbx1]
      exact hx1
  have HSR := Lib.hid hsr
  have hB1 : Below w.heap.size w w1 := by (with_reducible repeat (first | exact Below.refl _ _ | apply below_alloc | apply below_dN | apply below_d | refine below_setCell ?_ (by dsimp only; omega) | refine below_call (by assumption) ?_))
  clear hsr hx
  have hmin : ([Value.int .i64 (-1)] : List Value).length = Nat.min 1 n := by show 1 = min 1 n; omega
  have hfit : 0 + ([Value.int .i64 (-1)] : List Value).length ≤ (List.replicate n (Value.int .i64 0)).length := by simp; omega
  have hhp : (w1.alloc (.cells (Array.replicate n (.int .i64 0)) 2)).heap[w1.heap.size]? = some (.cells (List.replicate n (.int .i64 0)).toArray 2 (0, 0)) := by rw [heap_alloc_new]; simp
  have hBa := hB1.alloc hl1 (.cells (Array.replicate n (.int .i64 0)) 2)
  have HMIN := Lib.hid hmin
  have HFIT := Lib.hid hfit
  have HHP := Lib.hid hhp
  have HBA := Lib.hid hBa
  clear hmin hfit hhp hBa
  go_wp2_with (refine wpList_copy_splice rfl (.tmp 31) (.tmp 32) 47 47 rfl 2 Try.underlying47 (by kernel_rfl) _ _ _ _ _ _ rfl rfl w1.heap.size 0 (List.replicate n (.int .i64 0)) 2 HHP.out [.int .i64 (-1)] HMIN.out (fun _ => ⟨rfl, _, rfl, HSR.out⟩) HFIT.out (by intro v hv; simp at hv; subst hv; rfl) w.heap.size w HBA.out hl1 ?_; intro w2 HG2 hB2)
  have hF1 : w2.heap[w1.heap.size]? = some (.cells (fl n 1).toArray 2 (0, 0)) := by
    have e := fl_splice (n := n) (k := 0) (c := 1) (by omega)
    rw [fl_zero, Nat.zero_add] at e
    rw [← e]
    exact HG2.out
  have HF1 := Lib.hid hF1
  have HB2 := Lib.hid hB2
  clear HG2 hB2 hF1 HHP HBA HSR hB1 hb hc hfz
  go_loopw [8] (fun k wr => ∃ i : Nat, 1 ≤ i ∧ i ≤ n ∧ k = .int .i64 i ∧ wr.heap[w1.heap.size]? = some (.cells (fl n i).toArray 2 (0, 0)) ∧ Below w.heap.size w wr) (fun k _ => n - (intOf k).toNat)
  case atStart => exact ⟨1, by omega, hn1, rfl, HF1.out, HB2.out⟩
  case round =>
    obtain ⟨i, hi1, hin, rfl, hF, hB⟩ := hrel
    by_cases hlt : i < n
    · obtain ⟨c, hc⟩ : ∃ c, Nat.min i (n - i) = c := ⟨_, rfl⟩
      have hc0 : 1 ≤ c ∧ i + c ≤ n := by rw [← hc]; have h1 := Nat.min_le_right i (n - i); have h2 : 1 ≤ Nat.min i (n - i) := Nat.le_min.2 ⟨hi1, by omega⟩; change 1 ≤ Nat.min i (n - i) ∧ i + Nat.min i (n - i) ≤ n; change Nat.min i (n - i) ≤ n - i at h1; omega
      have hcl : (List.replicate c (Value.int .i64 (-1))).length = Nat.min i (n - i) := by rw [hc]; simp
      have hfit : i + (List.replicate c (Value.int .i64 (-1))).length ≤ (fl n i).length := by rw [fl_len hin]; simp; omega
      have hsr : ∀ (j : Nat) (v : Value), (List.replicate c (Value.int .i64 (-1)))[j]? = some v → wr.drew.cell? ((⟨w1.heap.size, 0, none⟩ : Addr).add j) = some v := by
        intro j v hj
        have hci : c ≤ i := by rw [← hc]; exact Nat.min_le_left i (n - i)
        rw [List.getElem?_replicate] at hj
        split at hj
        · rename_i hjc
          cases hj
          exact heap_cell hF (fl_at (by omega))
        · cases hj
      have HC := Lib.hid hcl
      have HFIT2 := Lib.hid hfit
      have HSR2 := Lib.hid hsr
      have HFh := Lib.hid hF
      have HB := Lib.hid hB
      have hone : ∀ v ∈ List.replicate c (Value.int .i64 (-1)), v.oneCell' = true := by intro v hv; rw [List.mem_replicate] at hv; rw [hv.2]; rfl
      have HONE := Lib.hid hone
      have hni : ¬ n = i := by omega
      clear hc hcl hfit hsr hF hB hone
      go_wp2
      go_region_held3 (fun w' => Below w.heap.size w w') (first | assumption | exact HB.out.drew)
        (first | (refine step_copy_splice rfl (.tmp 41) (.tmp 44) 47 47 rfl 2 Try.underlying47 (by kernel_rfl) _ _ _ _ _ _ rfl rfl w1.heap.size i (fl n i) 2 HFh.out (List.replicate c (Value.int .i64 (-1))) HC.out (fun _ => ⟨rfl, _, rfl, HSR2.out⟩) HFIT2.out HONE.out w.heap.size w HB.out.drew hl1 ?_; intro w4 HG4 hB4))
      have hwr : IntKind.i64.wrap ((i : Int) + (c : Int)) = (i : Int) + (c : Int) := by rw [IntKind.wrap_i64]; omega
      have hF4 : w4.heap[w1.heap.size]? = some (.cells (fl n (i + c)).toArray 2 (0, 0)) := by
        rw [← fl_splice (n := n) (k := i) (c := c) hc0.2]
        exact HG4.out
      have HF4 := Lib.hid hF4
      clear hF4 HG4
      go_wp2
      go_roundw
      case rel => exact ⟨i + c, by omega, by omega, by simp [goInt, hwr], HF4.out, hB4⟩
      case measure => first | (simp [intOf]; done) | (simp [intOf, goInt, hwr]; omega)
    · obtain rfl : i = n := by omega
      go_wp2
      go_ret
      exact ⟨w1.heap.size, rfl, hl1, hF, hB⟩
end Go.Proofs.Ytpmeccjfjjklkaa
