/- The program's CountOutputs, whose loop runs over a function. No condition. -/
import Derived.Test.YtnkimeeofmbhkaaLnP
import Derived.RangeFuncBox
import Derived.RangeFuncLeaves
import Derived.WalkKit
import Derived.OwnWalkIn
import Derived.TacticsInMore
import Derived.RegionIn
import Derived.LoopNIn
import Derived.LoopIn
namespace Go.Proofs.Ytnkimeeofmbhkaa
open Go.RowKit
set_option linter.unusedSimpArgs false
attribute [local go_sem] Oper.semAt_some
/-- The parts of a function's first loop over a function. -/
def rfOf : Code → Code × Code
  | .seq a b => match rfOf a with
    | (.skip, .skip) => rfOf b
    | p => p
  | .block _ c => rfOf c
  | .rangeFunc _ _ a c => (a, c)
  | _ => (.skip, .skip)
def bodyOf (f : Func) : Code := match f.body with
  | some c => c
  | none => .skip
noncomputable def lnA : Code := (rfOf (bodyOf Try.f27)).1
noncomputable def lnB : Code := (rfOf (bodyOf Try.f27)).2
set_option maxRecDepth 100000 in
set_option maxHeartbeats 1000000 in
/-- strings.Lines: the text is boxed; the function value captures the box. -/
theorem lines_in (F : Fence) (n : Nat) (h5 : F.fn 56) (hro : F.round = none) (s : ByteArray) (w : World) :
    CallsIn F n Try.prog 56 #[.string s] w fun e w' => e = .returned (.func (.func 83) #[] #[.pointer (some ⟨w.heap.size, 0, none⟩)]) ∧ w' = w.alloc (.cells #[.string s] 9) := by
  refine callsIn_of_wp Try.func56 rfl h5 ?_ hro
  simp only [Try.ntmps56, List.size_toArray, List.length_cons, List.length_nil, Nat.reduceAdd, Nat.reduceSub, Array.replicate_succ, Array.replicate_zero, List.push_toArray, List.append_toArray, List.nil_append, List.cons_append]
  gi_wp2
  go_ret
  exact ⟨rfl, rfl⟩
/-- The loop's record. -/
noncomputable def lnRec (fn : FuncId) (s : ByteArray) (N : Nat) (st : LoopState) : Loop :=
  { state := st, pending := none, fn, tmps := #[.string s, undef, .int .i64 0, .int .i64 0, .bool false, .pointer (some ⟨N, 0, none⟩), .pointer (some ⟨N + 1, 0, none⟩), undef, .string s, .bool true, .bool false, .string s, .func (.func 83) #[] #[.pointer (some ⟨N + 1 + 1, 0, none⟩)], undef, undef, undef, undef, undef, undef, undef, undef, undef, undef, undef, undef, undef], params := #[13], assign := lnA, body := lnB, defers := N + 3 }
def oth (l : List ByteArray) : Nat := l.length - nbad l
/-- Between two rounds. -/
structure LnAt (fn : FuncId) (s : ByteArray) (w0 : World) (st : LoopState) (l : List ByteArray) (r : ByteArray) (W : World) : Prop where
  cb : W.cell? ⟨w0.heap.size, 0, none⟩ = some (.int .i64 (nbad l : Int))
  fb : W.frozen? ⟨w0.heap.size, 0, none⟩ = false
  co : W.cell? ⟨w0.heap.size + 1, 0, none⟩ = some (.int .i64 (oth l : Int))
  fo : W.frozen? ⟨w0.heap.size + 1, 0, none⟩ = false
  cs : W.cell? ⟨w0.heap.size + 2, 0, none⟩ = some (.string r)
  fs : W.frozen? ⟨w0.heap.size + 2, 0, none⟩ = false
  K : W.heap[w0.heap.size + 3]? = some (.deferred (some []))
  L : W.heap[w0.heap.size + 4]? = some (.loop (lnRec fn s w0.heap.size st))
  B : Below w0.heap.size w0 W
namespace LnAt
variable {fn : FuncId} {s : ByteArray} {w0 W : World} {st : LoopState} {l : List ByteArray} {r : ByteArray}
theorem rec' (h : LnAt fn s w0 st l r W) (st' : LoopState) : LnAt fn s w0 st' l r (W.putObj (w0.heap.size + 4) (.loop { lnRec fn s w0.heap.size st with state := st' })) := by
  have hl : w0.heap.size + 4 < W.heap.size := (Array.getElem?_eq_some_iff.1 h.L).1
  have ho : ∀ k, k ≠ w0.heap.size + 4 → (W.putObj (w0.heap.size + 4) (.loop { lnRec fn s w0.heap.size st with state := st' })).heap[k]? = W.heap[k]? := fun k hk => World.putObj_heap_other hk
  refine ⟨(World.cell?_of_block (ho _ (by simp only; omega))).trans h.cb, (World.frozen?_of_block (ho _ (by simp only; omega))).trans h.fb, (World.cell?_of_block (ho _ (by simp only; omega))).trans h.co, (World.frozen?_of_block (ho _ (by simp only; omega))).trans h.fo, (World.cell?_of_block (ho _ (by simp only; omega))).trans h.cs, (World.frozen?_of_block (ho _ (by simp only; omega))).trans h.fs, (ho _ (by omega)).trans h.K, World.putObj_heap_same hl, ⟨h.B.os, h.B.tape, h.B.output, by simp [h.B.size], fun b hb => (ho b (by omega)).trans (h.B.block b hb)⟩⟩
theorem other (h : LnAt fn s w0 st l r W) (b : Nat) (v : Value) : ∀ k, k ≠ b → (W.setCell ⟨b, 0, none⟩ v).heap[k]? = W.heap[k]? := fun k hk => Below.heap_setCell _ _ _ _ hk
theorem bumpB (h : LnAt fn s w0 st l r W) {l' : List ByteArray} (h1 : nbad l' = nbad l + 1) (h2 : oth l' = oth l) (x : Int) (hx : x = (nbad l' : Int)) : LnAt fn s w0 st l' r (W.setCell ⟨w0.heap.size, 0, none⟩ (.int .i64 x)) := by
  have ho := h.other w0.heap.size (.int .i64 x)
  refine ⟨?_, ?_, (World.cell?_of_block (ho _ (by simp only; omega))).trans (by rw [h2]; exact h.co), (World.frozen?_of_block (ho _ (by simp only; omega))).trans h.fo, (World.cell?_of_block (ho _ (by simp only; omega))).trans h.cs, (World.frozen?_of_block (ho _ (by simp only; omega))).trans h.fs, (ho _ (by omega)).trans h.K, (ho _ (by omega)).trans h.L, h.B.setCell (p := ⟨w0.heap.size, 0, none⟩) (Nat.le_refl _) _⟩
  · rw [← hx]; exact World.cell?_setCell_same' _ _ _ (by rw [h.cb]; rfl)
  · rw [World.frozen?_setCell]; exact h.fb
theorem bumpO (h : LnAt fn s w0 st l r W) {l' : List ByteArray} (h1 : nbad l' = nbad l) (h2 : oth l' = oth l + 1) (x : Int) (hx : x = (oth l' : Int)) : LnAt fn s w0 st l' r (W.setCell ⟨w0.heap.size + 1, 0, none⟩ (.int .i64 x)) := by
  have ho := h.other (w0.heap.size + 1) (.int .i64 x)
  refine ⟨(World.cell?_of_block (ho _ (by simp only; omega))).trans (by rw [h1]; exact h.cb), (World.frozen?_of_block (ho _ (by simp only; omega))).trans h.fb, ?_, ?_, (World.cell?_of_block (ho _ (by simp only; omega))).trans h.cs, (World.frozen?_of_block (ho _ (by simp only; omega))).trans h.fs, (ho _ (by omega)).trans h.K, (ho _ (by omega)).trans h.L, h.B.setCell (p := ⟨w0.heap.size + 1, 0, none⟩) (by simp only; omega) _⟩
  · rw [← hx]; exact World.cell?_setCell_same' _ _ _ (by rw [h.co]; rfl)
  · rw [World.frozen?_setCell]; exact h.fo
theorem next (h : LnAt fn s w0 st l r W) (r' : ByteArray) : LnAt fn s w0 st l r' (W.setCell ⟨w0.heap.size + 2, 0, none⟩ (.string r')) := by
  have ho := h.other (w0.heap.size + 2) (.string r')
  refine ⟨(World.cell?_of_block (ho _ (by simp only; omega))).trans h.cb, (World.frozen?_of_block (ho _ (by simp only; omega))).trans h.fb, (World.cell?_of_block (ho _ (by simp only; omega))).trans h.co, (World.frozen?_of_block (ho _ (by simp only; omega))).trans h.fo, ?_, ?_, (ho _ (by omega)).trans h.K, (ho _ (by omega)).trans h.L, h.B.setCell (p := ⟨w0.heap.size + 2, 0, none⟩) (by simp only; omega) _⟩
  · exact World.cell?_setCell_same' _ _ _ (by rw [h.cs]; rfl)
  · rw [World.frozen?_setCell]; exact h.fs
theorem below (h : LnAt fn s w0 st l r W) {W' : World} (hb : Below W.heap.size W W') : LnAt fn s w0 st l r W' := by
  have hl : w0.heap.size + 4 < W.heap.size := (Array.getElem?_eq_some_iff.1 h.L).1
  obtain ⟨hc, hf⟩ := bcell hb
  exact ⟨(hc _ _ (by omega)).trans h.cb, (hf _ _ (by omega)).trans h.fb, (hc _ _ (by omega)).trans h.co, (hf _ _ (by omega)).trans h.fo, (hc _ _ (by omega)).trans h.cs, (hf _ _ (by omega)).trans h.fs, (hb.block _ (by omega)).trans h.K, (hb.block _ hl).trans h.L, h.B.trans (hb.mono h.B.size)⟩
theorem lt (h : LnAt fn s w0 st l r W) : w0.heap.size + 4 < W.heap.size := (Array.getElem?_eq_some_iff.1 h.L).1
theorem drewN (h : LnAt fn s w0 st l r W) : LnAt fn s w0 st l r W.drew := ⟨h.cb, h.fb, h.co, h.fo, h.cs, h.fs, h.K, h.L, h.B.drew⟩
end LnAt
set_option maxRecDepth 100000 in
set_option maxHeartbeats 2000000 in
/-- One round: the line is counted. -/
theorem ln_yield (F : Fence) (m : Nat) (fn : FuncId) (hfn : F.fn fn) (s : ByteArray) (w0 : World) (l : List ByteArray) (r p q : ByteArray) (hl : l.length ≤ 16000) (hq : isl q = isn p) (W : World) (h : LnAt fn s w0 .ready l r W) :
    YieldAt F m Try.prog (w0.heap.size + 4) #[.string p] W fun e W' => e = .returned (.bool true) ∧ LnAt fn s w0 .ready (l ++ [q]) r W' := by
  refine ⟨fn, _, lnA, lnB, run_yield (P := Try.prog) (args := #[.string p]) h.L rfl, roundIn_of_wpIn hfn ?_⟩
  have hbr := run_beginRound (P := Try.prog) h.L rfl
  have h2 := h.rec' .busy
  obtain ⟨W2, hW2⟩ : ∃ W2, W.putObj (w0.heap.size + 4) (.loop { lnRec fn s w0.heap.size .ready with state := .busy }) = W2 := ⟨_, rfl⟩
  rw [hW2] at hbr h2
  have hbad := nbad_le l
  have hsn := nbad_snoc (l := l) (p := q)
  have hll : (l ++ [q]).length = l.length + 1 := by simp
  have H2 := Lib.hid h2
  have c1 := h2.cb
  have c2 := h2.fb
  have c3 := h2.co
  have c4 := h2.fo
  clear h h2 hW2
  dsimp only [lnA, lnB, rfOf, bodyOf, Try.f27, lnRec]
  cases hp : isn p
  · rw [hp] at hq
    rw [hq, if_neg (by decide)] at hsn
    have ho : oth (l ++ [q]) = oth l + 1 := by unfold oth; omega
    have hol : oth l ≤ 16000 := by unfold oth; omega
    unfold isn at hp
    simp only [Bool.or_eq_false_iff] at hp
    obtain ⟨p1, p2⟩ := hp
    have HSN := Lib.hid hsn
    have HO := Lib.hid ho
    clear hsn ho hll
    gi_wp2
    refine ⟨W2, hbr, ?_⟩
    gi_wp2
    have h3 := H2.out.bumpO HSN.out HO.out _ (show (oth l : Int) + 1 = _ by rw [HO.out]; push_cast; rfl)
    exact ⟨_, _, run_endRound none h3.L, rfl, h3.rec' .ready⟩
  · rw [hp] at hq
    rw [hq, if_pos rfl] at hsn
    have ho : oth (l ++ [q]) = oth l := by unfold oth; omega
    have hbl : nbad l ≤ 16000 := by omega
    unfold isn at hp
    have HSN := Lib.hid hsn
    have HO := Lib.hid ho
    clear hsn ho hll
    cases p1 : (p.toList == ([110, 111, 10] : List UInt8))
    · have p2 : (p.toList == ([119, 104, 97, 116, 10] : List UInt8)) = true := by rw [p1] at hp; simpa using hp
      clear hp
      gi_wp2
      refine ⟨W2, hbr, ?_⟩
      gi_wp2
      have h3 := H2.out.bumpB HSN.out HO.out _ (show (nbad l : Int) + 1 = _ by rw [HSN.out]; push_cast; rfl)
      exact ⟨_, _, run_endRound none h3.L, rfl, h3.rec' .ready⟩
    · clear hp
      gi_wp2
      refine ⟨W2, hbr, ?_⟩
      gi_wp2
      have h3 := H2.out.bumpB HSN.out HO.out _ (show (nbad l : Int) + 1 = _ by rw [HSN.out]; push_cast; rfl)
      exact ⟨_, _, run_endRound none h3.L, rfl, h3.rec' .ready⟩
/-- How long the text is that is still to come. -/
def restL (B : Nat) (W : World) : Nat := match W.cell? ⟨B, 0, none⟩ with
  | some (.string r) => r.size
  | _ => 0
theorem restL_eq {B : Nat} {W : World} {r : ByteArray} (h : W.cell? ⟨B, 0, none⟩ = some (.string r)) : restL B W = r.size := by unfold restL; rw [h]
set_option maxRecDepth 100000 in
set_option maxHeartbeats 4000000 in
/-- The iterator of strings.Lines at a text that ends with a newline. -/
theorem lines1_in (F : Fence) (hFw : Hid (F = Fence.wide)) (n : Nat) (h83 : F.fn 83) (h84 : F.fn 84) (hro : F.round = none) (hn : 1 ≤ n) (fn : FuncId) (hfn : F.fn fn) (s : ByteArray) (w0 : World) (hs : s.size ≤ 16000) (hE : fr s s.size = s.size)
    (HI : Hid (∀ m r w, CallsIn F m Try.prog 84 #[.string r, .int .u8 10] w fun e w' => e = .returned (.int .i64 (Lib.indexByte r.data.toList 10)) ∧ w = w')) (W : World) (h : LnAt fn s w0 .ready [] s W) :
    CallsIn F n Try.prog 83 #[.func (.yield (w0.heap.size + 4)) #[] #[], .pointer (some ⟨w0.heap.size + 2, 0, none⟩)] W fun e W' => (∃ v, e = .returned v) ∧ ∃ r, LnAt fn s w0 .ready (lns0 s) r W' := by
  refine callsIn_of_wp Try.func83 rfl h83 ?_ hro
  simp only [Try.ntmps83, List.size_toArray, List.length_cons, List.length_nil, Nat.reduceAdd, Nat.reduceSub, Array.replicate_succ, Array.replicate_zero, List.push_toArray, List.append_toArray, List.nil_append, List.cons_append]
  gi_wp2
  gi_loopw [3] (fun _ wr => ∃ a r, a ≤ s.size ∧ fr s a = a ∧ r.data.toList = s.data.toList.drop a ∧ LnAt fn s w0 .ready (lns s a) r wr) (fun _ wr => restL (w0.heap.size + 2) wr)
  case atStart => exact ⟨0, s, Nat.zero_le _, rfl, by simp, h⟩
  case round =>
    obtain ⟨a, r, ha, hfa, hr, hL⟩ := hrel
    have hrs : r.size = s.size - a := by
      have := congrArg List.length hr
      simpa using this
    have c1 := hL.cs
    have c2 := hL.fs
    have HL := Lib.hid hL
    by_cases hlt : a < s.size
    · obtain ⟨k, k1, k2, k3, k4, k5, k6, k7⟩ := line_step hr hlt hfa hE
      have e0 : (0 : Int) < (r.size : Int) := by omega
      have e1 : (0 : Int) ≤ (k : Int) := by omega
      have e2 : (k : Int) + 1 ≤ (r.size : Int) := by omega
      have e3 : (0 : Int) ≤ (k : Int) + 1 := by omega
      have hk4 : ((k : Int) + 1).toNat = k + 1 := by omega
      have hkw : IntKind.i64.wrap ((k : Int) + 1) = (k : Int) + 1 := by rw [IntKind.wrap_i64]; omega
      obtain ⟨p, hp⟩ : ∃ p, r.extract 0 (k + 1) = p := ⟨_, rfl⟩
      obtain ⟨r', hr'⟩ : ∃ r', r.extract (k + 1) r.size = r' := ⟨_, rfl⟩
      have hlen := lns_len (s := s) a
      have HY := Lib.hid (fun (W' : World) (h' : LnAt fn s w0 .ready (lns s a) r' W') => ln_yield F (n - 1) fn hfn s w0 (lns s a) r' p (s.extract a (a + k)) (by omega) (by rw [← hp]; exact k6) W' h')
      have K1 := Lib.hid k1
      rw [hp] at k6
      rw [hr'] at k7
      have K4 := Lib.hid k4
      have K5 := Lib.hid k5
      have K7 := Lib.hid k7
      have HR := Lib.hid hr
      have HRS := Lib.hid hrs
      clear hrs hL hr hE hfa k1 k4 k5 k6 k7
      gi_wp2_with (first | (gi_at_call 84; refine (HI.out _ _ _).mono ?_; rintro e w' ⟨rfl, rfl⟩; rw [K1.out]))
      have hFw := hFw.out
      subst hFw
      have hlt4 := HL.out.lt
      have hlw : w0.heap.size + 2 < wr.heap.size := by omega
      refine wpIn_wide.2 ?_
      (apply region_looseK (k := 9); (kernel_rfl); (kernel_rfl); intro opsL KL hopsL hKL; (dsimp only [List.take]))
      iterate 9 (apply rel_val; (rfl); (intro wq hbq; have hcq := (bcell hbq).1; (go_simp; first | done | rfl | exact ⟨rfl, rfl⟩)); (try go_simp))
      (refine wpRel_nil ?_; refine hKL _ _ ?_; clear hKL hopsL opsL KL; intro w1 hb hnews; obtain ⟨hc, hfz⟩ := bcell hb; (try simp only [World.heap_drewN] at hc hfz); have hz := hb.size; (dsimp only [List.drop]))
      go_wp2
      have h3 := (HL.out.below hb).next r'
      obtain ⟨W3, hW3⟩ : ∃ W3, w1.setCell ⟨w0.heap.size + 2, 0, none⟩ (.string r') = W3 := ⟨_, rfl⟩
      rw [hW3] at h3 ⊢
      obtain ⟨fn', tmps', assign', body', hy, hR⟩ := HY.out W3 h3
      clear hW3 h3 hb hnews hc hfz hz c1 c2 e0 e1 e2 e3 hk4 hkw
      gi_wp2
      refine hR.mono ?_
      rintro e W4 ⟨rfl, h4⟩
      have H4 := Lib.hid h4
      clear h4 hR hy
      gi_wp2
      go_roundw
      case rel => exact ⟨a + k + 1, r', by omega, K4.out, K7.out, by rw [K5.out]; exact H4.out⟩
      case measure =>
        rw [restL_eq H4.out.cs, restL_eq HL.out.cs]
        have e1 := congrArg List.length K7.out
        have e2 := congrArg List.length HR.out
        simp only [List.length_drop] at e1 e2
        have f0 : s.data.toList.length = s.size := by simp
        have f1 : r.data.toList.length = r.size := by simp
        have f2 : r'.data.toList.length = r'.size := by simp
        omega
    · have e0 : ¬ ((0 : Int) < (r.size : Int)) := by omega
      have eL : LnAt fn s w0 .ready (lns0 s) r wr := by
        have : a = s.size := by omega
        subst this
        exact HL.out
      have EL := Lib.hid eL
      clear hL eL hr hE hfa
      gi_wp2
      go_end0
      exact ⟨⟨_, rfl⟩, r, EL.out⟩
set_option maxRecDepth 100000 in
set_option maxHeartbeats 1000000 in
theorem count_in (F : Fence) (hFw : Hid (F = Fence.wide)) (h27 : F.fn 27) (h55 : F.fn 55) (h56 : F.fn 56) (h83 : F.fn 83) (h84 : F.fn 84) (hro : F.round = none) (s : ByteArray) (w : World)
    (HS : Hid (∀ n w, CallsIn F n Try.prog 55 #[.string s] w fun e w' => e = .returned (.bool (cntOk s)) ∧ w = w'))
    (HI : Hid (∀ m r w, CallsIn F m Try.prog 84 #[.string r, .int .u8 10] w fun e w' => e = .returned (.int .i64 (Lib.indexByte r.data.toList 10)) ∧ w = w')) :
    CallsIn F 3 Try.prog 27 #[.string s] w (CntR s w) := by
  refine callsIn_of_wp_marks Try.func27 rfl h27 ?_ hro
  simp only [Try.ntmps27, List.size_toArray, List.length_cons, List.length_nil, Nat.reduceAdd, Nat.reduceSub, Array.replicate_succ, Array.replicate_zero, List.push_toArray, List.append_toArray, List.nil_append, List.cons_append]
  unfold CntR
  cases hok : cntOk s
  · rw [hok] at HS
    gi_wp2_with (first | (gi_at_call 55; refine (HS.out _ _).mono ?_; rintro e w' ⟨rfl, rfl⟩))
    exact ⟨_, results_tmp3 rfl _ _ _, rfl, Below.refl _ _⟩
  · rw [hok] at HS
    have hok' := hok
    unfold cntOk at hok'
    simp only [Bool.and_eq_true, decide_eq_true_eq] at hok'
    obtain ⟨hs16, hE⟩ := hok'
    have HE := Lib.hid hE
    clear hE
    gi_wp2_with (first | (gi_at_call 55; refine (HS.out _ _).mono ?_; rintro e w' ⟨rfl, rfl⟩) | (gi_at_call 56; refine (lines_in F _ h56 hro _ _).mono ?_; rintro e w' ⟨rfl, rfl⟩))
    refine wpIn_rangeFunc ?_
    intro fn hfn
    rw [hro]
    obtain ⟨W0, hW0⟩ : ∃ W0, ((w.alloc (.cells #[.int .i64 0] 2)).alloc (.cells #[.int .i64 0] 2)).alloc (.cells #[.string s] 9) = W0 := ⟨_, rfl⟩
    have hs0 : W0.heap.size = w.heap.size + 3 := by rw [← hW0]; simp
    have b1 : Boxed W0 w.heap.size 2 (.int .i64 0) := by rw [← hW0]; exact ((Boxed.new w _ _).alloc _).alloc _
    have b2 : Boxed W0 (w.heap.size + 1) 2 (.int .i64 0) := by rw [← hW0]; have := (Boxed.new (w.alloc (.cells #[.int .i64 0] 2)) 2 (.int .i64 0)).alloc (.cells #[.string s] 9); rwa [World.size_alloc] at this
    have b3 : Boxed W0 (w.heap.size + 2) 9 (.string s) := by rw [← hW0]; have := Boxed.new ((w.alloc (.cells #[.int .i64 0] 2)).alloc (.cells #[.int .i64 0] 2)) 9 (.string s); rwa [World.size_alloc, World.size_alloc] at this
    have a1 := b1.cell
    have a2 := b1.frozen
    have a3 := b2.cell
    have a4 := b2.frozen
    have a5 := b3.cell
    have a6 := b3.frozen
    have a7 : Below w.heap.size w W0 := by rw [← hW0]; (with_reducible repeat (first | exact Below.refl _ _ | apply below_alloc | apply below_dN | apply below_d | refine below_setCell ?_ (by dsimp only; omega) | refine below_call (by assumption) ?_))
    rw [hW0]
    obtain ⟨W1, hW1⟩ : ∃ W1, (W0.alloc (.deferred (some []))).alloc (.loop (lnRec fn s w.heap.size .ready)) = W1 := ⟨_, rfl⟩
    have hold : Below W0.heap.size W0 W1 := by rw [← hW1]; exact ((Below.refl _ _).alloc (Nat.le_refl _) _).alloc (by simp) _
    obtain ⟨hc, hf⟩ := bcell hold
    have hM : LnAt fn s w .ready [] s W1 := by
      refine ⟨(hc _ _ (by omega)).trans a1, (hf _ _ (by omega)).trans a2, (hc _ _ (by omega)).trans a3, (hf _ _ (by omega)).trans a4, (hc _ _ (by omega)).trans a5, (hf _ _ (by omega)).trans a6, ?_, ?_, a7.trans (hold.mono a7.size)⟩
      · rw [← hW1, ← hs0]
        exact (Below.heap_alloc _ _ _ (by simp)).trans (World.alloc_heap_new W0 _)
      · rw [← hW1]
        have := World.alloc_heap_new (W0.alloc (.deferred (some []))) (.loop (lnRec fn s w.heap.size .ready))
        rwa [World.size_alloc, hs0] at this
    refine ⟨w.heap.size + 4, [{ target := .collected (w.heap.size + 3), args := #[] }], W1, { target := .fn (.func 83) #[.pointer (some ⟨w.heap.size + 1 + 1, 0, none⟩)], args := #[.func (.yield (w.heap.size + 4)) #[] #[]] }, W1, 83,
      #[.func (.yield (w.heap.size + 4)) #[] #[], .pointer (some ⟨w.heap.size + 1 + 1, 0, none⟩)], W1, ?_, ?_, ?_, ?_, fun _ => by omega, ?_⟩
    · have := run_enterLoop_outer (P := Try.prog) (w := W0) fn (lnRec fn s w.heap.size .ready).tmps #[13] lnA lnB
      rw [hs0] at this
      rw [← hW1]
      exact this
    · simp [resolve, go_sem]
    · intro f' hf'; simp [Target.leads] at hf'; subst hf'; exact h83
    · simp [invoke, go_sem]
    · refine (lines1_in F hFw (3 - 1) h83 h84 hro (by omega) fn hfn s w hs16 HE.out HI W1 hM).mono ?_
      rintro e W2 ⟨⟨v, rfl⟩, r, h2⟩
      have hend := run_endLoop (P := Try.prog) h2.L (by simp [lnRec])
      have h3 := h2.rec' .exhausted
      obtain ⟨W3, hW3⟩ : ∃ W3, W2.putObj (w.heap.size + 4) (.loop { lnRec fn s w.heap.size .ready with state := .exhausted }) = W3 := ⟨_, rfl⟩
      rw [hW3] at hend h3
      refine ⟨none, W3, hend, ?_⟩
      clear hW3 hend h2 hM hold hc hf hW1 hW0
      have c1 := h3.cb
      have c3 := h3.co
      have hl3 := h3.lt
      have H3 := Lib.hid h3
      clear h3
      gi_wp2
      have hFw := hFw.out
      subst hFw
      refine wpIn_wide.2 ?_
      have hz0' : w.heap.size < W3.heap.size := by omega
      have hz1' : w.heap.size + 1 < W3.heap.size := by omega
      clear hs0 a1 a2 a3 a4 a5 a6 a7 b1 b2 b3
      (apply region_looseK (k := 5); (kernel_rfl); (kernel_rfl); intro opsL KL hopsL hKL; (dsimp only [List.take]))
      iterate 5 (apply rel_val; (rfl); (intro wq hbq; have hcq := (bcell hbq).1; (go_simp; first | done | rfl | exact ⟨rfl, rfl⟩)); (try go_simp))
      (refine wpRel_nil ?_; refine hKL _ _ ?_; clear hKL hopsL opsL KL; intro w1 hb hnews; obtain ⟨hc, hfz⟩ := bcell hb; (try simp only [World.heap_drewN] at hc hfz); have hz := hb.size; (dsimp only [List.drop]))
      go_wp2
      gi_wp2
      have h4 := H3.out.below hb
      have hnb := nbad_le (lns0 s)
      refine ⟨by simp, .inl ⟨_, _, rfl, run_takeDeferred h4.K, ?_⟩⟩
      refine ⟨_, results_tmp3 rfl _ _ _, ?_, ?_⟩
      · simp only [if_true]
        unfold oth
        have e : (((lns0 s).length - nbad (lns0 s) : Nat) : Int) = ((lns0 s).length : Int) - (nbad (lns0 s) : Int) := by omega
        rw [← e]
        rfl
      · exact ⟨h4.B.os, h4.B.tape, h4.B.output, by simp [h4.B.size], fun b hb' => (World.putObj_heap_other (by omega)).trans (h4.B.block b hb')⟩
set_option maxRecDepth 100000 in
theorem iCount_c (s : ByteArray) (hs : s.size ≤ 1048576) (w : World) : Calls Try.prog 27 #[.string s] w (CntR s w) :=
  callsIn_wide.1 (count_in Fence.wide (Lib.hid rfl) trivial trivial trivial trivial trivial rfl s w (Lib.hid fun n w => callsIn_wide.2 (isScript_c s hs w)) (Lib.hid fun m r w => callsIn_wide.2 (indexByte_c r w)))
end Go.Proofs.Ytnkimeeofmbhkaa
