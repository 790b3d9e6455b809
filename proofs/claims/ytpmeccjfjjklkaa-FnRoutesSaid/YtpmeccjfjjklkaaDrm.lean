/- The drawn net of some bytes. No condition. -/
import Derived.Test.YtpmeccjfjjklkaaDrn
import Derived.Test.YtpmeccjfjjklkaaNetL
import Derived.Test.YtpmeccjfjjklkaaWild
namespace Go.Proofs.Ytpmeccjfjjklkaa
open Go.RowKit Go.IntWalk
set_option linter.unusedSimpArgs false
/-- Drawn roads. -/
def RdV (xs : List Value) (n i : Nat) : Prop := ∀ j, j < i → ∃ a b l : Nat, xs[j * 3]? = some (.int .i64 (a : Int)) ∧ xs[j * 3 + 1]? = some (.int .i64 (b : Int)) ∧ xs[j * 3 + 2]? = some (.int .i64 (l : Int)) ∧ a < n ∧ b < n ∧ a ≠ b ∧ 1 ≤ l ∧ l ≤ 9
theorem RdV.snoc {xs : List Value} {n i a b l : Nat} (h : RdV xs n i) (hl : xs.length = i * 3) (ha : a < n) (hb : b < n) (hab : a ≠ b) (h1 : 1 ≤ l) (h9 : l ≤ 9) : RdV (xs ++ [.int .i64 (a : Int), .int .i64 (b : Int), .int .i64 (l : Int)]) n (i + 1) := fun j hj => by
  by_cases e : j = i
  · subst e
    exact ⟨a, b, l, by rw [List.getElem?_append_right (by omega), hl]; simp, by rw [List.getElem?_append_right (by omega), hl, show j * 3 + 1 - j * 3 = 1 by omega]; rfl, by rw [List.getElem?_append_right (by omega), hl, show j * 3 + 2 - j * 3 = 2 by omega]; rfl, ha, hb, hab, h1, h9⟩
  · obtain ⟨a', b', l', e1, e2, e3, e4⟩ := h j (by omega)
    exact ⟨a', b', l', by rw [List.getElem?_append_left (by omega)]; exact e1, by rw [List.getElem?_append_left (by omega)]; exact e2, by rw [List.getElem?_append_left (by omega)]; exact e3, e4⟩
/-- Roads in a block, or nil. -/
def RdA (w : World) (A : Option Addr) (m c : Nat) (a b l : Nat → Int) : Prop := (m = 0 ∧ A = none ∧ c = 0) ∨ ∃ h, A = some ⟨h, 0, none⟩ ∧ RdBlk w h m a b l
theorem RdA.below {w w' : World} {A : Option Addr} {m c : Nat} {a b l : Nat → Int} (h : RdA w A m c a b l) (hb : Below w.heap.size w w') : RdA w' A m c a b l := h.imp id fun ⟨q, e, h⟩ => ⟨q, e, h.below hb h.lt⟩
theorem own_rdD {w : World} {B n m : Nat} {v : Value} {xs : List Value} (h : w.ownsRow B 69 3 v m xs) (h0 : m = 0 → v = .slice none 0 0) (hx : RdV xs n m) : ∃ A cap a b l, v = .slice A m cap ∧ (A = none ∨ ∃ g, A = some ⟨g, 0, none⟩ ∧ B ≤ g) ∧ RdA w A m cap a b l ∧ allB (rdOk n a b l) m = true := by
  rcases Nat.eq_zero_or_pos m with rfl | hm
  · exact ⟨none, 0, fun _ => 0, fun _ => 0, fun _ => 0, h0 rfl, .inl rfl, .inl ⟨rfl, rfl, rfl⟩, rfl⟩
  rcases h.2 with ⟨rfl, e⟩ | ⟨g, cap, cur, rfl, h1, h2, h3, h4, h5, h6⟩
  · omega
  · have hrow : w.rowIs g 69 (cap * 3) (fun i => (cur[i]?).getD undef) := ⟨cur, h2, by omega, fun i hi => by
      show cur[i]? = some ((cur[i]?).getD undef)
      rw [Array.getElem?_eq_getElem (by omega)]; rfl⟩
    have hc : ∀ i, i < m * 3 → ∀ u, xs[i]? = some u → (cur[i]?).getD undef = u := fun i hi u hu => by
      rw [← h6, List.getElem?_take, if_pos (by omega), Array.getElem?_toList] at hu
      rw [hu]; rfl
    have hb : ∀ j : Nat, ∃ p : Nat × Nat × Nat, j < m → xs[j * 3]? = some (.int .i64 (p.1 : Int)) ∧ xs[j * 3 + 1]? = some (.int .i64 (p.2.1 : Int)) ∧ xs[j * 3 + 2]? = some (.int .i64 (p.2.2 : Int)) ∧ p.1 < n ∧ p.2.1 < n ∧ p.1 ≠ p.2.1 ∧ 1 ≤ p.2.2 ∧ p.2.2 ≤ 9 := fun j => by
      by_cases hj : j < m
      · obtain ⟨x, y, z, e1⟩ := hx j hj
        exact ⟨(x, y, z), fun _ => e1⟩
      · exact ⟨(0, 0, 0), fun h => absurd h hj⟩
    obtain ⟨f, hf⟩ : ∃ f : Nat → Nat × Nat × Nat, ∀ j, j < m → xs[j * 3]? = some (.int .i64 ((f j).1 : Int)) ∧ xs[j * 3 + 1]? = some (.int .i64 ((f j).2.1 : Int)) ∧ xs[j * 3 + 2]? = some (.int .i64 ((f j).2.2 : Int)) ∧ (f j).1 < n ∧ (f j).2.1 < n ∧ (f j).1 ≠ (f j).2.1 ∧ 1 ≤ (f j).2.2 ∧ (f j).2.2 ≤ 9 := ⟨fun j => (hb j).choose, fun j => (hb j).choose_spec⟩
    refine ⟨some ⟨g, 0, none⟩, cap, fun j => ((f j).1 : Int), fun j => ((f j).2.1 : Int), fun j => ((f j).2.2 : Int), rfl, .inr ⟨g, rfl, h1⟩, .inr ⟨g, rfl, cap * 3, _, Nat.mul_le_mul_right 3 h3, fun i hi => ?_, hrow⟩, allB_true fun j hj => ?_⟩
    · obtain ⟨e1, e2, e3, -⟩ := hf (i / 3) (by omega)
      show (cur[i]?).getD undef = _
      unfold rc
      by_cases c0 : i % 3 = 0
      · rw [if_pos c0]; exact hc i hi _ (by rw [← e1]; congr 1; omega)
      · rw [if_neg c0]
        by_cases c1 : i % 3 = 1
        · rw [if_pos c1]; exact hc i hi _ (by rw [← e2]; congr 1; omega)
        · rw [if_neg c1]; exact hc i hi _ (by rw [← e3]; congr 1; omega)
    · obtain ⟨-, -, -, e4, e5, e6, e7, e8⟩ := hf j hj
      unfold rdOk
      dsimp only
      simp only [Bool.and_eq_true, decide_eq_true_eq, Bool.not_eq_true', beq_eq_false_iff_ne]
      omega
theorem other_end {a p n : Nat} (ha : a < n) (hp : p + 1 < n) : (a + 1 + p) % n ≠ a ∧ (a + 1 + p) % n < n := by
  refine ⟨?_, Nat.mod_lt _ (by omega)⟩
  by_cases e : a + 1 + p < n
  · rw [Nat.mod_eq_of_lt e]; omega
  · rw [Nat.mod_eq_sub_mod (by omega), Nat.mod_eq_of_lt (by omega)]; omega
/-- A whole number that leaves room for one more. -/
def RV' (n : Nat) (v : Value) : Prop := ∃ p : Nat, p + 1 < n ∧ v = .int .i64 (p : Int)
theorem own_shapeD {w : World} {B s n : Nat} {e : TypeId} {v : Value} {xs : List Value} (h : w.ownsRow B e s v n xs) : ∃ A c, v = .slice A n c := by
  rcases h.2 with ⟨rfl, rfl⟩ | ⟨g, cap, cur, rfl, -⟩
  · exact ⟨_, _, rfl⟩
  · exact ⟨_, _, rfl⟩
/-- What a drawn net is. -/
def NB (w : World) (e : Ending) (w' : World) : Prop := ∃ (g n cg : Nat) (A : Option Addr) (m ch : Nat) (X Y : Nat → Nat) (a b l : Nat → Int), e = .returned (.agg #[.slice (some ⟨g, 0, none⟩) n cg, .slice A m ch]) ∧ (2 ≤ n ∧ n ≤ 6) ∧ m ≤ 9 ∧ netOk n m X Y a b l = true ∧ g < w'.heap.size ∧ PlCells w' g n X Y ∧ RdA w' A m ch a b l ∧ Below w.heap.size w w'
/-- What the drawing of roads keeps. -/
def NR (g nb c B : Nat) (A : Option Addr) (X Y : Nat → Nat) (w : World) (q cap n R N lo i : Nat) (wr : World) : Prop := ∃ (V' : Value) (xs : List Value), ntc wr N (.slice (some ⟨q, 0, none⟩) n cap) V' ∧ ntc wr R (.slice none 0 0) (.slice none 0 0) ∧ wr.ownsRow lo 69 3 V' i xs ∧ (i = 0 → V' = .slice none 0 0) ∧ RdV xs n i ∧ SG g nb c A (B + 3 * i) wr ∧ PlCells wr q n X Y ∧ Below w.heap.size w wr ∧ lo ≤ wr.heap.size
theorem ntc.blk {w w' : World} {p : Nat} {u v : Value} (h : ntc w p u v) (hb : w'.heap[p]? = w.heap[p]?) : ntc w' p u v := World.rowIs.of_block h hb
theorem PlCells.blk {w w' : World} {g n : Nat} {X Y : Nat → Nat} (h : PlCells w g n X Y) (hb : w'.heap[g]? = w.heap[g]?) : PlCells w' g n X Y := fun j hj => by
  obtain ⟨r, s, h1, h2, h3⟩ := h j hj
  exact ⟨r, s, (World.cell?_of_block (a := ⟨g, j * 2, none⟩) hb).trans h1, (World.cell?_of_block (a := ⟨g, j * 2 + 1, none⟩) hb).trans h2, h3⟩
set_option maxRecDepth 100000 in
set_option maxHeartbeats 8000000 in
theorem B10Net_c (nb c : Nat) (A : Option Addr) (w : World) (hn : nb ≤ 1048576) (hA : ByArg w A nb) : Calls Try.prog 43 #[.slice A nb c] w (NB w) := by
  obtain ⟨V0, hV0⟩ : ∃ V0, w.alloc (.cells #[.slice none 0 0, .slice none 0 0] 31) = V0 := ⟨_, rfl⟩
  have hs0 : V0.heap.size = w.heap.size + 1 := by rw [← hV0]; simp
  have tQ0 : ntc V0 w.heap.size (.slice none 0 0) (.slice none 0 0) := by rw [← hV0]; exact ntc.newAt rfl
  have hB0 : Below w.heap.size w V0 := by rw [← hV0]; exact (Below.refl _ _).alloc (Nat.le_refl _) _
  obtain ⟨V1, hV1⟩ : ∃ V1, V0.alloc (.cells #[.slice A nb c, .int .i64 0, .int .u64 0] 109) = V1 := ⟨_, rfl⟩
  have hs1 : V1.heap.size = w.heap.size + 1 + 1 := by rw [← hV1]; simp [hs0]
  have hT : tri 109 V1 V0.heap.size (.slice A nb c) (.int .i64 0) (.int .u64 0) := by rw [← hV1]; exact tri.newAt rfl
  have tQ1 : ntc V1 w.heap.size (.slice none 0 0) (.slice none 0 0) := by rw [← hV1]; exact tQ0.alloc _
  have hB1 : Below w.heap.size w V1 := by rw [← hV1]; exact hB0.alloc (by omega) _
  have hg : ∀ a, A = some a → 0 < nb → a.block < w.heap.size := fun a e h0 => by
    obtain ⟨a', k, e', h1, -⟩ := hA 0 h0
    rw [e] at e'
    cases e'
    exact h1
  have hS : SG (w.heap.size + 1) nb c A 0 V1 := by
    rw [hs0] at hT
    exact ⟨⟨0, 0, Nat.le_refl _, hT⟩, hA.below hg hB1, fun a e h0 => by have := hg a e h0; omega⟩
  have HF := Lib.hid (show Calls Try.prog 70 #[.slice A nb c] V0 (fun e w' => e = .returned (.pointer (some ⟨w.heap.size + 1, 0, none⟩)) ∧ w' = V1) by
    clear hT tQ1 hB1 hS
    go_enter Try.func70, Try.ntmps70
    go_wp2
    go_ret
    exact ⟨rfl, rfl⟩)
  obtain ⟨g, hgE⟩ : ∃ g, w.heap.size + 1 = g := ⟨_, rfl⟩
  rw [hgE] at hS HF
  have HP := Lib.hid (fun (m B : Nat) w' (hm : 1 ≤ m) (hm2 : m ≤ 200) (hB : B ≤ 1000) (h : SG g nb c A B w') => pickS g nb c m B A w' hm hm2 (by omega) hn h)
  have HPL := Lib.hid (fun (cnt B : Nat) w' (h1 : 1 ≤ cnt) (h2 : cnt ≤ 10) (hB : B ≤ 1000) (h : SG g nb c A B w') => drawPl_c g nb c B cnt A w' hB h1 h2 hn h)
  obtain ⟨i0, hi, hI0, hI1, hI2⟩ := info_parts info_rdD
  have HS := Lib.hid hS
  have HQ := Lib.hid tQ1
  have HB := Lib.hid hB1
  clear hV1 hT tQ0 hB0 hA hg hS tQ1 hB1
  have HP5 := Lib.hid (show Calls Try.prog 71 #[.pointer (some ⟨g, 0, none⟩), .int .i64 5] V1 _ from HP.out 5 0 V1 (by omega) (by omega) (by omega) HS.out)
  go_enter Try.func43, Try.ntmps43
  go_upto_region 2 with (go_at_call 70; ((with_reducible refine (HF.out).mono ?_); rintro e w1 ⟨rfl, rfl⟩))
  go_upto_region 3 with (go_at_call 71; ((with_reducible refine (HP5.out).mono ?_); rintro e w1 ⟨k0, hk0, rfl, hS1, hK1, hb1⟩))
  obtain ⟨n, hnE⟩ : ∃ n, 2 + k0 = n := ⟨_, rfl⟩
  have eC : (2 : Int) + (k0 : Int) = (n : Int) := by omega
  rw [eC]
  have HQ1 := Lib.hid (ntc.blk HQ.out (hK1 w.heap.size (by omega) (by omega)))
  have HB1 := Lib.hid (HB.out.trans (hb1.mono (by omega)))
  have HS1 := Lib.hid hS1
  have hz1 := hb1.size
  clear hS1 hK1 hb1
  go_upto_region 4 with (go_at_call 72; ((with_reducible refine (HPL.out n 1 w1 (by omega) (by omega) (by omega) HS1.out).mono ?_); rintro e w2 ⟨q, cap, X, Y, rfl, hq1, hq2, hP2, hV2, hS2, hK2, hb2⟩))
  refine absw (fun V hV => ?_)
  have hsV : V.heap.size = w2.heap.size + 1 := by rw [hV]; simp
  have hz2 := hb2.size
  have hbV : Below w2.heap.size w2 V := by rw [hV]; (with_reducible repeat (first | exact Below.refl _ _ | apply below_alloc | apply below_dN | apply below_d | refine below_setCell ?_ (by dsimp only; omega) | refine below_call (by assumption) ?_))
  have tN : ntc V w2.heap.size (.slice (some ⟨q, 0, none⟩) n cap) (.slice none 0 0) := by rw [hV]; exact ntc.newAt rfl
  have tR := (ntc.blk HQ1.out (hK2 w.heap.size (by omega) (by omega))).below hbV
  have hS3 : SG g nb c A (1 + 2 * n) V := hS2.below hbV
  have hP3 : PlCells V q n X Y := hP2.blk (hbV.block q hq2)
  have hB3 : Below w.heap.size w V := (HB1.out.trans (hb2.mono (by omega))).trans (hbV.mono (by omega))
  have HAP := Lib.hid hV2
  have HP4 := Lib.hid (show Calls Try.prog 71 #[.pointer (some ⟨g, 0, none⟩), .int .i64 10] V _ from HP.out 10 (1 + 2 * n) V (by omega) (by omega) (by omega) hS3)
  have HN := Lib.hid tN
  have HR := Lib.hid tR
  have HP3 := Lib.hid hP3
  have HB3 := Lib.hid hB3
  have hgq : g ≠ q := by omega
  clear hV hbV tN tR hS3 hP3 hB3 hV2 hP2 hS2 hK2 hb2 HB1 HQ1 HS1 HB HQ HS HF HPL HP5
  go_wp2_with (go_at_call 71; ((with_reducible refine (HP4.out).mono ?_); rintro e w3 ⟨k1, hk1, rfl, hS4, hK4, hb4⟩))
  have hz4 := hb4.size
  have HN4 := Lib.hid (ntc.blk HN.out (hK4 w2.heap.size (by omega) (by omega)))
  have HR4 := Lib.hid (ntc.blk HR.out (hK4 w.heap.size (by omega) (by omega)))
  have HP4' := Lib.hid (HP3.out.blk (hK4 q (by omega) (by omega)))
  have HB4 := Lib.hid (HB3.out.trans (hb4.mono (by omega)))
  have HS4 := Lib.hid hS4
  clear hS4 hK4 hb4 HN HR HP3 HB3 HP4
  go_loopw [6] (fun kv wr => ∃ i : Nat, i ≤ k1 ∧ kv = .int .i64 ((k1 : Int) - (i : Int)) ∧ NR g nb c (2 + 2 * n) A X Y w q cap n w.heap.size w2.heap.size V.heap.size i wr) (fun kv _ => (intOf kv).toNat)
  case atStart => exact ⟨0, by omega, by simp, .slice none 0 0, [], HN4.out, HR4.out, ⟨rfl, .inl ⟨rfl, rfl⟩⟩, fun _ => rfl, fun j hj => absurd hj (by omega), HS4.out.le (by omega), HP4'.out, HB4.out, by omega⟩
  case round =>
    rename World => wO
    obtain ⟨i, hik, rfl, V', xs, tN, tR, hown, h00, hxs, hS, hP, hBO, hsO⟩ := hrel
    have HOWN := Lib.hid hown
    have HXS := Lib.hid hxs
    have HSO := Lib.hid hS
    have HPO := Lib.hid hP
    have HBO := Lib.hid hBO
    have HTN := Lib.hid tN
    have HTR := Lib.hid tR
    have HV0' := Lib.hid h00
    clear tN tR hown h00 hxs hS hP hBO
    by_cases hlt : i < k1
    · have hlt' : (0 : Int) < (k1 : Int) - (i : Int) := by omega
      have HPA := Lib.hid (show Calls Try.prog 71 #[.pointer (some ⟨g, 0, none⟩), .int .i64 (n : Int)] wO _ from HP.out n (2 + 2 * n + 3 * i) wO (by omega) (by omega) (by omega) HSO.out)
      go_upto_region 8 with (go_at_call 71; ((with_reducible refine (HPA.out).mono ?_); rintro e w5 ⟨a, ha, rfl, hS5, hK5, hb5⟩))
      refine absw (fun V5 hV5 => ?_)
      have hz5 := hb5.size
      have hs5 : V5.heap.size = w5.heap.size + 1 := by rw [hV5]; simp
      have hbV5 : Below w5.heap.size w5 V5 := by rw [hV5]; (with_reducible repeat (first | exact Below.refl _ _ | apply below_alloc | apply below_dN | apply below_d | refine below_setCell ?_ (by dsimp only; omega) | refine below_call (by assumption) ?_))
      have tr5 : tri 69 V5 w5.heap.size (.int .i64 (a : Int)) (.int .i64 0) (.int .i64 0) := by rw [hV5]; exact tri.newAt rfl
      have hS6 : SG g nb c A (2 + 2 * n + 3 * i + 1) V5 := hS5.below hbV5
      have hk5 : ∀ b, b < wO.heap.size → b ≠ g → V5.heap[b]? = wO.heap[b]? := fun b hb hne => (hbV5.block b (by omega)).trans (hK5 b hb hne)
      have HK5 := Lib.hid hk5
      have HB5 := Lib.hid ((HBO.out.trans (hb5.mono (by omega))).trans (hbV5.mono (by omega)))
      have HSN := Lib.hid hS6
      have HTR5 := Lib.hid tr5
      have eN1 : ((n - 1 : Nat) : Int) = (n : Int) - 1 := by omega
      have hPB := fun w' (hs : SG g nb c A (2 + 2 * n + 3 * i + 1) w') => HP.out (n - 1) (2 + 2 * n + 3 * i + 1) w' (by omega) (by omega) (by omega) hs
      rw [eN1] at hPB
      have HPB := Lib.hid hPB
      have hn0 : ¬ ((n : Int) = 0) := by omega
      have hw1 : IntKind.i64.wrap ((a : Int) + 1) = (a : Int) + 1 := by rw [IntKind.wrap_i64]; omega
      have hw2 : IntKind.i64.wrap ((n : Int) - 1) = (n : Int) - 1 := by rw [IntKind.wrap_i64]; omega
      have hw3 : ∀ p : Nat, p + 1 < n → IntKind.i64.wrap ((a : Int) + 1 + (p : Int)) = (a : Int) + 1 + (p : Int) := fun p hp => by rw [IntKind.wrap_i64]; omega
      have hmod : ∀ p : Nat, ((a : Int) + 1 + (p : Int)).tmod (n : Int) = (((a + 1 + p) % n : Nat) : Int) := fun p => by rw [Int.tmod_eq_emod_of_nonneg (by omega)]; simp
      have r0 := tr5.c0
      have rl := tr5.lt
      clear hV5 hbV5 tr5 hS6 hk5 hS5 hK5 hb5 hPB
      have hR0 : (fun (b : Bool) (w' : World) => w'.cell? ⟨w5.heap.size, 0, none⟩ = some (.int .i64 (a : Int)) ∧ w5.heap.size < w'.heap.size ∧ (if b = true then (SG g nb c A (2 + 2 * n + 3 * i + 2) w' ∧ Keep1 g V5 w' ∧ Below g V5 w') else w' = V5.drew)) false V5.drew := ⟨r0, rl, by simp⟩
      apply region_wild (I := fun (b : Bool) (w' : World) => w'.cell? ⟨w5.heap.size, 0, none⟩ = some (.int .i64 (a : Int)) ∧ w5.heap.size < w'.heap.size ∧ (if b = true then (SG g nb c A (2 + 2 * n + 3 * i + 2) w' ∧ Keep1 g V5 w' ∧ Below g V5 w') else w' = V5.drew)) (c := 6) (k := 10)
      · kernel_rfl
      · kernel_rfl
      · omega
      · exact hR0
      intro KW hKW
      dsimp only [List.take]
      iterate 6 (apply w_val; (rfl); (rfl); (intro b wq hq; obtain ⟨q0, q1, -⟩ := hq; go_simp; first | done | rfl); (try go_simp))
      apply w_call (R := RV' n)
      · rfl
      · rfl
      · intro wq
        go_simp
        exact ⟨rfl, rfl⟩
      · intro wq hq
        obtain ⟨q0, q1, q2⟩ := hq
        simp only [Bool.false_eq_true, if_false] at q2
        subst q2
        refine (HPB.out V5.drew (HSN.out.below (Below.refl _ _).drew)).mono ?_
        rintro e w6 ⟨p, hp, rfl, hS6, hK6, hb6⟩
        have tr6 : tri 69 w6 w5.heap.size (.int .i64 (a : Int)) (.int .i64 0) (.int .i64 0) := World.rowIs.of_block HTR5.out (hK6 _ (show w5.heap.size < V5.heap.size by omega) (by omega))
        exact ⟨⟨tr6.c0, tr6.lt, by rw [if_pos rfl]; exact ⟨hS6.le (by omega), hK6, ((Below.refl _ _).drew).trans hb6⟩⟩, _, rfl, p, by omega, rfl⟩
      rintro v ⟨p, hp, rfl⟩
      have hw3p := hw3 p hp
      have hmp := hmod p
      (try go_simp)
      apply w_of (R := fun v => ∃ p : Nat, p + 1 < n ∧ v = .int .i64 ((a : Int) + 1 + (p : Int))) (val := .int .i64 ((a : Int) + 1 + (p : Int)))
      · exact ⟨p, hp, rfl⟩
      · rfl
      · rfl
      · intro b wq hq
        go_simp
      clear hw3p hmp
      rintro v ⟨p2, hp2, rfl⟩
      have hmp := hmod p2
      (try go_simp)
      (apply w_val; (rfl); (rfl); (intro b wq hq; obtain ⟨q0, q1, -⟩ := hq; go_simp; first | done | rfl); (try go_simp))
      apply w_of (R := fun v => ∃ b : Nat, b < n ∧ a ≠ b ∧ v = .int .i64 (b : Int)) (val := .int .i64 (((a + 1 + p2) % n : Nat) : Int))
      · exact ⟨_, (other_end ha hp2).2, fun e => (other_end ha hp2).1 e.symm, rfl⟩
      · rfl
      · rfl
      · intro b wq hq
        go_simp
        omega
      clear hmp
      rintro v ⟨b, hb, hab, rfl⟩
      (try go_simp)
      refine w_nil ?_
      refine hKW _ ?_
      rintro w6 ⟨x0, x1, x2⟩
      rw [if_pos rfl] at x2
      obtain ⟨hS6, hK6, hb6⟩ := x2
      have tr6 : tri 69 w6 w5.heap.size (.int .i64 (a : Int)) (.int .i64 0) (.int .i64 0) := World.rowIs.of_block HTR5.out (hK6 _ (by omega) (by omega))
      have hz6 := hb6.size
      have HTR6 := Lib.hid tr6
      have HS6 := Lib.hid hS6
      have HK6 := Lib.hid hK6
      have HB6 := Lib.hid hb6
      have r1 := tr6.c1
      have rf1 := tr6.fr 1
      clear hKW x0 tr6 hS6 hK6 hb6 r0 rl
      have rl := x1
      dsimp only [List.drop]
      go_upto_region 9 with fail
      refine absw (fun V9 hV9 => ?_)
      have hz9 : V9.heap.size = w6.heap.size := by rw [hV9]; simp [World.setCell]
      have hs9 : ∀ b, b < w6.heap.size → b ≠ w5.heap.size → V9.heap[b]? = w6.heap[b]? := fun b' _ hne => by rw [hV9]; exact Below.heap_setCell _ _ _ _ hne
      have tr9 : tri 69 V9 w5.heap.size (.int .i64 (a : Int)) (.int .i64 (b : Int)) (.int .i64 0) := by rw [hV9]; exact HTR6.out.setB _
      have hS9 : SG g nb c A (2 + 2 * n + 3 * i + 2) V9 := HS6.out.keep (fun b hb => hs9 b (by omega) (by omega)) (by omega)
      have hB9 : Below w.heap.size w V9 := by rw [hV9]; exact (HB5.out.trans (HB6.out.mono (by omega))).setCell (p := ⟨w5.heap.size, 1, none⟩) (by simp only; omega) _
      have HP9 := Lib.hid (show Calls Try.prog 71 #[.pointer (some ⟨g, 0, none⟩), .int .i64 9] V9 _ from HP.out 9 (2 + 2 * n + 3 * i + 2) V9 (by omega) (by omega) (by omega) hS9)
      have HTR9 := Lib.hid tr9
      have HS9 := Lib.hid hs9
      have HB9 := Lib.hid hB9
      clear hV9 r1 rf1 rl hs9 tr9 hS9 hB9 x1
      go_upto_region 10 with (go_at_call 71; ((with_reducible refine (HP9.out).mono ?_); rintro e w7 ⟨k9, hk9, rfl, hS7, hK7, hb7⟩); have tr7 : tri 69 w7 w5.heap.size (.int .i64 (a : Int)) (.int .i64 (b : Int)) (.int .i64 0) := World.rowIs.of_block HTR9.out (hK7 _ (by omega) (by omega)); have r2 := tr7.c2; have rf2 := tr7.fr 2; have rl7 := tr7.lt)
      refine absw (fun V10 hV10 => ?_)
      have hz7 := hb7.size
      have hz10 : V10.heap.size = w7.heap.size := by rw [hV10]; simp [World.setCell]
      have hs10 : ∀ b, b < w7.heap.size → b ≠ w5.heap.size → V10.heap[b]? = w7.heap[b]? := fun b' _ hne => by rw [hV10]; exact Below.heap_setCell _ _ _ _ hne
      obtain ⟨lk, hlk⟩ : ∃ lk, 1 + k9 = lk := ⟨_, rfl⟩
      have eL : (1 : Int) + (k9 : Int) = (lk : Int) := by omega
      rw [eL] at hV10
      have tr10 : tri 69 V10 w5.heap.size (.int .i64 (a : Int)) (.int .i64 (b : Int)) (.int .i64 (lk : Int)) := by rw [hV10]; exact tr7.setC _
      have hS10 : SG g nb c A (2 + 2 * n + 3 * i + 3) V10 := hS7.keep (fun b hb => hs10 b (by omega) (by omega)) (by omega)
      have hB10 : Below w.heap.size w V10 := by rw [hV10]; exact (HB9.out.trans (hb7.mono (by omega))).setCell (p := ⟨w5.heap.size, 2, none⟩) (by simp only; omega) _
      have hkO : Keep1 g wO V10 := fun b' hb hne => (hs10 b' (by omega) (by omega)).trans ((hK7 b' (by omega) hne).trans ((HS9.out b' (by omega) (by omega)).trans ((HK6.out b' (by omega) hne).trans (HK5.out b' hb hne))))
      have tN10 := ntc.blk HTN.out (hkO _ HTN.out.lt (by omega))
      have tR10 := ntc.blk HTR.out (hkO _ HTR.out.lt (by omega))
      have hP10 := HPO.out.blk (hkO q (by omega) (by omega))
      have hown10 := World.ownsRow.keep1 HOWN.out hkO (by omega)
      have HTN10 := Lib.hid tN10
      have HTR10 := Lib.hid tR10
      have HP10 := Lib.hid hP10
      have HOWN10 := Lib.hid hown10
      have HS10 := Lib.hid hS10
      have HB10 := Lib.hid hB10
      have r0 := tr10.c0
      have r1 := tr10.c1
      have r2' := tr10.c2
      have rl := tr10.lt
      have n1 := tN10.c1
      have nl := tN10.lt
      clear hV10 tr10 tr7 r2 rf2 rl7 hs10 hS10 hB10 hkO tN10 tR10 hP10 hown10 hS7 hK7 hb7
      go_wp2_with (at_builtin; refine wpList_append_own _ rfl (.tmp 43) (.tmp 45) 29 rfl V.heap.size 69 i0 (.agg #[.int .i64 0, .int .i64 0, .int .i64 0]) 3 24 Try.underlying29 hi hI0 hI1 hI2 rfl (by decide) _ _ _ rfl (HOWN10.out.alloc _) ⟨w7.heap.size, 0, none⟩ 1 1 [.int .i64 (a : Int), .int .i64 (b : Int), .int .i64 (lk : Int)] rfl rfl (three_newD _ _ hz10.symm _ _ _ _) (by intro z hz; simp at hz; rcases hz with rfl | rfl | rfl <;> rfl) (by unfold maxLen; omega) (by omega) (by simp; omega) ?_; intro v1 w11 hown11 hgrow11 hnil11; obtain ⟨A1, c1, rfl⟩ := own_shapeD hown11; have hneq : ∀ q, q < V.heap.size → some q ≠ V'.ownBlock := (fun q hq e => by have := (HOWN10.out.lt _ e.symm).1; omega); have hb11 : ∀ q, q < V.heap.size → w11.heap[q]? = V10.heap[q]? := (fun q hq => (hgrow11.block q (by simp; omega) (hneq q hq)).trans (((Below.refl V10.heap.size V10).alloc (Nat.le_refl _) _).block q (by omega))); have tN11 := ntc.blk HTN10.out (hb11 _ (by omega)); have n1'' := tN11.c1; have nl'' := tN11.lt; have nf'' := tN11.fr 1)
      go_roundw
      case rel =>
        have hgr := (HB10.out.alloc (by omega) (.cells #[.int .i64 (a : Int), .int .i64 (b : Int), .int .i64 (lk : Int)] 69)).grown hgrow11 (by simp; omega) (fun j hj => by have := (HOWN10.out.lt j hj).1; omega)
        have hg11 := hgrow11.size
        have hz11 : V10.heap.size ≤ w11.heap.size := by simp at hg11; omega
        refine ⟨i + 1, by omega, by go_num, .slice A1 (i + 1) c1, xs ++ [.int .i64 (a : Int), .int .i64 (b : Int), .int .i64 (lk : Int)], tN11.setB _, ?_, ?_, fun h => absurd h (by omega), HXS.out.snoc HOWN.out.1 ha hb hab (by omega) (by omega), ?_, ?_, ?_, ?_⟩
        · exact (ntc.blk HTR10.out (hb11 _ (by omega))).other (by omega) _
        · exact World.ownsRow.keep1 hown11 (Keep1.set (Keep1.refl w2.heap.size _) _) (by omega)
        · exact (HS10.out.keep (fun b hb => hb11 b (by omega)) hz11).keep (fun b hb => Below.heap_setCell _ _ _ _ (by simp only; omega)) (by simp [World.setCell])
        · exact (HP10.out.blk (hb11 q (by omega))).blk (Below.heap_setCell _ _ _ _ (by simp only; omega))
        · exact hgr.setCell (p := ⟨w2.heap.size, 1, none⟩) (by simp only; omega) _
        · have e : (w11.setCell ⟨w2.heap.size, 1, none⟩ (.slice A1 (i + 1) c1)).heap.size = w11.heap.size := by simp [World.setCell]
          omega
      case measure => first | (simp [intOf]; done) | (simp [intOf]; omega)
    · obtain rfl : i = k1 := by omega
      have hlt' : ¬ ((0 : Int) < (i : Int) - (i : Int)) := by omega
      obtain ⟨A2, ch, ra, rb, rl2, rfl, hA2, hRA, hall⟩ := own_rdD HOWN.out HV0'.out HXS.out
      have n0 := HTN.out.c0
      have n1 := HTN.out.c1
      have nl := HTN.out.lt
      have q0 := HTR.out.c0
      have q1 := HTR.out.c1
      have ql := HTR.out.lt
      have qf0 := HTR.out.fr 0
      have qf1 := HTR.out.fr 1
      have HRA := Lib.hid hRA
      clear hRA
      go_wp2
      refine bodyPost_ret (v := .agg #[.slice (some ⟨q, 0, none⟩) n cap, .slice A2 i ch]) (by simp [results, Try.results43, go_sem, *] <;> (first | rfl | exact ⟨rfl, rfl⟩ | exact ⟨rfl, rfl, rfl⟩ | exact ⟨rfl, rfl, rfl, rfl⟩)) rfl ?_
      have kq : Keep1 w.heap.size wO ((wO.setCell ⟨w.heap.size, 0, none⟩ (.slice (some ⟨q, 0, none⟩) n cap)).setCell ⟨w.heap.size, 1, none⟩ (.slice A2 i ch)) := Keep1.set (Keep1.set (Keep1.refl _ _) _) _
      refine ⟨q, n, cap, A2, i, ch, X, Y, ra, rb, rl2, rfl, ⟨by omega, by omega⟩, by omega, ?_, by simp [World.setCell]; omega, HPO.out.blk (kq q (by omega) (by omega)), ?_, (HBO.out.setCell (p := ⟨w.heap.size, 0, none⟩) (Nat.le_refl _) _).setCell (p := ⟨w.heap.size, 1, none⟩) (Nat.le_refl _) _⟩
      · unfold netOk arePl
        rw [HAP.out, hall]
        simp
        omega
      · rcases HRA.out with h | ⟨h, rfl, hr⟩
        · exact .inl h
        · rcases hA2 with h | ⟨h', e, hl⟩
          · cases h
          · cases e
            exact .inr ⟨h, rfl, hr.blk (kq h hr.lt (by omega))⟩
end Go.Proofs.Ytpmeccjfjjklkaa
