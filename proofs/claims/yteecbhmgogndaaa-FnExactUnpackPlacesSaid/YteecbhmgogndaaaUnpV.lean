/- Contract of impl.UnpackPlaces. No condition. -/
import Derived.Test.YteecbhmgogndaaaUnpW
namespace Go.Proofs.Yteecbhmgogndaaa
open Go.RowKit
set_option linter.unusedSimpArgs false
/-- The two sums. -/
def st (w : World) (b : Nat) (x y : Int) : Prop := w.rowIs b 62 2 (fun i => .int .i64 (if i = 0 then x else y))
namespace st
variable {w : World} {b : Nat} {x y : Int}
theorem c0 (h : st w b x y) : w.cell? ⟨b, 0, none⟩ = some (.int .i64 x) := World.rowIs.cell h (i := 0) (by omega)
theorem c1 (h : st w b x y) : w.cell? ⟨b, 1, none⟩ = some (.int .i64 y) := World.rowIs.cell h (i := 1) (by omega)
theorem fr (h : st w b x y) (i : Nat) : w.frozen? ⟨b, i, none⟩ = false := World.rowIs.frozen h i
theorem setA (h : st w b x y) (v : Int) : st (w.setCell ⟨b, 0, none⟩ (.int .i64 v)) b v y := (World.rowIs.set h 0 _).congr (fun i hi => by
  by_cases e : i = 0
  · simp [e]
  · simp [e])
theorem setB (h : st w b x y) (v : Int) : st (w.setCell ⟨b, 1, none⟩ (.int .i64 v)) b x v := (World.rowIs.set h 1 _).congr (fun i hi => by
  by_cases e : i = 1
  · simp [e]
  · have : i = 0 := by omega
    simp [this])
theorem alloc (h : st w b x y) (o : Obj) : st (w.alloc o) b x y := World.rowIs.alloc h o
theorem new (w : World) (x y : Int) : st (w.alloc (.cells #[.int .i64 x, .int .i64 y] 62)) w.heap.size x y := (World.rowIs_alloc w _ _ (fun i => .int .i64 (if i = 0 then x else y)) (fun i hi => by
  match i, hi with
  | 0, _ => rfl
  | 1, _ => rfl))
theorem lt (h : st w b x y) : b < w.heap.size := World.rowIs.lt h
theorem below {w' : World} (h : st w b x y) (hb : Below w.heap.size w w') : st w' b x y := World.rowIs.of_block h (hb.block b h.lt)
theorem grown {w' : World} (h : st w b x y) {v : Value} {B : Nat} {n : Nat} {e : TypeId} {size : Nat} {xs : List Value} (ho : w.ownsRow B e size v n xs) (hB : b < B) (hg : w.grownBy w' v.ownBlock) : st w' b x y :=
  World.rowIs.of_block h (hg.block b h.lt (fun e' => by
    have := ho.lt b e'.symm
    omega))
end st
theorem own_setCell {w : World} {B : Nat} {e : TypeId} {size : Nat} {v : Value} {n : Nat} {xs : List Value} (h : w.ownsRow B e size v n xs) {b i : Nat} (hb : b < B) (z : Value) : (w.setCell ⟨b, i, none⟩ z).ownsRow B e size v n xs := by
  refine ⟨h.1, h.2.imp id ?_⟩
  rintro ⟨g, cap, cur, rfl, h1, h2, h3⟩
  refine ⟨g, cap, cur, rfl, h1, ?_, h3⟩
  rw [← h2]
  exact Below.heap_setCell _ _ _ _ (fun e => by have : g = b := e; omega)
theorem OwnPl.set {w : World} {B : Nat} {v : Value} {m : Nat} {X Y : Nat → Nat} (h : OwnPl w B v m X Y) {b i : Nat} (hb : b < B) (z : Value) : OwnPl (w.setCell ⟨b, i, none⟩ z) B v m X Y := by
  obtain ⟨x, y, h1, h2⟩ := h
  exact ⟨x, y, own_setCell h1 hb z, h2⟩
theorem OwnPl.shape {w : World} {B : Nat} {v : Value} {m : Nat} {X Y : Nat → Nat} (h : OwnPl w B v m X Y) : ∃ A c, v = .slice A m c := by
  obtain ⟨x, y, h1, -⟩ := h
  rcases h1.2 with ⟨e, e2⟩ | ⟨g, cap, cur, e, -⟩
  · exact ⟨none, 0, by rw [e, e2]⟩
  · exact ⟨_, _, e⟩
theorem OwnPl.weak {w : World} {B B' : Nat} {v : Value} {m : Nat} {X Y : Nat → Nat} (h : OwnPl w B v m X Y) (hb : B' ≤ B) : OwnPl w B' v m X Y := by
  obtain ⟨x, y, h1, h2⟩ := h
  refine ⟨x, y, ⟨h1.1, h1.2.imp id ?_⟩, h2⟩
  rintro ⟨g, cap, cur, e, k1, k2⟩
  exact ⟨g, cap, cur, e, by omega, k2⟩
set_option maxRecDepth 100000 in
set_option maxHeartbeats 4000000 in
theorem iUnpack_c (s : ByteArray) (hs : s.size ≤ 1048576) (w : World) : Calls Try.prog 27 #[.string s] w (unpR s w) := by
  obtain ⟨i0, hi, hI0, hI1, hI2⟩ := info_parts info_pl
  go_enter Try.func27, Try.ntmps27
  go_wp2
  go_loopw [4, 6] (fun v k wr => ∃ m : Nat, m ≤ 64 ∧ allU s m ∧ k = .int .i64 (dP s m : Int) ∧ st wr w.heap.size (dA s m) (dB s m) ∧ OwnPl wr (w.heap.size + 1) v m (uX s) (uY s) ∧ Below w.heap.size w wr) (fun _ k _ => (s.size + 1) - (intOf k).toNat)
  case atStart => exact ⟨0, by omega, fun j hj => absurd hj (by omega), rfl, st.new w 0 0, ⟨fun _ => 0, fun _ => 0, ⟨rfl, .inl ⟨rfl, rfl⟩⟩, fun j hj => absurd hj (by omega)⟩, by (with_reducible repeat (first | exact Below.refl _ _ | apply below_alloc | apply below_dN | apply below_d | refine below_setCell ?_ (by dsimp only; omega) | refine below_call (by assumption) ?_))⟩
  case round =>
    obtain ⟨m, hm, hU, rfl, hT, hO, hB⟩ := hrel
    have HB := Lib.hid hB
    have HO := Lib.hid hO
    have HT := Lib.hid hT
    have hp0 := dP_le (s := s) m
    have hBs := hB.size
    have hTl := hT.lt
    obtain ⟨A', c', rfl⟩ := hO.shape
    clear hB hO hT
    by_cases hlt : dP s m < s.size ∨ m = 0
    · have HBD := Lib.hid (fun h => bad_at (s := s) (m := m) h (hlt.elim (fun h => .inr ⟨hU, h⟩) .inl))
      have e1 := n1_le s m
      have e2 := n2_le s m
      have bA := dA_bnd hU
      have bB := dB_bnd hU
      have b1 := nd_bnd (rs s (dP s m))
      have b2 := nd_bnd (rs s (dP s m + n1 s m))
      have hN1 := unpackNumber_c (rs s (dP s m))
      have hN2 := unpackNumber_c (rs s (dP s m + n1 s m))
      change ∀ w, Calls _ _ _ w (Ret (RV (.tuple #[.int .i64 (d1 s m), .int .i64 (n1 s m), .bool (decide (0 < n1 s m))])) w) at hN1
      change ∀ w, Calls _ _ _ w (Ret (RV (.tuple #[.int .i64 (d2 s m), .int .i64 (n2 s m), .bool (decide (0 < n2 s m))])) w) at hN2
      have hPos := iPos_c' (dA s (m + 1)) (dB s (m + 1))
      rw [dA_succ, dB_succ] at hPos
      have hF : okU s m ↔ (0 < n1 s m ∧ 0 < n2 s m ∧ stepsIn (dA s m + d1 s m) (dB s m + d2 s m) = true) := Iff.rfl
      have hS : dP s (m + 1) = dP s m + n1 s m + n2 s m ∧ dA s (m + 1) = dA s m + d1 s m ∧ dB s (m + 1) = dB s m + d2 s m := ⟨rfl, rfl, rfl⟩
      have hXY : uX s m = psF (dA s m + d1 s m) ∧ uY s m = psF (dB s m + d2 s m) := ⟨rfl, rfl⟩
      change -17179869184 ≤ d1 s m ∧ d1 s m ≤ 17179869184 at b1
      change -17179869184 ≤ d2 s m ∧ d2 s m ≤ 17179869184 at b2
      have HF := Lib.hid hF
      have HS := Lib.hid hS
      have HX := Lib.hid hXY
      have HU := Lib.hid hU
      clear hF hS hXY hU
      unfold rs at hN1 hN2
      generalize dP s m = P at *
      generalize dA s m = A at *
      generalize dB s m = B at *
      generalize n1 s m = k1 at *
      generalize n2 s m = k2 at *
      generalize d1 s m = x1 at *
      generalize d2 s m = x2 at *
      have HN1 := Lib.hid hN1
      have HN2 := Lib.hid hN2
      have HP := Lib.hid hPos
      clear hN1 hN2 hPos
      by_cases hl : P < s.size <;>
      (have hm0 : P < s.size ∨ ((m : Int) == 0) = true := by
         rcases hlt with h | h
         · exact .inl h
         · right; rw [h]; rfl
       have hm1 : P < s.size ∨ (m : Int) = 0 := by omega
       clear hlt
       have hgo : P < s.size ∨ m = 0 := by omega
       first
         | (have hmz : (m : Int) = 0 := by omega
            have hmz2 : ((m : Int) == 0) = true := by rw [hmz]; rfl
            have hpl : ¬ ((P : Int) < (s.size : Int)) := by omega)
         | (have hpl : (P : Int) < (s.size : Int) := by omega)
       clear hm0 hm1 hgo hl
       go_wp2
       go_loopw [6, 22] (fun k ri wx => ((ri = .int .i64 0 ∧ k = .int .i64 (P : Int) ∧ st wx w.heap.size A B) ∨ (ri = .int .i64 1 ∧ k = .int .i64 ((P : Int) + (k1 : Int)) ∧ 0 < k1 ∧ st wx w.heap.size (A + x1) B) ∨ (ri = .int .i64 2 ∧ k = .int .i64 ((P : Int) + (k1 : Int) + (k2 : Int)) ∧ 0 < k1 ∧ 0 < k2 ∧ st wx w.heap.size (A + x1) (B + x2))) ∧ OwnPl wx (w.heap.size + 1) (.slice A' m c') m (uX s) (uY s) ∧ Below w.heap.size w wx) (fun _ ri _ => 2 - (intOf ri).toNat)
       case atStart => exact ⟨.inl ⟨rfl, rfl, HT.out⟩, HO.out, HB.out⟩
       case round =>
         obtain ⟨hri, hO, hB⟩ := hrel
         have HB2 := Lib.hid hB
         have HO2 := Lib.hid hO
         have hB2s := hB.size
         clear hO hB HT HO HB hBs hTl
         rcases hri with ⟨rfl, rfl, hT⟩ | ⟨rfl, rfl, hk1, hT⟩ | ⟨rfl, rfl, hk1, hk2, hT⟩
         · by_cases hk1 : k1 = 0
           · subst hk1
             have HB0 := Lib.hid (HBD.out (fun h => by have := (HF.out.1 h).1; omega))
             have hd : decide (0 < 0) = false := rfl
             have hN := HN1.out
             rw [hd] at hN
             have HN1 := Lib.hid hN
             clear hd hN
             go_wp2_with (go_at_call 50; (with_reducible refine (HN1.out _).mono ?_); rintro e w1 ⟨⟨v, rfl, rfl⟩, hb⟩; have hs_ := hb.size; have hT1 := hT.below hb; have c0 := hT1.c0; have c1 := hT1.c1; have f0 := hT1.fr 0; have f1 := hT1.fr 1; have hl1 := hT1.lt)
             go_ret2
             exact .inr ⟨HB0.out, rfl, by have := HB2.out; (with_reducible repeat (first | exact Below.refl _ _ | apply below_alloc | apply below_dN | apply below_d | refine below_setCell ?_ (by dsimp only; omega) | refine below_call (by assumption) ?_))⟩
           · first
             | (exfalso; omega)
             | (have hd : decide (0 < k1) = true := decide_eq_true (by omega)
                have hN := HN1.out
                rw [hd] at hN
                have HN1 := Lib.hid hN
                have hk1' : 0 < k1 := by omega
                clear hd hN hk1
                go_wp2_with (go_at_call 50; (with_reducible refine (HN1.out _).mono ?_); rintro e w1 ⟨⟨v, rfl, rfl⟩, hb⟩; have hs_ := hb.size; have hT1 := hT.below hb; have c0 := hT1.c0; have c1 := hT1.c1; have f0 := hT1.fr 0; have f1 := hT1.fr 1; have hl1 := hT1.lt)
                go_roundw
                case rel => exact ⟨.inr (.inl ⟨by go_num, by go_num, hk1', hT1.setA _⟩), (HO2.out.below hb).set (by omega) _, by have := HB2.out; (with_reducible repeat (first | exact Below.refl _ _ | apply below_alloc | apply below_dN | apply below_d | refine below_setCell ?_ (by dsimp only; omega) | refine below_call (by assumption) ?_))⟩
                case measure => first | (simp [intOf]; done) | (simp [intOf]; omega))
         · first
           | (exfalso; omega)
           | (by_cases hk2 : k2 = 0
              · subst hk2
                have HB0 := Lib.hid (HBD.out (fun h => by have := (HF.out.1 h).2.1; omega))
                have hd : decide (0 < 0) = false := rfl
                have hN := HN2.out
                rw [hd] at hN
                have HN2 := Lib.hid hN
                clear hd hN
                go_wp2_with (go_at_call 50; (with_reducible refine (HN2.out _).mono ?_); rintro e w1 ⟨⟨v, rfl, rfl⟩, hb⟩; have hs_ := hb.size; have hT1 := hT.below hb; have c0 := hT1.c0; have c1 := hT1.c1; have f0 := hT1.fr 0; have f1 := hT1.fr 1; have hl1 := hT1.lt)
                go_ret2
                exact .inr ⟨HB0.out, rfl, by have := HB2.out; (with_reducible repeat (first | exact Below.refl _ _ | apply below_alloc | apply below_dN | apply below_d | refine below_setCell ?_ (by dsimp only; omega) | refine below_call (by assumption) ?_))⟩
              · have hd : decide (0 < k2) = true := decide_eq_true (by omega)
                have hN := HN2.out
                rw [hd] at hN
                have HN2 := Lib.hid hN
                have hk2' : 0 < k2 := by omega
                clear hd hN hk2
                go_wp2_with (go_at_call 50; (with_reducible refine (HN2.out _).mono ?_); rintro e w1 ⟨⟨v, rfl, rfl⟩, hb⟩; have hs_ := hb.size; have hT1 := hT.below hb; have c0 := hT1.c0; have c1 := hT1.c1; have f0 := hT1.fr 0; have f1 := hT1.fr 1; have hl1 := hT1.lt)
                go_roundw
                case rel => exact ⟨.inr (.inr ⟨by go_num, by go_num, hk1, hk2', hT1.setB _⟩), (HO2.out.below hb).set (by omega) _, by have := HB2.out; (with_reducible repeat (first | exact Below.refl _ _ | apply below_alloc | apply below_dN | apply below_d | refine below_setCell ?_ (by dsimp only; omega) | refine below_call (by assumption) ?_))⟩
                case measure => first | (simp [intOf]; done) | (simp [intOf]; omega))
         · first
           | (exfalso; omega)
           | (have c0 := hT.c0
              have c1 := hT.c1
              have hTl := hT.lt
              have HT := Lib.hid hT
              clear hT
              obtain ⟨K, hK⟩ : ∃ K, stepsIn (A + x1) (B + x2) = K := ⟨_, rfl⟩
              cases K
              · have HB0 := Lib.hid (HBD.out (fun h => by have := (HF.out.1 h).2.2; rw [hK] at this; cases this))
                have hPos := HP.out
                unfold posR at hPos
                rw [hK] at hPos
                have HP := Lib.hid hPos
                clear hPos hK
                go_wp2_with (first | (go_at_call 51; ((with_reducible refine (HP.out _).mono ?_); rintro e wa ⟨⟨v, rfl, ⟨p, q, rfl, ⟨u, v, rfl, ⟨hu, hv'⟩, wu, wv⟩, rfl⟩⟩, hb⟩); have hu2 : ∀ n : Nat, n < n + 1 + 1 := (fun n => by omega); have hu3 : ∀ n : Nat, n < n + 1 + 1 + 1 := (fun n => by omega); obtain ⟨hc, hfz⟩ := bcell hb; (try simp only [World.heap_drewN] at hc hfz); have hs_ := hb.size; (try simp at hs_); (try have hz0 : w.heap.size < wa.heap.size := (by omega)); (try have hz1 : w.heap.size + 1 < wa.heap.size := (by omega)); (try have hz2 : w.heap.size + 2 < wa.heap.size := (by omega)); (try have hz3 : w.heap.size + 3 < wa.heap.size := (by omega)); (try have hza : wa.heap.size < wa.heap.size := (by omega)); (try have hza1 : wa.heap.size + 1 < wa.heap.size := (by omega)); (try have hzb : wb.heap.size < wa.heap.size := (by omega)); (try have hzb1 : wb.heap.size + 1 < wa.heap.size := (by omega)); (try have hzc : wc.heap.size < wa.heap.size := (by omega)); (try have hzd : wd.heap.size < wa.heap.size := (by omega))))
                go_ret2
                exact .inr ⟨HB0.out, rfl, by have := HB2.out; (with_reducible repeat (first | exact Below.refl _ _ | apply below_alloc | apply below_dN | apply below_d | refine below_setCell ?_ (by dsimp only; omega) | refine below_call (by assumption) ?_))⟩
              · have hO2 : okU s m := HF.out.2 ⟨by omega, by omega, hK⟩
                have hPos := HP.out
                unfold posR at hPos
                rw [hK] at hPos
                simp only [if_true] at hPos
                rw [← HX.out.1, ← HX.out.2] at hPos
                have HP := Lib.hid hPos
                have HU2 := Lib.hid (HU.out.succ hO2)
                clear hPos hK hO2
                by_cases h64 : m = 64
                · have HB0 := Lib.hid (bad_more HU2.out (by omega))
                  have h64' : (m : Int) = 64 := by omega
                  have h64b : ((m : Int) == 64) = true := by rw [h64']; rfl
                  go_wp2_with (first | (go_at_call 51; ((with_reducible refine (HP.out _).mono ?_); rintro e wa ⟨⟨v, rfl, ⟨p, q, rfl, ⟨u, v, rfl, ⟨hu, hv'⟩, wu, wv⟩, rfl⟩⟩, hb⟩); have hu2 : ∀ n : Nat, n < n + 1 + 1 := (fun n => by omega); have hu3 : ∀ n : Nat, n < n + 1 + 1 + 1 := (fun n => by omega); obtain ⟨hc, hfz⟩ := bcell hb; (try simp only [World.heap_drewN] at hc hfz); have hs_ := hb.size; (try simp at hs_); (try have hz0 : w.heap.size < wa.heap.size := (by omega)); (try have hz1 : w.heap.size + 1 < wa.heap.size := (by omega)); (try have hz2 : w.heap.size + 2 < wa.heap.size := (by omega)); (try have hz3 : w.heap.size + 3 < wa.heap.size := (by omega)); (try have hza : wa.heap.size < wa.heap.size := (by omega)); (try have hza1 : wa.heap.size + 1 < wa.heap.size := (by omega)); (try have hzb : wb.heap.size < wa.heap.size := (by omega)); (try have hzb1 : wb.heap.size + 1 < wa.heap.size := (by omega)); (try have hzc : wc.heap.size < wa.heap.size := (by omega)); (try have hzd : wd.heap.size < wa.heap.size := (by omega))))
                  go_ret2
                  exact .inr ⟨HB0.out, rfl, by have := HB2.out; (with_reducible repeat (first | exact Below.refl _ _ | apply below_alloc | apply below_dN | apply below_d | refine below_setCell ?_ (by dsimp only; omega) | refine below_call (by assumption) ?_))⟩
                · have h64' : ¬ (m : Int) = 64 := by omega
                  have h64b : ((m : Int) == 64) = false := by simpa using h64'
                  obtain ⟨x, y, how, hxy⟩ := HO2.out
                  have HOW := Lib.hid how
                  have HXY := Lib.hid hxy
                  clear how hxy
                  go_wp2_with (first | ((go_at_call 51; ((with_reducible refine (HP.out _).mono ?_); rintro e wa ⟨⟨v, rfl, ⟨p, q, rfl, ⟨u, v, rfl, ⟨hu, hv'⟩, wu, wv⟩, rfl⟩⟩, hb⟩); have hu2 : ∀ n : Nat, n < n + 1 + 1 := (fun n => by omega); have hu3 : ∀ n : Nat, n < n + 1 + 1 + 1 := (fun n => by omega); obtain ⟨hc, hfz⟩ := bcell hb; (try simp only [World.heap_drewN] at hc hfz); have hs_ := hb.size; (try simp at hs_); (try have hz0 : w.heap.size < wa.heap.size := (by omega)); (try have hz1 : w.heap.size + 1 < wa.heap.size := (by omega)); (try have hz2 : w.heap.size + 2 < wa.heap.size := (by omega)); (try have hz3 : w.heap.size + 3 < wa.heap.size := (by omega)); (try have hza : wa.heap.size < wa.heap.size := (by omega)); (try have hza1 : wa.heap.size + 1 < wa.heap.size := (by omega)); (try have hzb : wb.heap.size < wa.heap.size := (by omega)); (try have hzb1 : wb.heap.size + 1 < wa.heap.size := (by omega)); (try have hzc : wc.heap.size < wa.heap.size := (by omega)); (try have hzd : wd.heap.size < wa.heap.size := (by omega))); have hBr := hb) | (at_builtin; refine wpList_append_own _ rfl (.tmp 60) (.tmp 62) 41 rfl (w.heap.size + 1) 29 i0 (.agg #[.float .f32 0, .float .f32 0]) 2 8 Try.underlying41 hi hI0 hI1 hI2 rfl (by decide) _ _ _ rfl (((own_below HOW.out hBr).alloc _).alloc _) ⟨wa.heap.size + 1, 0, none⟩ 1 1 [.float .f32 u, .float .f32 v] rfl rfl (cell_two_new _ _ (by simp) _ _ _) (by intro z hz; simp at hz; rcases hz with rfl | rfl <;> rfl) (by unfold maxLen; omega) (by omega) (by simp; omega) ?_; intro v1 w5 hown5 hgrow5 hnil5))
                  go_roundw
                  case rel =>
                    have hBw : Below w.heap.size w ((wa.alloc (.cells #[.float .f32 u, .float .f32 v] 29)).alloc (.cells #[.float .f32 u, .float .f32 v] 29)) := by have := HB2.out.trans (hBr.mono hB2s); (with_reducible repeat (first | exact Below.refl _ _ | apply below_alloc | apply below_dN | apply below_d | refine below_setCell ?_ (by dsimp only; omega) | refine below_call (by assumption) ?_))
                    have hO9 := ((own_below HOW.out hBr).alloc (.cells #[.float .f32 u, .float .f32 v] 29)).alloc (.cells #[.float .f32 u, .float .f32 v] 29)
                    have hfin : Below w.heap.size w w5 := hBw.grown hgrow5 (by simp; omega) (fun j hj => by have := hO9.lt j hj; omega)
                    have hT9 := (((HT.out.below hBr).alloc (.cells #[.float .f32 u, .float .f32 v] 29)).alloc (.cells #[.float .f32 u, .float .f32 v] 29)).grown hO9 (by omega) hgrow5
                    exact ⟨m + 1, by omega, HU2.out, by rw [HS.out.1]; go_num, by rw [HS.out.2.1, HS.out.2.2]; exact hT9, OwnPl.push hown5 HXY.out (by rw [hu]) (by rw [hv']) wu wv, hfin⟩
                  case measure => first | (simp [intOf]; done) | (simp [intOf]; omega)))
    · have hPn : ¬ dP s m < s.size := fun h => hlt (.inl h)
      have h0 : ¬ m = 0 := fun h => hlt (.inr h)
      have h0' : ¬ (m : Int) = 0 := by omega
      have h0b : ((m : Int) == 0) = false := by simpa using h0'
      obtain ⟨g, cc, hv0, hg, hW⟩ := HO.out.slice (by omega)
      cases hv0
      have hmu : m ≤ 1048576 := by omega
      have hA := iArePacked_c g m c' (uX s) (uY s) wr hg hmu hW
      have he : dP s m = s.size := by omega
      have hBE := bad_end hU he
      clear hlt
      cases hpk : arePk m (uX s) (uY s)
      · rw [hpk] at hA
        have HA := Lib.hid hA
        have HBM := Lib.hid (hBE (fun h => by rw [hpk] at h; exact absurd h.2.2.1 (by decide)))
        clear hA hW hU hpk hBE
        generalize dP s m = P at *
        generalize dA s m = A at *
        generalize dB s m = B at *
        go_wp2_with (first | (go_at_call 22; ((with_reducible refine (HA.out).mono ?_); rintro e w1 ⟨⟨v, rfl, rfl⟩, hb⟩); have hu2 : ∀ n : Nat, n < n + 1 + 1 := (fun n => by omega); have hu3 : ∀ n : Nat, n < n + 1 + 1 + 1 := (fun n => by omega); obtain ⟨hc, hfz⟩ := bcell hb; (try simp only [World.heap_drewN] at hc hfz); have hs_ := hb.size; (try simp at hs_); (try have hz0 : w.heap.size < w1.heap.size := (by omega)); (try have hz1 : w.heap.size + 1 < w1.heap.size := (by omega)); (try have hz2 : w.heap.size + 2 < w1.heap.size := (by omega)); (try have hz3 : w.heap.size + 3 < w1.heap.size := (by omega)); (try have hza : wa.heap.size < w1.heap.size := (by omega)); (try have hza1 : wa.heap.size + 1 < w1.heap.size := (by omega)); (try have hzb : wb.heap.size < w1.heap.size := (by omega)); (try have hzb1 : wb.heap.size + 1 < w1.heap.size := (by omega)); (try have hzc : wc.heap.size < w1.heap.size := (by omega)); (try have hzd : wd.heap.size < w1.heap.size := (by omega))))
        go_ret2
        exact .inr ⟨HBM.out, rfl, by have := HB.out; (with_reducible repeat (first | exact Below.refl _ _ | apply below_alloc | apply below_dN | apply below_d | refine below_setCell ?_ (by dsimp only; omega) | refine below_call (by assumption) ?_))⟩
      · rw [hpk] at hA
        obtain ⟨⟨n1', n2'⟩, hv⟩ := arePk_ok hpk
        have HA := Lib.hid hA
        have hP := fun (w' : World) (hB' : Below wr.heap.size wr w') => packPlaces_c g m c' (uX s) (uY s) w' (Nat.lt_of_lt_of_le hg hB'.size) n1' n2' hv (hW.below hB' hg).cells
        by_cases hS : strL (pkL (uX s) (uY s) m) = s
        · have HG := Lib.hid (show good s m from ⟨hU, he, n1', n2', hpk, hS⟩)
          rw [hS] at hP
          have HP := Lib.hid hP
          clear hA hW hU hpk hBE hP hv hS
          generalize dP s m = P at *
          generalize dA s m = A at *
          generalize dB s m = B at *
          go_wp2_with (first | ((go_at_call 22; ((with_reducible refine (HA.out).mono ?_); rintro e w1 ⟨⟨v, rfl, rfl⟩, hb⟩); have hu2 : ∀ n : Nat, n < n + 1 + 1 := (fun n => by omega); have hu3 : ∀ n : Nat, n < n + 1 + 1 + 1 := (fun n => by omega); obtain ⟨hc, hfz⟩ := bcell hb; (try simp only [World.heap_drewN] at hc hfz); have hs_ := hb.size; (try simp at hs_); (try have hz0 : w.heap.size < w1.heap.size := (by omega)); (try have hz1 : w.heap.size + 1 < w1.heap.size := (by omega)); (try have hz2 : w.heap.size + 2 < w1.heap.size := (by omega)); (try have hz3 : w.heap.size + 3 < w1.heap.size := (by omega)); (try have hza : wa.heap.size < w1.heap.size := (by omega)); (try have hza1 : wa.heap.size + 1 < w1.heap.size := (by omega)); (try have hzb : wb.heap.size < w1.heap.size := (by omega)); (try have hzb1 : wb.heap.size + 1 < w1.heap.size := (by omega)); (try have hzc : wc.heap.size < w1.heap.size := (by omega)); (try have hzd : wd.heap.size < w1.heap.size := (by omega))); have hBr : Below wr.heap.size wr w1 := (by (with_reducible repeat (first | exact Below.refl _ _ | apply below_alloc | apply below_dN | apply below_d | refine below_setCell ?_ (by dsimp only; omega) | refine below_call (by assumption) ?_)))) | (go_at_call 48; ((with_reducible refine (HP.out _ hBr).mono ?_); rintro e wk ⟨⟨v, rfl, rfl⟩, hb⟩); have hu2 : ∀ n : Nat, n < n + 1 + 1 := (fun n => by omega); have hu3 : ∀ n : Nat, n < n + 1 + 1 + 1 := (fun n => by omega); obtain ⟨hc, hfz⟩ := bcell hb; (try simp only [World.heap_drewN] at hc hfz); have hs_ := hb.size; (try simp at hs_); (try have hz0 : w.heap.size < wk.heap.size := (by omega)); (try have hz1 : w.heap.size + 1 < wk.heap.size := (by omega)); (try have hz2 : w.heap.size + 2 < wk.heap.size := (by omega)); (try have hz3 : w.heap.size + 3 < wk.heap.size := (by omega)); (try have hza : wa.heap.size < wk.heap.size := (by omega)); (try have hza1 : wa.heap.size + 1 < wk.heap.size := (by omega)); (try have hzb : wb.heap.size < wk.heap.size := (by omega)); (try have hzb1 : wb.heap.size + 1 < wk.heap.size := (by omega)); (try have hzc : wc.heap.size < wk.heap.size := (by omega)); (try have hzd : wd.heap.size < wk.heap.size := (by omega))))
          go_ret2
          have hbb := hBr.trans (hb.mono hBr.size)
          exact .inl ⟨m, _, HG.out, rfl, (HO.out.below hbb).weak (by omega), HB.out.trans (hbb.mono hBs)⟩
        · have HBM := Lib.hid (hBE (fun h => hS h.2.2.2))
          obtain ⟨S, hSS⟩ : ∃ S, strL (pkL (uX s) (uY s) m) = S := ⟨_, rfl⟩
          rw [hSS] at hP hS
          have hSL := str_ne hS
          have HP := Lib.hid hP
          clear hA hW hU hpk hBE hP hv hSS
          generalize dP s m = P at *
          generalize dA s m = A at *
          generalize dB s m = B at *
          go_wp2_with (first | ((go_at_call 22; ((with_reducible refine (HA.out).mono ?_); rintro e w1 ⟨⟨v, rfl, rfl⟩, hb⟩); have hu2 : ∀ n : Nat, n < n + 1 + 1 := (fun n => by omega); have hu3 : ∀ n : Nat, n < n + 1 + 1 + 1 := (fun n => by omega); obtain ⟨hc, hfz⟩ := bcell hb; (try simp only [World.heap_drewN] at hc hfz); have hs_ := hb.size; (try simp at hs_); (try have hz0 : w.heap.size < w1.heap.size := (by omega)); (try have hz1 : w.heap.size + 1 < w1.heap.size := (by omega)); (try have hz2 : w.heap.size + 2 < w1.heap.size := (by omega)); (try have hz3 : w.heap.size + 3 < w1.heap.size := (by omega)); (try have hza : wa.heap.size < w1.heap.size := (by omega)); (try have hza1 : wa.heap.size + 1 < w1.heap.size := (by omega)); (try have hzb : wb.heap.size < w1.heap.size := (by omega)); (try have hzb1 : wb.heap.size + 1 < w1.heap.size := (by omega)); (try have hzc : wc.heap.size < w1.heap.size := (by omega)); (try have hzd : wd.heap.size < w1.heap.size := (by omega))); have hBr : Below wr.heap.size wr w1 := (by (with_reducible repeat (first | exact Below.refl _ _ | apply below_alloc | apply below_dN | apply below_d | refine below_setCell ?_ (by dsimp only; omega) | refine below_call (by assumption) ?_)))) | (go_at_call 48; ((with_reducible refine (HP.out _ hBr).mono ?_); rintro e wk ⟨⟨v, rfl, rfl⟩, hb⟩); have hu2 : ∀ n : Nat, n < n + 1 + 1 := (fun n => by omega); have hu3 : ∀ n : Nat, n < n + 1 + 1 + 1 := (fun n => by omega); obtain ⟨hc, hfz⟩ := bcell hb; (try simp only [World.heap_drewN] at hc hfz); have hs_ := hb.size; (try simp at hs_); (try have hz0 : w.heap.size < wk.heap.size := (by omega)); (try have hz1 : w.heap.size + 1 < wk.heap.size := (by omega)); (try have hz2 : w.heap.size + 2 < wk.heap.size := (by omega)); (try have hz3 : w.heap.size + 3 < wk.heap.size := (by omega)); (try have hza : wa.heap.size < wk.heap.size := (by omega)); (try have hza1 : wa.heap.size + 1 < wk.heap.size := (by omega)); (try have hzb : wb.heap.size < wk.heap.size := (by omega)); (try have hzb1 : wb.heap.size + 1 < wk.heap.size := (by omega)); (try have hzc : wc.heap.size < wk.heap.size := (by omega)); (try have hzd : wd.heap.size < wk.heap.size := (by omega))))
          go_ret2
          exact .inr ⟨HBM.out, rfl, HB.out.trans ((hBr.trans (hb.mono hBr.size)).mono hBs)⟩
end Go.Proofs.Yteecbhmgogndaaa
