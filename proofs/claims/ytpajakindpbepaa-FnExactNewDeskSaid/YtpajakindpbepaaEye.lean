/- Small contracts of sights: bounds, drops, mixed numbers. No condition. -/
import Derived.Test.YtpajakindpbepaaGw
import Derived.Test.YtpajakindpbepaaCpx
import Derived.Test.YtpajakindpbepaaHtP
namespace Go.Proofs.Ytpajakindpbepaa
open Go.RowKit
set_option linter.unusedSimpArgs false
section
variable {P : Program} {w : World} {ops : Array Oper} {rest : List Oper} {o : Oper} {a : Act} {Q : Exit → Act → World → Prop}
theorem wpL_cadd (hgd : Region.wanted o (yielded ops a.tmps) = true) (t t2 : TypeId) (X Y : Operand) (ho : o.op = .binOp .add t X Y t2) (p q r s : Nat) (hX : a.eval X = .complex .f32 p q) (hY : a.eval Y = .complex .f32 r s)
    (h : ∀ x y n, cn .f32 x = fop .add .f32 (cn .f32 p) (cn .f32 r) → cn .f32 y = fop .add .f32 (cn .f32 q) (cn .f32 s) → (Lit.float .f32 x).wf = true → (Lit.float .f32 y).wf = true → wpList P ops Q rest (a.put o.dst (.complex .f32 x y)) (w.drewN n)) : wpList P ops Q (o :: rest) a w :=
  wpList_want hgd fun K hK => by
    obtain ⟨x, y, n, e, g1, g2, g3, g4⟩ := run_cadd (P := P) t .f32 p q r s w
    refine wp_value (v := .complex .f32 x y) (w' := w.drewN n) ?_ (hK _ _ (h x y n g1 g2 g3 g4))
    unfold execOp
    rw [ho]
    have he : eqGuard .add t X Y (Value.complex .f32 p q) (Value.complex .f32 r s) = pure () := rfl
    simp only [hX, hY, he, Sem.run_bind, Sem.run_pure, Result.andThen_ok, e]
end
set_option maxHeartbeats 400000 in
theorem inside_c (x a b X A B : Nat) (hx : cn .f32 x = X) (ha : cn .f32 a = A) (hb : cn .f32 b = B) (w : World) :
    Calls Try.prog 84 #[.float .f32 x, .float .f32 a, .float .f32 b] w (Ret (RV (.bool (fge .f32 X A && fle .f32 X B))) w) := by
  cases h : fge .f32 X A <;>
  (go_enter Try.func84, Try.ntmps84
   go_wp2
   go_ret
   exact ⟨⟨_, rfl, by simp [RV, *]⟩, by (with_reducible repeat (first | exact Below.refl _ _ | apply below_alloc | apply below_dN | apply below_d | refine below_setCell ?_ (by dsimp only; omega) | refine below_call (by assumption) ?_))⟩)
def leastF (X : Nat) : Bool := fin .f32 X && fge .f32 X 0
def shareF (X : Nat) : Bool := fge .f32 X 0 && fle .f32 X 1065353216
set_option maxHeartbeats 400000 in
theorem isLimit_c (x X : Nat) (hx : cn .f32 x = X) (w : World) : Calls Try.prog 83 #[.float .f32 x] w (Ret (RV (.bool (leastF X))) w) := by
  unfold leastF
  cases c : fin .f32 X
  · have HC := Lib.hid (fun w => c ▸ iFinite_c x X hx w)
    go_enter Try.func83, Try.ntmps83
    go_wp2_with (first | (go_at_call 55; ((with_reducible refine (HC.out _).mono ?_); rintro e w1 ⟨⟨v, rfl, rfl⟩, hb⟩)))
    go_ret
    exact ⟨⟨_, rfl, by simp [RV, *]⟩, by (with_reducible repeat (first | exact Below.refl _ _ | apply below_alloc | apply below_dN | apply below_d | refine below_setCell ?_ (by dsimp only; omega) | refine below_call (by assumption) ?_))⟩
  · have HC := Lib.hid (fun w => c ▸ iFinite_c x X hx w)
    go_enter Try.func83, Try.ntmps83
    go_wp2_with (first | (go_at_call 55; ((with_reducible refine (HC.out _).mono ?_); rintro e w1 ⟨⟨v, rfl, rfl⟩, hb⟩)))
    go_ret
    exact ⟨⟨_, rfl, by simp [RV, *]⟩, by (with_reducible repeat (first | exact Below.refl _ _ | apply below_alloc | apply below_dN | apply below_d | refine below_setCell ?_ (by dsimp only; omega) | refine below_call (by assumption) ?_))⟩
set_option maxHeartbeats 400000 in
theorem l02Least_c (x X : Nat) (hx : cn .f32 x = X) (w : World) : Calls Try.prog 104 #[.float .f32 x] w (Ret (RV (.bool (leastF X))) w) := by
  unfold leastF
  cases c : fin .f32 X
  · have HC := Lib.hid (fun w => c ▸ sFinite_c x X hx w)
    go_enter Try.func104, Try.ntmps104
    go_wp2_with (first | (go_at_call 50; ((with_reducible refine (HC.out _).mono ?_); rintro e w1 ⟨⟨v, rfl, rfl⟩, hb⟩)))
    go_ret
    exact ⟨⟨_, rfl, by simp [RV, *]⟩, by (with_reducible repeat (first | exact Below.refl _ _ | apply below_alloc | apply below_dN | apply below_d | refine below_setCell ?_ (by dsimp only; omega) | refine below_call (by assumption) ?_))⟩
  · have HC := Lib.hid (fun w => c ▸ sFinite_c x X hx w)
    go_enter Try.func104, Try.ntmps104
    go_wp2_with (first | (go_at_call 50; ((with_reducible refine (HC.out _).mono ?_); rintro e w1 ⟨⟨v, rfl, rfl⟩, hb⟩)))
    go_ret
    exact ⟨⟨_, rfl, by simp [RV, *]⟩, by (with_reducible repeat (first | exact Below.refl _ _ | apply below_alloc | apply below_dN | apply below_d | refine below_setCell ?_ (by dsimp only; omega) | refine below_call (by assumption) ?_))⟩
set_option maxHeartbeats 400000 in
theorem l02Share_c (x X : Nat) (hx : cn .f32 x = X) (w : World) : Calls Try.prog 105 #[.float .f32 x] w (Ret (RV (.bool (shareF X))) w) := by
  unfold shareF
  cases h : fge .f32 X 0 <;>
  (go_enter Try.func105, Try.ntmps105
   go_wp2
   go_ret
   exact ⟨⟨_, rfl, by simp [RV, *]⟩, by (with_reducible repeat (first | exact Below.refl _ _ | apply below_alloc | apply below_dN | apply below_d | refine below_setCell ?_ (by dsimp only; omega) | refine below_call (by assumption) ?_))⟩)
/-- How much the ground drops. -/
def dropF (F B : Nat) : Nat := fop .quo .f32 (fop .mul .f32 (fop .mul .f32 F F) (fop .sub .f32 1065353216 B)) 1073741824
set_option maxHeartbeats 400000 in
theorem l06Drop_c (x b X B : Nat) (hx : cn .f32 x = X) (hb : cn .f32 b = B) (w : World) : Calls Try.prog 107 #[.float .f32 x, .float .f32 b] w (Ret (RF .f32 (dropF X B)) w) := by
  subst hx hb
  go_enter Try.func107, Try.ntmps107
  go_wp2_with (first | (refine wpL_farith rfl _ _ _ _ _ rfl rfl _ _ _ rfl rfl ?_; intro r n hr hw))
  go_ret
  exact ⟨⟨_, rfl, _, rfl, by unfold dropF; simp only [*]; rfl, okf_of (by assumption)⟩, by (with_reducible repeat (first | exact Below.refl _ _ | apply below_alloc | apply below_dN | apply below_d | refine below_setCell ?_ (by dsimp only; omega) | refine below_call (by assumption) ?_))⟩
def gd (b : Bool) (x : Nat) : Nat := if b then x else 0
def numRes (ok : Bool) (X : Nat) : Value → Prop := RP (RF .f32 (gd (ok && fin .f32 X) X)) (RV (.bool (ok && fin .f32 X)))
set_option maxHeartbeats 400000 in
theorem finite_c (x X : Nat) (ok : Bool) (hx : cn .f32 x = X) (hw : okf .f32 x) (w : World) : Calls Try.prog 82 #[.float .f32 x, .bool ok] w (Ret (numRes ok X) w) := by
  unfold numRes
  cases ok
  · go_enter Try.func82, Try.ntmps82
    go_wp2
    refine bodyPost_ret (v := .tuple #[.float .f32 0, .bool false]) (by simp [results, Try.results82, go_sem, *] <;> (first | rfl | exact ⟨rfl, rfl⟩ | exact ⟨rfl, rfl, rfl⟩ | exact ⟨rfl, rfl, rfl, rfl⟩)) rfl ?_
    exact ⟨⟨_, rfl, _, _, rfl, ⟨0, rfl, by simp [gd], okf_of (by decide)⟩, rfl⟩, by (with_reducible repeat (first | exact Below.refl _ _ | apply below_alloc | apply below_dN | apply below_d | refine below_setCell ?_ (by dsimp only; omega) | refine below_call (by assumption) ?_))⟩
  · cases hf : fin .f32 X
    · have HC := Lib.hid (fun w => hf ▸ iFinite_c x X hx w)
      go_enter Try.func82, Try.ntmps82
      go_wp2_with (first | (go_at_call 55; ((with_reducible refine (HC.out _).mono ?_); rintro e w1 ⟨⟨v, rfl, rfl⟩, hb⟩)))
      refine bodyPost_ret (v := .tuple #[.float .f32 0, .bool false]) (by simp [results, Try.results82, go_sem, *] <;> (first | rfl | exact ⟨rfl, rfl⟩ | exact ⟨rfl, rfl, rfl⟩ | exact ⟨rfl, rfl, rfl, rfl⟩)) rfl ?_
      exact ⟨⟨_, rfl, _, _, rfl, ⟨0, rfl, by simp [gd], okf_of (by decide)⟩, rfl⟩, by (with_reducible repeat (first | exact Below.refl _ _ | apply below_alloc | apply below_dN | apply below_d | refine below_setCell ?_ (by dsimp only; omega) | refine below_call (by assumption) ?_))⟩
    · have HC := Lib.hid (fun w => hf ▸ iFinite_c x X hx w)
      go_enter Try.func82, Try.ntmps82
      go_wp2_with (first | (go_at_call 55; ((with_reducible refine (HC.out _).mono ?_); rintro e w1 ⟨⟨v, rfl, rfl⟩, hb⟩)))
      refine bodyPost_ret (v := .tuple #[.float .f32 x, .bool true]) (by simp [results, Try.results82, go_sem, *] <;> (first | rfl | exact ⟨rfl, rfl⟩ | exact ⟨rfl, rfl, rfl⟩ | exact ⟨rfl, rfl, rfl, rfl⟩)) rfl ?_
      exact ⟨⟨_, rfl, _, _, rfl, ⟨x, rfl, by simpa [gd] using hx, hw⟩, rfl⟩, by (with_reducible repeat (first | exact Below.refl _ _ | apply below_alloc | apply below_dN | apply below_d | refine below_setCell ?_ (by dsimp only; omega) | refine below_call (by assumption) ?_))⟩
set_option maxHeartbeats 1000000 in
theorem dropOf_c (x b X B : Nat) (hx : cn .f32 x = X) (hb : cn .f32 b = B) (h1 : leastF X = true) (h2 : shareF B = true) (h3 : fin .f32 (dropF X B) = true) (w : World) : Calls Try.prog 41 #[.float .f32 x, .float .f32 b] w (Ret (RP (RF .f32 (dropF X B)) (RV (.bool true))) w) := by
  have HL := Lib.hid (fun w => h1 ▸ isLimit_c x X hx w)
  have HI := Lib.hid (fun w => (show (fge .f32 B 0 && fle .f32 B 1065353216) = true from h2) ▸ inside_c b 0 1065353216 B 0 1065353216 hb rfl rfl w)
  have HF := Lib.hid (fun r (hr : cn .f32 r = dropF X B) hw w => finite_c r (dropF X B) true hr hw w)
  unfold numRes at HF
  rw [h3] at HF
  clear h1 h2 h3
  subst hx hb
  go_enter Try.func41, Try.ntmps41
  go_wp2_with (first | (refine wpL_farith rfl _ _ _ _ _ rfl rfl _ _ _ rfl rfl ?_; intro r n hr hw) | (go_at_call 83; ((with_reducible refine (HL.out _).mono ?_); rintro e w1 ⟨⟨v, rfl, rfl⟩, hb⟩)) | (go_at_call 84; ((with_reducible refine (HI.out _).mono ?_); rintro e w1 ⟨⟨v, rfl, rfl⟩, hb⟩)) | (go_at_call 82; have hD : cn .f32 r = dropF (cn .f32 x) (cn .f32 b) := (by unfold dropF; simp only [*]; rfl); ((with_reducible refine (HF.out _ hD (okf_of hw) _).mono ?_); rintro e w1 ⟨⟨v, rfl, p, q, rfl, ⟨r, rfl, hr, hw⟩, rfl⟩, hb1⟩)))
  go_ret2
  exact ⟨⟨_, rfl, _, _, rfl, ⟨_, rfl, by simpa [gd] using hr, hw⟩, rfl⟩, by (with_reducible repeat (first | exact Below.refl _ _ | apply below_alloc | apply below_dN | apply below_d | refine below_setCell ?_ (by dsimp only; omega) | refine below_call (by assumption) ?_))⟩
set_option maxHeartbeats 400000 in
theorem scaleComplex_c (a b t A B T : Nat) (ha : cn .f32 a = A) (hb : cn .f32 b = B) (ht : cn .f32 t = T) (w : World) : Calls Try.prog 116 #[.complex .f32 a b, .float .f32 t] w (Ret (RC (fop .mul .f32 A T) (fop .mul .f32 B T)) w) := by
  subst ha hb ht
  go_enter Try.func116, Try.ntmps116
  go_wp2_with (first | (refine wpL_farith rfl _ _ _ _ _ rfl rfl _ _ _ rfl rfl ?_; intro r n hr hw))
  go_ret
  exact ⟨⟨_, rfl, _, _, rfl, by assumption, by assumption, okf_of (by assumption), okf_of (by assumption)⟩, by (with_reducible repeat (first | exact Below.refl _ _ | apply below_alloc | apply below_dN | apply below_d | refine below_setCell ?_ (by dsimp only; omega) | refine below_call (by assumption) ?_))⟩
set_option maxHeartbeats 400000 in
theorem plus_c (a b c d A B C D : Nat) (ha : cn .f32 a = A) (hb : cn .f32 b = B) (hc : cn .f32 c = C) (hd : cn .f32 d = D) (w : World) : Calls Try.prog 115 #[.complex .f32 a b, .complex .f32 c d] w (Ret (RC (fop .add .f32 A C) (fop .add .f32 B D)) w) := by
  subst ha hb hc hd
  go_enter Try.func115, Try.ntmps115
  go_wp2_with (first | (refine wpL_farith rfl _ _ _ _ _ rfl rfl _ _ _ rfl rfl ?_; intro r n hr hw))
  go_ret
  exact ⟨⟨_, rfl, _, _, rfl, by assumption, by assumption, okf_of (by assumption), okf_of (by assumption)⟩, by (with_reducible repeat (first | exact Below.refl _ _ | apply below_alloc | apply below_dN | apply below_d | refine below_setCell ?_ (by dsimp only; omega) | refine below_call (by assumption) ?_))⟩
set_option maxHeartbeats 400000 in
theorem mixed_c (a b c d t A B C D T : Nat) (ha : cn .f32 a = A) (hb : cn .f32 b = B) (hc : cn .f32 c = C) (hd : cn .f32 d = D) (ht : cn .f32 t = T) (w : World) : Calls Try.prog 96 #[.complex .f32 a b, .complex .f32 c d, .float .f32 t] w (Ret (RC (mixF A C T) (mixF B D T)) w) := by
  unfold mixF
  have H1 := Lib.hid (less_c c d a b C D A B hc hd ha hb)
  have H2 := Lib.hid (fun p q hp hq => scaleComplex_c p q t (fop .sub .f32 C A) (fop .sub .f32 D B) T hp hq ht)
  have H3 := Lib.hid (fun p q hp hq => plus_c a b p q A B (fop .mul .f32 (fop .sub .f32 C A) T) (fop .mul .f32 (fop .sub .f32 D B) T) ha hb hp hq)
  go_enter Try.func96, Try.ntmps96
  go_wp2_with (first
    | (go_at_call 65; ((with_reducible refine (H1.out _).mono ?_); rintro e w1 ⟨⟨v, rfl, p1, q1, rfl, hp1, hq1, go1, ho1⟩, hb1⟩))
    | (go_at_call 116; ((with_reducible refine (H2.out _ _ hp1 hq1 _).mono ?_); rintro e w2 ⟨⟨v, rfl, p2, q2, rfl, hp2, hq2, go2, ho2⟩, hb2⟩))
    | (go_at_call 115; ((with_reducible refine (H3.out _ _ hp2 hq2 _).mono ?_); rintro e w3 ⟨⟨v, rfl, p3, q3, rfl, hp3, hq3, go3, ho3⟩, hb3⟩)))
  go_ret
  exact ⟨⟨_, rfl, _, _, rfl, hp3, hq3, go3, ho3⟩, by (with_reducible repeat (first | exact Below.refl _ _ | apply below_alloc | apply below_dN | apply below_d | refine below_setCell ?_ (by dsimp only; omega) | refine below_call (by assumption) ?_))⟩
def sightF (E B : Nat) (s : Int) : Bool := (leastF E && shareF B) && (decide (1 ≤ s) && decide (s ≤ 64))
set_option maxHeartbeats 1000000 in
theorem isSight_c (x b X B : Nat) (s : Int) (hx : cn .f32 x = X) (hb : cn .f32 b = B) (w : World) : Calls Try.prog 71 #[.float .f32 x, .float .f32 b, .int .i64 s] w (Ret (RV (.bool (sightF X B s))) w) := by
  have HI := Lib.hid (fun w => (show Calls Try.prog 84 #[.float .f32 b, .float .f32 0, .float .f32 1065353216] w (Ret (RV (.bool (shareF B))) w) from inside_c b 0 1065353216 B 0 1065353216 hb rfl rfl w))
  have HW := Lib.hid (fun w => within_c s 1 64 w)
  unfold sightF
  cases c1 : leastF X
  · have HL := Lib.hid (fun w => c1 ▸ isLimit_c x X hx w)
    go_enter Try.func71, Try.ntmps71
    go_wp2_with (first | (go_at_call 83; ((with_reducible refine (HL.out _).mono ?_); rintro e w1 ⟨⟨v, rfl, rfl⟩, hb⟩)))
    go_ret
    exact ⟨⟨_, rfl, by simp [RV, *]⟩, by (with_reducible repeat (first | exact Below.refl _ _ | apply below_alloc | apply below_dN | apply below_d | refine below_setCell ?_ (by dsimp only; omega) | refine below_call (by assumption) ?_))⟩
  · have HL := Lib.hid (fun w => c1 ▸ isLimit_c x X hx w)
    cases c2 : shareF B
    · rw [c2] at HI
      go_enter Try.func71, Try.ntmps71
      go_wp2_with (first | (go_at_call 83; ((with_reducible refine (HL.out _).mono ?_); rintro e w1 ⟨⟨v, rfl, rfl⟩, hb⟩)) | (go_at_call 84; ((with_reducible refine (HI.out _).mono ?_); rintro e w1 ⟨⟨v, rfl, rfl⟩, hb⟩)))
      go_ret
      exact ⟨⟨_, rfl, by simp [RV, *]⟩, by (with_reducible repeat (first | exact Below.refl _ _ | apply below_alloc | apply below_dN | apply below_d | refine below_setCell ?_ (by dsimp only; omega) | refine below_call (by assumption) ?_))⟩
    · rw [c2] at HI
      go_enter Try.func71, Try.ntmps71
      go_wp2_with (first | (go_at_call 83; ((with_reducible refine (HL.out _).mono ?_); rintro e w1 ⟨⟨v, rfl, rfl⟩, hb⟩)) | (go_at_call 84; ((with_reducible refine (HI.out _).mono ?_); rintro e w1 ⟨⟨v, rfl, rfl⟩, hb⟩)) | (go_at_call 109; ((with_reducible refine (HW.out _).mono ?_); rintro e w' ⟨rfl, rfl⟩)))
      go_ret
      exact ⟨⟨_, rfl, by simp [RV, *]⟩, by (with_reducible repeat (first | exact Below.refl _ _ | apply below_alloc | apply below_dN | apply below_d | refine below_setCell ?_ (by dsimp only; omega) | refine below_call (by assumption) ?_))⟩
end Go.Proofs.Ytpajakindpbepaa
