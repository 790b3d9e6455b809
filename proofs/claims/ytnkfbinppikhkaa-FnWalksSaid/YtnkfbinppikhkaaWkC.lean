/- Contracts of phasors, ways, sums and shares of complex numbers. No condition. -/
import Derived.Test.YtnkfbinppikhkaaWkN
import Derived.Test.YtnkfbinppikhkaaWGX
namespace Go.Proofs.Ytnkfbinppikhkaa
open Go.RowKit
set_option linter.unusedSimpArgs false
set_option maxHeartbeats 400000 in
theorem iPos_c (x X : Nat) (hx : cn .f32 x = X) (hw : okf .f32 x) (w : World) : Calls Try.prog 17 #[.float .f32 x] w (Ret (RF .f32 (Posi X)) w) := by
  unfold Posi
  cases c : flt .f32 X 0 <;>
  (go_enter Try.func17, Try.ntmps17
   go_wp2_with (refine wpL_farith rfl _ _ _ _ _ rfl rfl _ _ _ rfl rfl ?_; intro r n hr hw)
   go_ret
   exact ⟨⟨_, rfl, _, rfl, by simp [*], by first | assumption | exact okf_of (by assumption)⟩, by (with_reducible repeat (first | exact Below.refl _ _ | apply below_alloc | apply below_dN | apply below_d | refine below_setCell ?_ (by dsimp only; omega) | refine below_call (by assumption) ?_))⟩)
set_option maxHeartbeats 400000 in
theorem angleOf_c (a b A B : Nat) (ha : cn .f32 a = A) (hb : cn .f32 b = B) (w : World) : Calls Try.prog 18 #[.complex .f32 a b] w (Ret (RF .f32 (AngF B A)) w) := by
  have H := Lib.hid (fun w => iAng_c b a B A hb ha w)
  clear ha hb
  go_enter Try.func18, Try.ntmps18
  go_wp2_with (go_at_call 34; ((with_reducible refine (H.out _).mono ?_); rintro e w1 ⟨⟨v, rfl, r, rfl, hr, hw⟩, hb⟩))
  go_ret
  exact ⟨⟨_, rfl, _, rfl, hr, hw⟩, hb⟩
set_option maxHeartbeats 400000 in
theorem scale_c (a b c A B C : Nat) (ha : cn .f32 a = A) (hb : cn .f32 b = B) (hc : cn .f32 c = C) (w : World) : Calls Try.prog 23 #[.complex .f32 a b, .float .f32 c] w (Ret (RC (fop .mul .f32 A C) (fop .mul .f32 B C)) w) := by
  subst ha hb hc
  go_enter Try.func23, Try.ntmps23
  go_wp2_with (first | (refine wpL_farith rfl _ _ _ _ _ rfl rfl _ _ _ rfl rfl ?_; intro r n hr hw))
  go_ret
  exact ⟨⟨_, rfl, _, _, rfl, by assumption, by assumption, okf_of (by assumption), okf_of (by assumption)⟩, by (with_reducible repeat (first | exact Below.refl _ _ | apply below_alloc | apply below_dN | apply below_d | refine below_setCell ?_ (by dsimp only; omega) | refine below_call (by assumption) ?_))⟩
set_option maxHeartbeats 400000 in
theorem plus_c (a b c d A B C D : Nat) (ha : cn .f32 a = A) (hb : cn .f32 b = B) (hc : cn .f32 c = C) (hd : cn .f32 d = D) (w : World) : Calls Try.prog 22 #[.complex .f32 a b, .complex .f32 c d] w (Ret (RC (fop .add .f32 A C) (fop .add .f32 B D)) w) := by
  subst ha hb hc hd
  go_enter Try.func22, Try.ntmps22
  go_wp2_with (first | (refine wpL_farith rfl _ _ _ _ _ rfl rfl _ _ _ rfl rfl ?_; intro r n hr hw))
  go_ret
  exact ⟨⟨_, rfl, _, _, rfl, by assumption, by assumption, okf_of (by assumption), okf_of (by assumption)⟩, by (with_reducible repeat (first | exact Below.refl _ _ | apply below_alloc | apply below_dN | apply below_d | refine below_setCell ?_ (by dsimp only; omega) | refine below_call (by assumption) ?_))⟩
set_option maxHeartbeats 400000 in
theorem sLongOf_c (a b A B : Nat) (ha : cn .f32 a = A) (hb : cn .f32 b = B) (hf : fits .f64 .f32 (fsq (pww A B))) (w : World) : Calls Try.prog 11 #[.complex .f32 a b] w (Ret (RF .f32 (lng A B)) w) := by
  have H := Lib.hid (fun w => l01Long_c a b A B ha hb hf w)
  clear ha hb hf
  go_enter Try.func11, Try.ntmps11
  go_wp2_with (go_at_call 32; ((with_reducible refine (H.out _).mono ?_); rintro e w1 ⟨⟨v, rfl, r, rfl, hr, hw⟩, hb⟩))
  go_ret
  exact ⟨⟨_, rfl, _, rfl, hr, hw⟩, hb⟩
/-- Three quarters at most. -/
theorem qua_le : ∀ (n f q : Nat), q ≤ (Qua n f q).2 ∧ (Qua n f q).2 ≤ q + n
  | 0, _, _ => ⟨Nat.le_refl _, Nat.le_refl _⟩
  | n + 1, f, q => by
    unfold Qua
    split
    · have := qua_le n (fop .sub .f64 f 4598175219545276416) (q + 1)
      exact ⟨by omega, by omega⟩
    · exact ⟨Nat.le_refl _, by simp⟩
end Go.Proofs.Ytnkfbinppikhkaa
