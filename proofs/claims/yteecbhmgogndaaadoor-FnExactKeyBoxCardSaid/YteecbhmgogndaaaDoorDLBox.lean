/- The law of KeyBox. No condition. -/
import Derived.Test.YteecbhmgogndaaaDoorDBox
namespace Go.Proofs.YteecbhmgogndaaaDoor
open Go.RowKit
set_option linter.unusedSimpArgs false
set_option maxRecDepth 100000 in
set_option maxHeartbeats 2000000 in
theorem sKeyBoxBad_c (s : ByteArray) (hs : s.size ≤ 1048576) (hk : keyOk s = false) (w : World) : Calls Tryd.prog 17 #[.string s] w (Ret (bxQ 0 0 0 0 false) w) := by
  have HS := Lib.hid (l07Is_c s hs)
  rw [hk] at HS
  go_enter Tryd.func17, Tryd.ntmps17
  go_upto_region 1 with fail
  go_wp2_with ((go_at_call 27; (with_reducible refine (HS.out _).mono ?_); rintro e wa ⟨⟨v, rfl, rfl⟩, hb_wa⟩; have hs_wa := hb_wa.size; (try simp at hs_wa)); have tA : two wa w.heap.size 0 0 := ((two.new w 0 0).alloc _).below hb_wa; have tB : two wa (w.heap.size + 1) 0 0 := (two.newAt (w := w.alloc (.cells #[.float .f32 0, .float .f32 0] 31)) (by simp)).below hb_wa; have x0 := tA.c0; have x1 := tA.c1; have x2 := tB.c0; have x3 := tB.c1; have z0 := tA.fr 0; have z1 := tA.fr 1; have z2 := tB.fr 0; have z3 := tB.fr 1; have q1 := tA.lt; have q2 := tB.lt)
  refine bodyPost_ret (v := .tuple #[.agg #[.float .f32 0, .float .f32 0], .agg #[.float .f32 0, .float .f32 0], .bool false]) (by simp [results, Tryd.results17, go_sem, *] <;> (first | rfl | exact ⟨rfl, rfl⟩ | exact ⟨rfl, rfl, rfl⟩ | exact ⟨rfl, rfl, rfl, rfl⟩)) rfl ?_
  exact ⟨⟨_, rfl, 0, 0, 0, 0, rfl, by simp, by simp, by simp, by simp⟩, by (with_reducible repeat (first | exact Below.refl _ _ | apply below_alloc | apply below_dN | apply below_d | refine below_setCell ?_ (by dsimp only; omega) | refine below_call (by assumption) ?_))⟩
set_option maxRecDepth 100000 in
set_option maxHeartbeats 2000000 in
theorem iKeyBoxBad_c (s : ByteArray) (hs : s.size ≤ 1048576) (hk : keyOk s = false) (w : World) : Calls Tryd.prog 18 #[.string s] w (Ret (bxQ 0 0 0 0 false) w) := by
  have HS := Lib.hid (iIsKey_c s hs)
  rw [hk] at HS
  go_enter Tryd.func18, Tryd.ntmps18
  go_upto_region 1 with fail
  go_wp2_with ((go_at_call 10; (with_reducible refine (HS.out _).mono ?_); rintro e wa ⟨⟨v, rfl, rfl⟩, hb_wa⟩; have hs_wa := hb_wa.size; (try simp at hs_wa)); have tA : two wa w.heap.size 0 0 := ((two.new w 0 0).alloc _).below hb_wa; have tB : two wa (w.heap.size + 1) 0 0 := (two.newAt (w := w.alloc (.cells #[.float .f32 0, .float .f32 0] 31)) (by simp)).below hb_wa; have x0 := tA.c0; have x1 := tA.c1; have x2 := tB.c0; have x3 := tB.c1; have z0 := tA.fr 0; have z1 := tA.fr 1; have z2 := tB.fr 0; have z3 := tB.fr 1; have q1 := tA.lt; have q2 := tB.lt)
  refine bodyPost_ret (v := .tuple #[.agg #[.float .f32 0, .float .f32 0], .agg #[.float .f32 0, .float .f32 0], .bool false]) (by simp [results, Tryd.results18, go_sem, *] <;> (first | rfl | exact ⟨rfl, rfl⟩ | exact ⟨rfl, rfl, rfl⟩ | exact ⟨rfl, rfl, rfl, rfl⟩)) rfl ?_
  exact ⟨⟨_, rfl, 0, 0, 0, 0, rfl, by simp, by simp, by simp, by simp⟩, by (with_reducible repeat (first | exact Below.refl _ _ | apply below_alloc | apply below_dN | apply below_d | refine below_setCell ?_ (by dsimp only; omega) | refine below_call (by assumption) ?_))⟩
theorem keyBox_any (s : ByteArray) (hs : s.size ≤ 1048576) : ∃ a b c d ok,
    (∀ w, Calls Tryd.prog 17 #[.string s] w (Ret (bxQ a b c d ok) w)) ∧ (∀ w, Calls Tryd.prog 18 #[.string s] w (Ret (bxQ a b c d ok) w)) := by
  cases hk : keyOk s
  · exact ⟨0, 0, 0, 0, false, sKeyBoxBad_c s hs hk, iKeyBoxBad_c s hs hk⟩
  · obtain ⟨a, b, c, d, h⟩ := keyBox_both s hs hk
    exact ⟨a, b, c, d, true, h⟩
set_option maxRecDepth 100000 in
set_option maxHeartbeats 4000000 in
theorem lawKeyBox (s : ByteArray) (w : World) : Calls Tryd.prog 7 #[.string s] w fun e w' => e = .returned (.bool true) ∧ Below w.heap.size w w' := by
  by_cases hs : s.size ≤ 1048576
  · have h1 : ¬ ((1048576 : Int) < (s.size : Int)) := by omega
    obtain ⟨a, b, c, d, ok, sH0, iH0⟩ := keyBox_any s hs
    have sH := Lib.hid sH0
    have iH := Lib.hid iH0
    clear sH0 iH0
    go_enter Tryd.func7, Tryd.ntmps7
    go_wp2_with fail
    (go_at_call 17; refine (sH.out _).mono ?_; rintro e w2 ⟨⟨_, rfl, s1, s2, s3, s4, rfl, k1, k2, k3, k4⟩, hb2⟩)
    have hs2 := hb2.size
    go_wp2_with fail
    have u4 := (two.new w2 s1 s2).alloc (.cells #[.float .f32 s3, .float .f32 s4] 31)
    have u5 : two ((w2.alloc (.cells #[.float .f32 s1, .float .f32 s2] 31)).alloc (.cells #[.float .f32 s3, .float .f32 s4] 31)) (w2.heap.size + 1) s3 s4 := two.newAt (by simp)
    (go_at_call 18; refine (iH.out _).mono ?_; rintro e w5 ⟨⟨_, rfl, t1, t2, t3, t4, rfl, l1, l2, l3, l4⟩, hb5⟩)
    have hB5 : Below w.heap.size w w5 := by (with_reducible repeat (first | exact Below.refl _ _ | apply below_alloc | apply below_dN | apply below_d | refine below_setCell ?_ (by dsimp only; omega) | refine below_call (by assumption) ?_))
    have y4 := u4.below hb5
    have y5 := u5.below hb5
    have hs5 := hB5.size
    have hc4 := y4.c0
    have hd4 := y4.c1
    have he4 := y4.lt
    have he5 := y5.lt
    go_wp2_with fail
    have z8 := (two.new w5 t1 t2).alloc (.cells #[.float .f32 t3, .float .f32 t4] 31)
    have z9 : two ((w5.alloc (.cells #[.float .f32 t1, .float .f32 t2] 31)).alloc (.cells #[.float .f32 t3, .float .f32 t4] 31)) (w5.heap.size + 1) t3 t4 := two.newAt (by simp)
    have z5 := (y5.alloc (.cells #[.float .f32 t1, .float .f32 t2] 31)).alloc (.cells #[.float .f32 t3, .float .f32 t4] 31)
    have hB6 : Below w.heap.size w ((w5.alloc (.cells #[.float .f32 t1, .float .f32 t2] 31)).alloc (.cells #[.float .f32 t3, .float .f32 t4] 31)) := by (with_reducible repeat (first | exact Below.refl _ _ | apply below_alloc | apply below_dN | apply below_d | refine below_setCell ?_ (by dsimp only; omega) | refine below_call (by assumption) ?_))
    (go_at_call 19; refine (eqPlace_c _ _ _ _ _ _ l1 l2 k1 k2 _).mono ?_; rintro e w6 ⟨⟨_, rfl, rfl⟩, hb6⟩)
    have q9 := z9.below hb6
    have q5 := z5.below hb6
    have hB7 := hB6.trans (hb6.mono hB6.size)
    have i0 := q9.c0
    have i1 := q9.c1
    have i2 := q5.c0
    have i3 := q5.c1
    go_wp2_with fail
    (go_at_call 19; refine (eqPlace_c _ _ _ _ _ _ l3 l4 k3 k4 _).mono ?_; rintro e w7 ⟨⟨_, rfl, rfl⟩, hb7⟩)
    have hB8 := hB7.trans (hb7.mono hB7.size)
    go_wp2
    go_ret
    exact ⟨rfl, hB8⟩
  · have h1 : (1048576 : Int) < (s.size : Int) := by omega
    go_enter Tryd.func7, Tryd.ntmps7
    go_wp2
    go_ret
    exact ⟨rfl, by (with_reducible repeat (first | exact Below.refl _ _ | apply below_alloc | apply below_dN | apply below_d | refine below_setCell ?_ (by dsimp only; omega) | refine below_call (by assumption) ?_))⟩
end Go.Proofs.YteecbhmgogndaaaDoor
