/- The law of BoxOfPlaces. No condition. -/
import Derived.Test.YtiaebemlcjjjhaaBoxI
import Derived.Test.YtiaebemlcjjjhaaCT
namespace Go.Proofs.Ytiaebemlcjjjhaa
open Go.RowKit
set_option linter.unusedSimpArgs false

def bxQ (a b c d : Nat) (ok : Bool) (v : Value) : Prop := ∃ r1 r2 r3 r4, v = .tuple #[.agg #[.float .f32 r1, .float .f32 r2], .agg #[.float .f32 r3, .float .f32 r4], .bool ok] ∧ cn .f32 r1 = a ∧ cn .f32 r2 = b ∧ cn .f32 r3 = c ∧ cn .f32 r4 = d
theorem box_both (n : Nat) (X Y : Nat → Nat) (hn : n ≤ 1048576) : ∃ a b c d ok,
    (∀ g w, g < w.heap.size → PlCells w g n X Y → Calls Try.prog 44 #[.slice (some ⟨g, 0, none⟩) n n] w (Ret (bxQ a b c d ok) w)) ∧
    (∀ g w, g < w.heap.size → PlCells w g n X Y → Calls Try.prog 45 #[.slice (some ⟨g, 0, none⟩) n n] w (Ret (bxQ a b c d ok) w)) :=
  ⟨_, _, _, _, _, fun g w hb h => sBox_c g n n X Y w hb hn h, fun g w hb h => iBox_c g n n X Y w hb hn h⟩

set_option maxRecDepth 100000 in
set_option maxHeartbeats 4000000 in
theorem lawBox (A : Option Addr) (n cap : Nat) (x y : Nat → Nat) (w : World) (hn0 : n ≤ 9223372036854775807) (hA : PlArg w A n x y) :
    Calls Try.prog 13 #[.slice A n cap] w fun e w' => e = .returned (.bool true) ∧ Below w.heap.size w w' := by
  by_cases hn : n ≤ 1048576
  · have hsz := fun w => szPlaceS_c A n cap 1048576 (by decide) (by decide) hn0 w
    rw [if_neg (by omega)] at hsz
    have hl0 : ¬ (1048576 - (n : Int) < 0) := by omega
    have HS := Lib.hid hsz
    have HA := Lib.hid hA
    clear hsz hA
    have HT := Lib.hid (fun w' (hB : Below w.heap.size w w') => toPlaceS_c A n cap x y w' hn (HA.out.below hB))
    obtain ⟨a, b, c, d, ok, sH0, iH0⟩ := box_both n (canon x) (canon y) hn
    have sH := Lib.hid sH0
    have iH := Lib.hid iH0
    clear sH0 iH0
    go_enter Try.func13, Try.ntmps13
    go_upto_region 5 with (go_at_call 39; refine (HS.out _).mono ?_; rintro e w' ⟨rfl, rfl⟩)
    go_wp2_with fail
    (go_at_call 41; refine (HT.out _ (by (with_reducible repeat (first | exact Below.refl _ _ | apply below_alloc | apply below_dN | apply below_d | refine below_setCell ?_ (by dsimp only; omega) | refine below_call (by assumption) ?_)))).mono ?_; rintro e w1 ⟨b1, rfl, hge_b1, hblk_b1, hbw_b1⟩)
    go_wp2_with fail
    (go_at_call 44; refine (sH.out b1 _ hblk_b1.lt hblk_b1.canon).mono ?_; rintro e w2 ⟨⟨_, rfl, s1, s2, s3, s4, rfl, k1, k2, k3, k4⟩, hb2⟩)
    have hB2 : Below w.heap.size w w2 := hbw_b1.trans (hb2.mono hbw_b1.size)
    have hs2 := hB2.size
    go_wp2_with fail
    have u4 := (two.new w2 s1 s2).alloc (.cells #[.float .f32 s3, .float .f32 s4] 27)
    have u5 : two ((w2.alloc (.cells #[.float .f32 s1, .float .f32 s2] 27)).alloc (.cells #[.float .f32 s3, .float .f32 s4] 27)) (w2.heap.size + 1) s3 s4 := two.newAt (by simp)
    have hB3 : Below w.heap.size w ((w2.alloc (.cells #[.float .f32 s1, .float .f32 s2] 27)).alloc (.cells #[.float .f32 s3, .float .f32 s4] 27)) := by (with_reducible repeat (first | exact Below.refl _ _ | apply below_alloc | apply below_dN | apply below_d | refine below_setCell ?_ (by dsimp only; omega) | refine below_call (by assumption) ?_))
    (go_at_call 41; refine (HT.out _ hB3).mono ?_; rintro e w4 ⟨b4, rfl, hge_b4, hblk_b4, hbw_b4⟩)
    have hB4 := hB3.trans (hbw_b4.mono hB3.size)
    have v4 := u4.below hbw_b4
    have v5 := u5.below hbw_b4
    go_wp2_with fail
    (go_at_call 45; refine (iH.out b4 _ hblk_b4.lt hblk_b4.canon).mono ?_; rintro e w5 ⟨⟨_, rfl, t1, t2, t3, t4, rfl, l1, l2, l3, l4⟩, hb5⟩)
    have hB5 := hB4.trans (hb5.mono hB4.size)
    have y4 := v4.below hb5
    have y5 := v5.below hb5
    have hs5 := hB5.size
    have hc4 := y4.c0
    have hd4 := y4.c1
    have he4 := y4.lt
    have he5 := y5.lt
    have hBl := hblk_b4.below hb5 hblk_b4.lt
    go_wp2_with fail
    have z8 := (two.new w5 t1 t2).alloc (.cells #[.float .f32 t3, .float .f32 t4] 27)
    have z9 : two ((w5.alloc (.cells #[.float .f32 t1, .float .f32 t2] 27)).alloc (.cells #[.float .f32 t3, .float .f32 t4] 27)) (w5.heap.size + 1) t3 t4 := two.newAt (by simp)
    have z5 := (y5.alloc (.cells #[.float .f32 t1, .float .f32 t2] 27)).alloc (.cells #[.float .f32 t3, .float .f32 t4] 27)
    have hB6 : Below w.heap.size w ((w5.alloc (.cells #[.float .f32 t1, .float .f32 t2] 27)).alloc (.cells #[.float .f32 t3, .float .f32 t4] 27)) := by (with_reducible repeat (first | exact Below.refl _ _ | apply below_alloc | apply below_dN | apply below_d | refine below_setCell ?_ (by dsimp only; omega) | refine below_call (by assumption) ?_))
    have hBm : PlBlk ((w5.alloc (.cells #[.float .f32 t1, .float .f32 t2] 27)).alloc (.cells #[.float .f32 t3, .float .f32 t4] 27)) b4 n x y := World.rowIs.alloc (World.rowIs.alloc hBl _) _
    (go_at_call 24; refine (eqPlace_c _ _ _ _ _ _ l1 l2 k1 k2 _).mono ?_; rintro e w6 ⟨⟨_, rfl, rfl⟩, hb6⟩)
    have q9 := z9.below hb6
    have q5 := z5.below hb6
    have hB7 := hB6.trans (hb6.mono hB6.size)
    have hBn := hBm.below hb6 hBm.lt
    have i0 := q9.c0
    have i1 := q9.c1
    have i2 := q5.c0
    have i3 := q5.c1
    go_wp2_with fail
    (go_at_call 24; refine (eqPlace_c _ _ _ _ _ _ l3 l4 k3 k4 _).mono ?_; rintro e w7 ⟨⟨_, rfl, rfl⟩, hb7⟩)
    have hB8 := hB7.trans (hb7.mono hB7.size)
    have hBo := hBn.below hb7 hBn.lt
    go_wp2_with fail
    (go_at_call 41; refine (HT.out _ hB8).mono ?_; rintro e w8 ⟨b8, rfl, hge_b8, hblk_b8, hbw_b8⟩)
    have hB9 := hB8.trans (hbw_b8.mono hB8.size)
    have hBp := hBo.below hbw_b8 hBo.lt
    go_wp2_with fail
    (go_at_call 43; refine (eqPlaceS_c b4 b8 _ _ _ _ _ _ hn hBp.lt hblk_b8.lt hBp.canon hblk_b8.canon).mono ?_; rintro e wi ⟨⟨v, rfl, rfl⟩, hbi⟩)
    go_wp2
    go_ret
    exact ⟨rfl, hB9.trans (hbi.mono hB9.size)⟩
  · have hsz := szPlaceS_c A n cap 1048576 (by decide) (by decide) hn0
    rw [if_pos (by omega)] at hsz
    have HS := Lib.hid hsz
    clear hsz hA
    go_enter Try.func13, Try.ntmps13
    go_wp2_with (go_at_call 39; refine (HS.out _).mono ?_; rintro e w' ⟨rfl, rfl⟩)
    go_ret
    exact ⟨rfl, by (with_reducible repeat (first | exact Below.refl _ _ | apply below_alloc | apply below_dN | apply below_d | refine below_setCell ?_ (by dsimp only; omega) | refine below_call (by assumption) ?_))⟩
end Go.Proofs.Ytiaebemlcjjjhaa
