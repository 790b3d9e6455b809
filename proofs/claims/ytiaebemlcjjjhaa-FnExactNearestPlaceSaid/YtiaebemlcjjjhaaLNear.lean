/- The law of NearestPlace. No condition. -/
import Derived.Test.YtiaebemlcjjjhaaNear
import Derived.Deep.RegionHeld3
namespace Go.Proofs.Ytiaebemlcjjjhaa
open Go.RowKit
set_option linter.unusedSimpArgs false

/-- What a region holds on to: two cells, and nothing turned below. -/
def KeepP (w0 : World) (b : Nat) (p q : Value) (w' : World) : Prop := w'.cell? ⟨b, 0, none⟩ = some p ∧ w'.cell? ⟨b, 1, none⟩ = some q ∧ b < w'.heap.size ∧ Below w0.heap.size w0 w'
theorem KeepP.call {w0 w1 w2 : World} {b : Nat} {p q : Value} (h : KeepP w0 b p q w1) (hz : w0.heap.size ≤ w1.heap.size) (hb : Below w1.heap.size w1 w2) : KeepP w0 b p q w2 :=
  ⟨(hb.cell (p := ⟨b, 0, none⟩) h.2.2.1).trans h.1, (hb.cell (p := ⟨b, 1, none⟩) h.2.2.1).trans h.2.1, Nat.lt_of_lt_of_le h.2.2.1 hb.size, h.2.2.2.trans (hb.mono hz)⟩

theorem and4 {P Q R T : Prop} (h : P ∧ Q ∧ R ∧ T) : T := h.2.2.2
theorem keep4 {w0 w1 w2 : World} {b : Nat} {p q : Value} (h : w1.cell? ⟨b, 0, none⟩ = some p ∧ w1.cell? ⟨b, 1, none⟩ = some q ∧ b < w1.heap.size ∧ Below w0.heap.size w0 w1) (hb : Below w1.heap.size w1 w2) : w2.cell? ⟨b, 0, none⟩ = some p ∧ w2.cell? ⟨b, 1, none⟩ = some q ∧ b < w2.heap.size ∧ Below w0.heap.size w0 w2 :=
  KeepP.call h h.2.2.2.size hb

def nearQ (K : Int) (L : Nat) (ok : Bool) (v : Value) : Prop := ∃ r, v = .tuple #[.int .i64 K, .float .f32 r, .bool ok] ∧ cn .f32 r = L ∧ okf .f32 r
theorem near_both (n p q : Nat) (X Y : Nat → Nat) (hn : n ≤ 1048576) : ∃ K L ok,
    (∀ b w, b < w.heap.size → PlCells w b n X Y → Calls Try.prog 40 #[.slice (some ⟨b, 0, none⟩) n n, .agg #[.float .f32 p, .float .f32 q]] w (Ret (nearQ K L ok) w)) ∧
    (∀ b w, b < w.heap.size → PlCells w b n X Y → Calls Try.prog 42 #[.slice (some ⟨b, 0, none⟩) n n, .agg #[.float .f32 p, .float .f32 q]] w (Ret (nearQ K L ok) w)) :=
  ⟨_, _, _, fun b w hb h => sNear_c b n n p q _ _ X Y rfl rfl w hb hn h, fun b w hb h => iNear_c b n n p q _ _ X Y rfl rfl w hb hn h⟩

set_option maxRecDepth 100000 in
set_option maxHeartbeats 4000000 in
theorem lawNear (A : Option Addr) (n cap p q : Nat) (x y : Nat → Nat) (w : World) (hn0 : n ≤ 9223372036854775807) (hA : PlArg w A n x y) (hwp : (Lit.float .f32 p).wf = true) (hwq : (Lit.float .f32 q).wf = true) :
    Calls Try.prog 12 #[.slice A n cap, .agg #[.float .f32 p, .float .f32 q]] w fun e w' => e = .returned (.bool true) ∧ Below w.heap.size w w' := by
  by_cases hn : n ≤ 1048576
  · have hsz := fun w => szPlaceS_c A n cap 1048576 (by decide) (by decide) hn0 w
    rw [if_neg (by omega)] at hsz
    have hl0 : ¬ (1048576 - (n : Int) < 0) := by omega
    have HS := Lib.hid hsz
    have HA := Lib.hid hA
    clear hsz hA
    have HT := Lib.hid (fun w' (hB : Below w.heap.size w w') => toPlaceS_c A n cap x y w' hn (HA.out.below hB))
    obtain ⟨K, L, ok, sH0, iH0⟩ := near_both n p q (canon x) (canon y) hn
    have sH := Lib.hid sH0
    have iH := Lib.hid iH0
    clear sH0 iH0
    go_enter Try.func12, Try.ntmps12
    go_upto_region 5 with (go_at_call 39; refine (HS.out _).mono ?_; rintro e w' ⟨rfl, rfl⟩)
    go_region_held3 (fun w' => w'.cell? ⟨w.heap.size, 0, none⟩ = some (.float .f32 p) ∧ w'.cell? ⟨w.heap.size, 1, none⟩ = some (.float .f32 q) ∧ w.heap.size < w'.heap.size ∧ Below w.heap.size w w') (first | (exact keep4 (by assumption) (by assumption)) | (exact ⟨by simp, by simp, by simp, by (with_reducible repeat (first | exact Below.refl _ _ | apply below_alloc | apply below_dN | apply below_d | refine below_setCell ?_ (by dsimp only; omega) | refine below_call (by assumption) ?_))⟩))
      (first | (go_at_call 41; refine (HT.out _ (and4 (by assumption))).mono ?_; rintro e wa ⟨ba, rfl, hge_a, hblk_a, hbw_a⟩) | (go_at_call 20; (with_reducible refine (toPlace_any _ _ _).mono ?_); rintro e wb ⟨rfl, hbw_b⟩) | (go_at_call 40; refine (sH.out ba _ (Nat.lt_of_lt_of_le hblk_a.lt hbw_b.size) (hblk_a.below hbw_b hblk_a.lt).canon).mono ?_; rintro e wc ⟨⟨_, rfl, rs, rfl, hrs, hws⟩, hbc⟩))
    have hKc : KeepP w w.heap.size (.float .f32 p) (.float .f32 q) wc := (show (wc.cell? ⟨w.heap.size, 0, none⟩ = some (.float .f32 p) ∧ wc.cell? ⟨w.heap.size, 1, none⟩ = some (.float .f32 q) ∧ w.heap.size < wc.heap.size ∧ Below w.heap.size w wc) by assumption)
    go_wp2_with fail
    (go_at_call 41; refine (HT.out _ hKc.2.2.2).mono ?_; rintro e wd ⟨bd, rfl, hge_bd, hblk_bd, hbw_bd⟩)
    have hKd := hKc.call hKc.2.2.2.size hbw_bd
    have t0 := hKd.1
    have t1 := hKd.2.1
    go_wp2_with fail
    (go_at_call 20; (with_reducible refine (toPlace_any _ _ _).mono ?_); rintro e we ⟨rfl, hbw_e⟩)
    have hKe := hKd.call hKd.2.2.2.size hbw_e
    go_wp2_with fail
    (go_at_call 42; refine (iH.out bd _ (Nat.lt_of_lt_of_le hblk_bd.lt hbw_e.size) (hblk_bd.below hbw_e hblk_bd.lt).canon).mono ?_; rintro e wf ⟨⟨_, rfl, rg, rfl, hrg, hwg⟩, hbf⟩)
    have hKf := hKe.call hKe.2.2.2.size hbf
    go_wp2_with (first | (go_at_call 30; refine (sameFloat_c _ _ _ (by assumption) (by simp only [*]) _).mono ?_; rintro e wg ⟨⟨_, rfl, rfl⟩, hbg⟩) | (refine wpL_fconv_fits rfl 22 50 _ rfl .f32 .f64 _ rfl (by decide) Try.underlying22 Try.underlying50 (fits_wide _) ?_; intro r n hr hw))
    have hg0 : Below wf.heap.size wf wg := by (with_reducible repeat (first | exact Below.refl _ _ | apply below_alloc | apply below_dN | apply below_d | refine below_setCell ?_ (by dsimp only; omega) | refine below_call (by assumption) ?_))
    have hKg := hKf.call hKf.2.2.2.size hg0
    (go_at_call 41; refine (HT.out _ hKg.2.2.2).mono ?_; rintro e wh ⟨bh, rfl, hge_bh, hblk_bh, hbw_bh⟩)
    have hKh := hKg.call hKg.2.2.2.size hbw_bh
    have q1 := hblk_bd.below hbw_e hblk_bd.lt
    have q2 := q1.below hbf q1.lt
    have q3 := q2.below hg0 q2.lt
    have q4 := q3.below hbw_bh q3.lt
    go_wp2_with fail
    (go_at_call 43; refine (eqPlaceS_c bd bh _ _ _ _ _ _ hn q4.lt hblk_bh.lt q4.canon hblk_bh.canon).mono ?_; rintro e wi ⟨⟨v, rfl, rfl⟩, hbi⟩)
    go_wp2
    go_ret
    exact ⟨rfl, (hKh.call hKh.2.2.2.size hbi).2.2.2⟩
  · have hsz := szPlaceS_c A n cap 1048576 (by decide) (by decide) hn0
    rw [if_pos (by omega)] at hsz
    have HS := Lib.hid hsz
    clear hsz hA
    go_enter Try.func12, Try.ntmps12
    go_wp2_with (go_at_call 39; refine (HS.out _).mono ?_; rintro e w' ⟨rfl, rfl⟩)
    go_ret
    exact ⟨rfl, by (with_reducible repeat (first | exact Below.refl _ _ | apply below_alloc | apply below_dN | apply below_d | refine below_setCell ?_ (by dsimp only; omega) | refine below_call (by assumption) ?_))⟩
end Go.Proofs.Ytiaebemlcjjjhaa
