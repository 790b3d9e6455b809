/- Contract of impl's routes. No condition. -/
import Derived.Test.YtpmeccjfjjklkaaRtI
import Derived.Test.YtpmeccjfjjklkaaNetL
namespace Go.Proofs.Ytpmeccjfjjklkaa
open Go.RowKit
set_option linter.unusedSimpArgs false
theorem longOf_c (a b l : Int) (w : World) : Calls Try.prog 64 #[.agg #[.int .i64 a, .int .i64 b, .int .i64 l]] w fun e w' => e = .returned (.int .i64 l) ∧ Below w.heap.size w w' := by
  go_enter Try.func64, Try.ntmps64
  go_wp2
  go_ret
  exact ⟨rfl, by (with_reducible repeat (first | exact Below.refl _ _ | apply below_alloc | apply below_dN | apply below_d | refine below_setCell ?_ (by dsimp only; omega) | refine below_call (by assumption) ?_))⟩
theorem fl_dr {w : World} {q n : Nat} (h : w.heap[q]? = some (.cells (fl n n).toArray 2 (0, 0))) : Dr w q n n (fun _ => -1) :=
  ⟨fun i => if i < n then .int .i64 (-1) else .int .i64 0, ⟨(fl n n).toArray, h, by simp [fl], fun i hi => by simp only [if_pos hi]; simpa using fl_at hi⟩, Nat.le_refl _, fun j hj => by simp only [if_pos hj]⟩
/-- A road's copy and its two ways. -/
def rcp (w : World) (r : Nat) (A B L : Int) : Prop := w.rowIs r 69 3 (fun i => .int .i64 (if i = 0 then A else if i = 1 then B else L))
def wys (w : World) (r : Nat) (A B : Int) : Prop := w.rowIs r 96 4 (fun i => .int .i64 (if i = 0 ∨ i = 3 then A else B))
theorem rcp.c0 {w : World} {r : Nat} {A B L : Int} (h : rcp w r A B L) : w.cell? ⟨r, 0, none⟩ = some (.int .i64 A) := World.rowIs.cell h (i := 0) (by omega)
theorem rcp.c1 {w : World} {r : Nat} {A B L : Int} (h : rcp w r A B L) : w.cell? ⟨r, 1, none⟩ = some (.int .i64 B) := World.rowIs.cell h (i := 1) (by omega)
theorem rcp.c2 {w : World} {r : Nat} {A B L : Int} (h : rcp w r A B L) : w.cell? ⟨r, 2, none⟩ = some (.int .i64 L) := World.rowIs.cell h (i := 2) (by omega)
theorem rcp.lt {w : World} {r : Nat} {A B L : Int} (h : rcp w r A B L) : r < w.heap.size := World.rowIs.lt h
theorem wys.lt {w : World} {r : Nat} {A B : Int} (h : wys w r A B) : r < w.heap.size := World.rowIs.lt h
theorem rcp.below {w w' : World} {r : Nat} {A B L : Int} (h : rcp w r A B L) (hb : Below w.heap.size w w') : rcp w' r A B L := World.rowIs.of_block h (hb.block r h.lt)
theorem wys.below {w w' : World} {r : Nat} {A B : Int} (h : wys w r A B) (hb : Below w.heap.size w w') : wys w' r A B := World.rowIs.of_block h (hb.block r h.lt)
theorem rcp.other {w : World} {r : Nat} {A B L : Int} (h : rcp w r A B L) {c i : Nat} (hne : r ≠ c) (z : Value) : rcp (w.setCell ⟨c, i, none⟩ z) r A B L := World.rowIs.setOther h (a := ⟨c, i, none⟩) hne z
theorem wys.other {w : World} {r : Nat} {A B : Int} (h : wys w r A B) {c i : Nat} (hne : r ≠ c) (z : Value) : wys (w.setCell ⟨c, i, none⟩ z) r A B := World.rowIs.setOther h (a := ⟨c, i, none⟩) hne z
theorem rcp.alloc {w : World} {r : Nat} {A B L : Int} (h : rcp w r A B L) (o : Obj) : rcp (w.alloc o) r A B L := World.rowIs.alloc h o
theorem rcp.newAt {w : World} {r : Nat} {A B L : Int} (hr : r = w.heap.size) : rcp (w.alloc (.cells #[.int .i64 A, .int .i64 B, .int .i64 L] 69)) r A B L := by
  subst hr
  exact World.rowIs_alloc w _ _ _ (fun i hi => by
    match i, hi with
    | 0, _ => rfl
    | 1, _ => rfl
    | 2, _ => rfl)
theorem wys.newAt {w : World} {r : Nat} {A B : Int} (hr : r = w.heap.size) : wys (w.alloc (.cells #[.int .i64 A, .int .i64 B, .int .i64 B, .int .i64 A] 96)) r A B := by
  subst hr
  exact World.rowIs_alloc w _ _ _ (fun i hi => by
    match i, hi with
    | 0, _ => rfl
    | 1, _ => rfl
    | 2, _ => rfl
    | 3, _ => rfl)
/-- A road's two ways, in their order. -/
def xw (A B j : Nat) : Nat := if j = 0 then A else B
def ws (A B : Nat) (L : Int) (e : Nat → Int) (f : Bool) : Nat → (Nat → Int) × Bool
  | 0 => (e, f)
  | j + 1 => (rl (ws A B L e f j).1 (xw A B j) (xw B A j) L, (ws A B L e f j).2 || rlc (ws A B L e f j).1 (xw A B j) (xw B A j) L)
theorem ws_two (a b : Nat → Nat) (l : Nat → Int) (d : Nat → Int) (k : Nat) : ws (a k) (b k) (l k) (ps a b l d k).1 (ps a b l d k).2 2 = ps a b l d (k + 1) := rfl
theorem ws_inv {n A B : Nat} {L : Int} {e : Nat → Int} {f : Bool} (h : Inv n e) (hn : n ≤ 64) (hA : A < n) (hB : B < n) (h1 : 1 ≤ L) (h2 : L ≤ 1000000) : ∀ j, Inv n (ws A B L e f j).1
  | 0 => h
  | j + 1 => (rl_le (ws_inv h hn hA hB h1 h2 j) hn (by unfold xw; split <;> assumption) (by unfold xw; split <;> assumption) h1 h2).1
theorem wys.cx {w : World} {r A B : Nat} (h : wys w r A B) {j : Nat} (hj : j < 2) : w.cell? ⟨r, j * 2, none⟩ = some (.int .i64 (xw A B j : Int)) ∧ w.cell? ⟨r, j * 2 + 1, none⟩ = some (.int .i64 (xw B A j : Int)) := by
  have h0 := World.rowIs.cell h (i := j * 2) (by omega)
  have h1 := World.rowIs.cell h (i := j * 2 + 1) (by omega)
  have e : j = 0 ∨ j = 1 := by omega
  rcases e with rfl | rfl
  · exact ⟨h0, h1⟩
  · exact ⟨h0, h1⟩
def SR (w : World) (r q x : Nat) (A B L va : Int) : Prop := w.cell? ⟨r, 0, none⟩ = some (.int .i64 A) ∧ w.cell? ⟨r, 1, none⟩ = some (.int .i64 B) ∧ w.cell? ⟨r, 2, none⟩ = some (.int .i64 L) ∧ w.cell? ⟨q, x, none⟩ = some (.int .i64 va) ∧ (r < w.heap.size ∧ q < w.heap.size)
theorem SR.below {w w' : World} {r q x : Nat} {A B L va : Int} (hb : Below w.heap.size w w') (h : SR w r q x A B L va) : SR w' r q x A B L va :=
  ⟨(hb.cell (p := ⟨r, 0, none⟩) h.2.2.2.2.1).trans h.1, (hb.cell (p := ⟨r, 1, none⟩) h.2.2.2.2.1).trans h.2.1, (hb.cell (p := ⟨r, 2, none⟩) h.2.2.2.2.1).trans h.2.2.1, (hb.cell (p := ⟨q, x, none⟩) h.2.2.2.2.2).trans h.2.2.2.1, Nat.lt_of_lt_of_le h.2.2.2.2.1 hb.size, Nat.lt_of_lt_of_le h.2.2.2.2.2 hb.size⟩
theorem SR.set {w : World} {r q x y : Nat} {A B L va : Int} {v : Value} (hne : r ≠ q) (hxy : x ≠ y) (h : SR w r q x A B L va) : SR (w.setCell ⟨q, y, none⟩ v) r q x A B L va := by
  have n1 : ∀ i, (⟨q, y, none⟩ : Addr) ≠ ⟨r, i, none⟩ := by intro i e; injection e with e1; exact hne e1.symm
  have n3 : (⟨q, y, none⟩ : Addr) ≠ ⟨q, x, none⟩ := by intro e; injection e with e1 e2; exact hxy e2.symm
  have hs : (w.setCell ⟨q, y, none⟩ v).heap.size = w.heap.size := by simp [World.setCell]
  exact ⟨(World.cell?_setCell_other _ _ _ _ (n1 0)).trans h.1, (World.cell?_setCell_other _ _ _ _ (n1 1)).trans h.2.1, (World.cell?_setCell_other _ _ _ _ (n1 2)).trans h.2.2.1, (World.cell?_setCell_other _ _ _ _ n3).trans h.2.2.2.1, by rw [hs]; exact h.2.2.2.2.1, by rw [hs]; exact h.2.2.2.2.2⟩
set_option maxRecDepth 100000 in
set_option maxHeartbeats 8000000 in
theorem routes_c (g h n m cg ch : Nat) (X Y : Nat → Nat) (a b l : Nat → Int) (fr : Nat) (w : World) (hfr : fr < n) (hk : netOk n m X Y a b l = true) (hR : RdBlk w h m a b l) :
    Calls Try.prog 63 #[.agg #[.slice (some ⟨g, 0, none⟩) n cg, .slice (some ⟨h, 0, none⟩) m ch], .int .i64 fr, .func (.func 64) #[] #[]] w fun e w' => ∃ q cap, e = .returned (.slice (some ⟨q, 0, none⟩) n cap) ∧ w.heap.size ≤ q ∧ Dr w' q n cap (rt n m (eN a) (eN b) l fr) ∧ Below w.heap.size w w' := by
  obtain ⟨⟨hn1, hn⟩, hm, hRd, hab⟩ := netOk_facts hk
  have HREP := Lib.hid (fun bx w hx => repeat_c bx n hn1 hn w hx)
  have hR0 := hR.al (.cells #[.slice (some ⟨g, 0, none⟩) n cg, .slice (some ⟨h, 0, none⟩) m ch] 31)
  clear hk
  go_enter Try.func63, Try.ntmps63
  go_upto_region 2 with (go_at_call 78; (with_reducible refine (HREP.out (w.heap.size + 1) _ (by simp)).mono ?_); rintro e w1 ⟨q, rfl, hq, hF, hb1⟩)
  simp only [World.size_alloc] at hq
  obtain ⟨V, hV⟩ : ∃ V, w.alloc (.cells #[.slice (some ⟨g, 0, none⟩) n cg, .slice (some ⟨h, 0, none⟩) m ch] 31) = V := ⟨_, rfl⟩
  have hVs : V.heap.size = w.heap.size + 1 := by rw [← hV]; simp
  have hwV : Below w.heap.size w V := by rw [← hV]; (with_reducible repeat (first | exact Below.refl _ _ | apply below_alloc | apply below_dN | apply below_d | refine below_setCell ?_ (by dsimp only; omega) | refine below_call (by assumption) ?_))
  have hRV : RdBlk V h m a b l := by rw [← hV]; exact hR0
  have nV : ntc V w.heap.size (.slice (some ⟨g, 0, none⟩) n cg) (.slice (some ⟨h, 0, none⟩) m ch) := by rw [← hV]; exact ntc.newAt rfl
  rw [hV] at hb1
  have hB1 : Below V.heap.size V w1 := (((Below.refl _ _).alloc (Nat.le_refl _) _).trans (hb1.mono (by simp)))
  have hD0 := fl_dr hF
  have z0 := hD0.cell hfr
  have z1 := hD0.fr fr
  have z2 := hD0.lt
  have HD1 := Lib.hid (hD0.set fr 0)
  have hqV : V.heap.size < q := by omega
  have HB1 := Lib.hid (hB1.setCell (p := ⟨q, fr, none⟩) (show V.heap.size ≤ q by omega) (.int .i64 0))
  have hNV := Lib.hid nV
  have hhV : h < V.heap.size := hRV.lt
  have HRV := Lib.hid hRV
  clear hR0 hb1 hB1 hF hD0 nV hRV hR HREP
  go_wp2
  go_loopw [8] (fun fl wr => ∃ d c, fl = .bool c ∧ Dr wr q n n d ∧ Rel n m (eN a) (eN b) l (rt n m (eN a) (eN b) l fr) d c ∧ Below V.heap.size V wr) (fun fl wr => 2 * muw q n wr + bnat fl)
  case atStart => exact ⟨d0 fr, true, rfl, HD1.out.congr (fun j hj => rfl), Rel.start hfr, HB1.out⟩
  case round =>
    clear z0 z1 z2
    obtain ⟨d, c, rfl, hD, hRel, hBx⟩ := hrel
    have HRel := Lib.hid hRel
    have hNx := hNV.out.below hBx
    have n0 := hNx.c0
    have n1 := hNx.c1
    have n2 := hNx.lt
    have hmo := muw_eq hD
    cases c
    · have HD := Lib.hid hD
      have HBx := Lib.hid hBx
      clear hD hRel hBx hNx
      go_wp2
      go_ret
      exact ⟨q, n, rfl, by omega, by rw [← HRel.out.2.2 rfl]; exact HD.out, hwV.trans (HBx.out.mono (by omega))⟩
    · clear hRel hNx
      go_wp2
      clear n0 n1 n2
      go_loopw [8, 27] (fun fl kk wy => ∃ k : Nat, k ≤ m ∧ kk = .int .i64 k ∧ fl = .bool (ps (eN a) (eN b) l d k).2 ∧ Dr wy q n n (ps (eN a) (eN b) l d k).1 ∧ Below V.heap.size V wy) (fun _ kk _ => m - (intOf kk).toNat)
      case atStart => exact ⟨0, by omega, rfl, rfl, hD, hBx⟩
      case round =>
        clear hD hBx
        obtain ⟨k, hkm, rfl, rfl, hDk, hBk⟩ := hrel
        by_cases hlt2 : k < m
        · obtain ⟨hA1, hB1', hne1, hL1, hL2⟩ := hRd k hlt2
          obtain ⟨eA, eB⟩ := hab k hlt2
          have hps := (ps_ok hRd hn HRel.out.1 hkm).1
          have hws := ws_two (eN a) (eN b) l d k
          have hRdy := HRV.out.below hBk hhV
          have r0 := hRdy.c0 hlt2
          have r1 := hRdy.c1 hlt2
          have r2 := hRdy.c2 hlt2
          have hhl := hRdy.lt
          clear hRdy
          generalize (ps (eN a) (eN b) l d k).1 = e at *
          generalize (ps (eN a) (eN b) l d k).2 = f1 at *
          rw [eA] at r0
          rw [eB] at r1
          obtain ⟨A1, hA1e⟩ : ∃ x, eN a k = x := ⟨_, rfl⟩
          obtain ⟨B1, hB1e⟩ : ∃ x, eN b k = x := ⟨_, rfl⟩
          obtain ⟨L, eL⟩ : ∃ x, l k = x := ⟨_, rfl⟩
          rw [hA1e] at hA1 hne1 r0 hws
          rw [hB1e] at hB1' hne1 r1 hws
          rw [eL] at hL1 hL2 r2 hws
          have HWS := Lib.hid hws
          clear hws hA1e hB1e eA eB eL
          have hqs := hDk.lt
          have hVk := hBk.size
          obtain ⟨s0, hs0⟩ : ∃ x, wr.heap.size = x := ⟨_, rfl⟩
          have tR : rcp ((wr.alloc (.cells #[.int .i64 A1, .int .i64 B1, .int .i64 L] 69)).alloc (.cells #[.int .i64 A1, .int .i64 B1, .int .i64 B1, .int .i64 A1] 96)) s0 A1 B1 L := (rcp.newAt hs0.symm).alloc _
          have tW : wys ((wr.alloc (.cells #[.int .i64 A1, .int .i64 B1, .int .i64 L] 69)).alloc (.cells #[.int .i64 A1, .int .i64 B1, .int .i64 B1, .int .i64 A1] 96)) (s0 + 1) A1 B1 := wys.newAt (by simp [hs0])
          have hDk2 : Dr ((wr.alloc (.cells #[.int .i64 A1, .int .i64 B1, .int .i64 L] 69)).alloc (.cells #[.int .i64 A1, .int .i64 B1, .int .i64 B1, .int .i64 A1] 96)) q n n e := hDk.below (by (with_reducible repeat (first | exact Below.refl _ _ | apply below_alloc | apply below_dN | apply below_d | refine below_setCell ?_ (by dsimp only; omega) | refine below_call (by assumption) ?_)))
          have hBk2 : Below V.heap.size V ((wr.alloc (.cells #[.int .i64 A1, .int .i64 B1, .int .i64 L] 69)).alloc (.cells #[.int .i64 A1, .int .i64 B1, .int .i64 B1, .int .i64 A1] 96)) := by (with_reducible repeat (first | exact Below.refl _ _ | apply below_alloc | apply below_dN | apply below_d | refine below_setCell ?_ (by dsimp only; omega) | refine below_call (by assumption) ?_))
          have TR := Lib.hid tR
          have TW := Lib.hid tW
          have HDk2 := Lib.hid hDk2
          have HBk2 := Lib.hid hBk2
          have hsq : s0 ≠ q := by omega
          have hsq1 : s0 + 1 ≠ q := by omega
          clear tR tW hDk2 hBk2 hDk hBk
          go_wp2
          go_loopw [8, 43] (fun fl jj wz => ∃ j : Nat, j ≤ 2 ∧ jj = .int .i64 j ∧ fl = .bool (ws A1 B1 L e f1 j).2 ∧ Dr wz q n n (ws A1 B1 L e f1 j).1 ∧ rcp wz s0 A1 B1 L ∧ wys wz (s0 + 1) A1 B1 ∧ Below V.heap.size V wz) (fun _ jj _ => 2 - (intOf jj).toNat)
          case atStart => exact ⟨0, by omega, rfl, rfl, HDk2.out, TR.out, TW.out, HBk2.out⟩
          case round =>
            clear r0 r1 r2 hhl hqs hVk hs0
            obtain ⟨j, hj2, rfl, rfl, hDj, hRj, hWj, hBj⟩ := hrel
            by_cases hlt3 : j < 2
            · obtain ⟨w0', w1'⟩ := hWj.cx hlt3
              have hin := ws_inv (f := f1) hps hn hA1 hB1' hL1 hL2 j
              have hx0 : xw A1 B1 j < n := by unfold xw; split <;> assumption
              have hy0 : xw B1 A1 j < n := by unfold xw; split <;> assumption
              have hxy : xw A1 B1 j ≠ xw B1 A1 j := by unfold xw; split <;> omega
              have hst : ws A1 B1 L e f1 (j + 1) = (rl (ws A1 B1 L e f1 j).1 (xw A1 B1 j) (xw B1 A1 j) L, (ws A1 B1 L e f1 j).2 || rlc (ws A1 B1 L e f1 j).1 (xw A1 B1 j) (xw B1 A1 j) L) := rfl
              have HST := Lib.hid hst
              clear hst
              generalize (ws A1 B1 L e f1 j).1 = e2 at *
              generalize (ws A1 B1 L e f1 j).2 = f2 at *
              generalize xw A1 B1 j = x0 at *
              generalize xw B1 A1 j = y0 at *
              have hba := hin.bnd hn hx0
              have hbb := hin.bnd hn hy0
              obtain ⟨va, hva⟩ : ∃ v, e2 x0 = v := ⟨_, rfl⟩
              obtain ⟨vb, hvb⟩ : ∃ v, e2 y0 = v := ⟨_, rfl⟩
              rw [hva] at hba
              rw [hvb] at hbb
              have wl := hWj.lt
              have rl' := hRj.lt
              have ql := hDj.lt
              have hBjs := hBj.size
              have HDj := Lib.hid hDj
              have HRj := Lib.hid hRj
              have HWj := Lib.hid hWj
              have HBj := Lib.hid hBj
              clear hDj hRj hWj hBj
              go_wp2
              (refine region_below (by kernel_rfl) (by kernel_rfl) ?_; (repeat (first | go_big_quiet_step (fail) | quiet_step (fail))); refine wpQuiet_nil ?_; intro w1 hb; obtain ⟨hc, hfz⟩ := bcell hb; (try simp only [World.heap_drewN] at hc hfz); have hz := hb.size)
              have hBw : Below wr.heap.size wr w1 := ((Below.refl _ _).alloc (Nat.le_refl _) (.cells #[.int .i64 (x0 : Int), .int .i64 (y0 : Int)] 96)).trans (hb.mono (by simp))
              have hD1 := HDj.out.below hBw
              have hR1 := HRj.out.below hBw
              have hW1 := HWj.out.below hBw
              have hB1w := HBj.out.trans (hBw.mono (by omega))
              have ca := hD1.cell hx0
              have cb := hD1.cell hy0
              have q0 := hR1.c0
              have q1 := hR1.c1
              have q2 := hR1.c2
              have ql1 := hD1.lt
              have rl1 := hR1.lt
              rw [hva] at ca
              rw [hvb] at cb
              have HD1w := Lib.hid hD1
              have HR1w := Lib.hid hR1
              have HW1w := Lib.hid hW1
              have HB1w := Lib.hid hB1w
              clear hD1 hR1 hW1 hB1w hBw hb hc hfz w0' w1' wl rl' ql
              go_upto_region 13 with fail
              go_cut [77] (fun t wz => t = .bool (rlc e2 x0 y0 L) ∧ Below w1.heap.size w1 wz)
              case first =>
                by_cases k1 : 0 ≤ va
                · by_cases k2 : vb < 0
                  · have hrl : rlc e2 x0 y0 L = true := by unfold rlc; rw [hva, hvb]; simp [*]
                    have HRL := Lib.hid hrl
                    clear hrl hva hvb
                    (refine region_below (by kernel_rfl) (by kernel_rfl) ?_; (repeat (first | go_big_quiet_step ((go_at_call 64; exact Calls.regrown_of (longOf_c _ _ _ _))) | quiet_step ((go_at_call 64; exact Calls.regrown_of (longOf_c _ _ _ _))))); refine wpQuiet_nil ?_; intro w1 hb; obtain ⟨hc, hfz⟩ := bcell hb; (try simp only [World.heap_drewN] at hc hfz); have hz := hb.size)
                    go_wp2
                    go_meet
                    case rel => exact ⟨by rw [HRL.out], hb⟩
                  · by_cases k3 : va + L < vb
                    · have hrl : rlc e2 x0 y0 L = true := by unfold rlc; rw [hva, hvb]; simp [*]
                      have HRL := Lib.hid hrl
                      clear hrl hva hvb
                      (refine region_below (by kernel_rfl) (by kernel_rfl) ?_; (repeat (first | go_big_quiet_step ((go_at_call 64; exact Calls.regrown_of (longOf_c _ _ _ _))) | quiet_step ((go_at_call 64; exact Calls.regrown_of (longOf_c _ _ _ _))))); refine wpQuiet_nil ?_; intro w1 hb; obtain ⟨hc, hfz⟩ := bcell hb; (try simp only [World.heap_drewN] at hc hfz); have hz := hb.size)
                      go_wp2
                      go_meet
                      case rel => exact ⟨by rw [HRL.out], hb⟩
                    · have hrl : rlc e2 x0 y0 L = false := by unfold rlc; rw [hva, hvb]; simp [*]
                      have HRL := Lib.hid hrl
                      clear hrl hva hvb
                      (refine region_below (by kernel_rfl) (by kernel_rfl) ?_; (repeat (first | go_big_quiet_step ((go_at_call 64; exact Calls.regrown_of (longOf_c _ _ _ _))) | quiet_step ((go_at_call 64; exact Calls.regrown_of (longOf_c _ _ _ _))))); refine wpQuiet_nil ?_; intro w1 hb; obtain ⟨hc, hfz⟩ := bcell hb; (try simp only [World.heap_drewN] at hc hfz); have hz := hb.size)
                      go_wp2
                      go_meet
                      case rel => exact ⟨by rw [HRL.out], hb⟩
                · have hrl : rlc e2 x0 y0 L = false := by unfold rlc; rw [hva, hvb]; simp [*]
                  have HRL := Lib.hid hrl
                  clear hrl hva hvb
                  (refine region_below (by kernel_rfl) (by kernel_rfl) ?_; (repeat (first | go_big_quiet_step ((go_at_call 64; exact Calls.regrown_of (longOf_c _ _ _ _))) | quiet_step ((go_at_call 64; exact Calls.regrown_of (longOf_c _ _ _ _))))); refine wpQuiet_nil ?_; intro w1 hb; obtain ⟨hc, hfz⟩ := bcell hb; (try simp only [World.heap_drewN] at hc hfz); have hz := hb.size)
                  go_wp2
                  go_meet
                  case rel => exact ⟨by rw [HRL.out], hb⟩
              case rest =>
              obtain ⟨rfl, hbc⟩ := hcut
              have hD2 := HD1w.out.below hbc
              have hR2 := HR1w.out.below hbc
              have hW2 := HW1w.out.below hbc
              have hB2 := HB1w.out.trans (hbc.mono HB1w.out.size)
              clear ca cb q0 q1 q2 ql1 rl1
              have ca := hD2.cell hx0
              have zb := hD2.fr y0
              have cb := hD2.cell hy0
              have q0 := hR2.c0
              have q1 := hR2.c1
              have q2 := hR2.c2
              have ql1 := hD2.lt
              have rl1 := hR2.lt
              rw [hva] at ca
              rw [hvb] at cb
              have hBz2 := hB2.size
              have HD2 := Lib.hid hD2
              have HR2 := Lib.hid hR2
              have HW2 := Lib.hid hW2
              have HB2 := Lib.hid hB2
              clear hD2 hR2 hW2 hB2
              obtain ⟨t, ht⟩ : ∃ t, rlc e2 x0 y0 L = t := ⟨_, rfl⟩
              have HT := Lib.hid ht
              simp only [ht]
              clear ht
              cases t
              · have hrl2 : rl e2 x0 y0 L = e2 := rl_same HT.out
                have HRL2 := Lib.hid hrl2
                clear hrl2 hva hvb
                go_wp2
                go_roundw
                case rel => exact ⟨j + 1, by omega, by go_num, by rw [HST.out, HT.out]; simp, by rw [HST.out]; show Dr _ _ _ _ (rl e2 x0 y0 L); rw [HRL2.out]; exact HD2.out, HR2.out, HW2.out, HB2.out⟩
                case measure => first | (simp [intOf]; done) | (simp [intOf]; omega)
              · have hrl2 : rl e2 x0 y0 L = fun i => if i = y0 then va + L else e2 i := by unfold rl; rw [HT.out, if_pos rfl, hva]
                have HRL2 := Lib.hid hrl2
                have hwr : IntKind.i64.wrap (va + L) = va + L := by rw [IntKind.wrap_i64]; omega
                clear hrl2 hva hvb
                go_wp2
                go_region_held3 (fun w' => w'.cell? ⟨s0, 0, none⟩ = some (.int .i64 (A1 : Int)) ∧ w'.cell? ⟨s0, 1, none⟩ = some (.int .i64 (B1 : Int)) ∧ w'.cell? ⟨s0, 2, none⟩ = some (.int .i64 L) ∧ w'.cell? ⟨q, x0, none⟩ = some (.int .i64 va) ∧ (s0 < w'.heap.size ∧ q < w'.heap.size)) (first | assumption | exact ⟨q0, q1, q2, ca, rl1, ql1⟩ | (refine SR.below (by assumption) ?_; assumption) | (refine SR.set hsq hxy ?_; assumption))
                  (first | (go_at_call 64; (with_reducible refine (longOf_c _ _ _ _).mono ?_); rintro e wl ⟨rfl, hbl⟩; have hbl2 : Below wc.heap.size wc wl := ((Below.refl _ _).drew).trans hbl; have hDl := HD2.out.below hbl2; have cbl := hDl.cell hy0; have zbl := hDl.fr y0; have qll := hDl.lt; clear hDl))
                go_wp2
                go_roundw
                case rel => exact ⟨j + 1, by omega, by go_num, by rw [HST.out, HT.out]; simp, by rw [HST.out]; show Dr _ _ _ _ (rl e2 x0 y0 L); rw [HRL2.out]; exact ((HD2.out.below hbl2).set _ _).drew, (HR2.out.below hbl2).other hsq _, (HW2.out.below hbl2).other hsq1 _, ((HB2.out.trans (hbl2.mono hBz2)).setCell (p := ⟨q, y0, none⟩) (show V.heap.size ≤ q by omega) _)⟩
                case measure => first | (simp [intOf]; done) | (simp [intOf]; omega)
            · obtain rfl : j = 2 := by omega
              rw [HWS.out] at hDj ⊢
              have HDj := Lib.hid hDj
              have HBj := Lib.hid hBj
              clear hDj hBj hRj hWj
              go_wp2
              go_roundw
              case rel => exact ⟨k + 1, by omega, by go_num, rfl, HDj.out, HBj.out⟩
              case measure => first | (simp [intOf]; done) | (simp [intOf]; omega)
        · obtain rfl : k = m := by omega
          have HFin := Lib.hid (HRel.out.pass hRd hn)
          have hpk := ps_ok hRd hn HRel.out.1 (Nat.le_refl k)
          have hmw := muw_eq hDk
          have HDk := Lib.hid hDk
          have HBk := Lib.hid hBk
          clear hDk hBk
          generalize (ps (eN a) (eN b) l d k).1 = d2 at *
          generalize (ps (eN a) (eN b) l d k).2 = c2 at *
          go_wp2
          go_roundw
          case rel => exact ⟨d2, c2, rfl, HDk.out, HFin.out, HBk.out⟩
          case measure =>
            rw [hmw, hmo]
            obtain ⟨-, p2, p3, p4⟩ := hpk
            cases c2
            · show 2 * mu n d2 + 0 < 2 * mu n d + 1; omega
            · have := p3 rfl; show 2 * mu n d2 + 1 < 2 * mu n d + 1; omega
end Go.Proofs.Ytpmeccjfjjklkaa
