/- Sights over small grids: what SeenFrom and SeesPlace answer. No condition. -/
import Derived.Test.YtpajakindpbepaaSiQ
import Derived.Test.YtpajakindpbepaaCon
import Derived.Test.YtpajakindpbepaaGap
import Derived.Test.YtpajakindpbepaaR8b
namespace Go.Proofs.Ytpajakindpbepaa
open Go.RowKit Go.IntWalk
set_option linter.unusedSimpArgs false
theorem share1 : shareF 1065353216 = true := by decide +kernel
theorem small_eyes {W D f s n : Nat} (hn : W * D = n) (h : Small W D f f s) {X : Nat → Nat} (hX : ∀ j, inn .f32 (X j) 0 8) {E : Nat} (hE : inn .f32 E 0 1000) : eyesF (W : Int) (D : Int) n X (f : Int) E 1065353216 (s : Int) = true := by
  subst hn
  have h1 := h.w1
  have h2 := h.w2
  have h3 := h.d1
  have h4 := h.d2
  have h5 := h.hf
  have h6 := h.s1
  have h7 := h.s2
  unfold eyesF idxOk gridOk sidesOk sightF
  rw [least_of hE, share1]
  simp only [Bool.and_eq_true, decide_eq_true_eq]
  exact ⟨⟨⟨⟨⟨⟨by omega, by omega⟩, by omega, by omega⟩, by rw [Int.natCast_mul]⟩, by simpa [allF] using fun j _ => (fin_num _).2 (hX j).1⟩, by omega, by omega⟩, ⟨trivial, trivial⟩, by omega, by omega⟩
theorem sfG_nat (W D f s : Nat) (X : Nat → Nat) (E B t : Nat) : sfG (W : Int) (D : Int) X (f : Int) E B (s : Int) t = seeF X W D f t E B s := by unfold sfG; simp only [Int.toNat_natCast]
theorem small_Q {W D f s n : Nat} (hn : W * D = n) (h : Small W D f f s) {X : Nat → Nat} (hX : ∀ j, inn .f32 (X j) 0 8) {E : Nat} (hE : inn .f32 E 0 1000) : sfQ (W : Int) (D : Int) n X (f : Int) E 1065353216 (s : Int) = true := by
  unfold sfQ
  rw [small_eyes hn h hX hE, Bool.true_and]
  unfold sfK
  exact allB_true (fun t ht => by rw [sfG_nat]; exact Small.told ⟨h.w1, h.w2, h.d1, h.d2, h.hf, by omega, h.s1, h.s2⟩ hX hE)
/-- SeenFrom over a small grid. -/
theorem seenSmall {W D f s n : Nat} (hn : W * D = n) (h : Small W D f f s) {X : Nat → Nat} (hX : ∀ j, inn .f32 (X j) 0 8) {E x : Nat} (hE : inn .f32 E 0 1000) (hx : cn .f32 x = E) {d : Nat → Bool} (hd : ∀ t, t < n → d t = (seeF X W D f t E 1065353216 s).1) (b c : Nat) (w : World) (hb : b < w.heap.size) (hF : FlCells w b n X) :
    Calls Try.prog 32 #[.agg #[.int .i64 (W : Int), .int .i64 (D : Int), .slice (some ⟨b, 0, none⟩) n c], .int .i64 (f : Int), .float .f32 x, .float .f32 1065353216, .int .i64 (s : Int)] w (BRes true n d w) := by
  have hnb : n ≤ 5 * 5 := by rw [← hn]; exact Nat.mul_le_mul h.w2 h.d2
  have hc := iSeenFrom_c (W : Int) (D : Int) b n c X (f : Int) x 1065353216 E 1065353216 (s : Int) w (by omega) hb hF hx (by decide +kernel)
  unfold SFR at hc
  rw [small_Q hn h hX hE] at hc
  refine hc.mono fun e w' ⟨v, h1, h2, h3⟩ => ⟨v, h1, ?_, h3⟩
  rcases h2 with ⟨h0, -⟩ | ⟨g, cap, e1, h4, h5⟩
  · have : 2 * 2 ≤ n := by rw [← hn]; exact Nat.mul_le_mul h.w1 h.d1
    simp at h0
    omega
  · exact .inr ⟨g, cap, e1, h4, h5.congr (fun j hj => by rw [sfG_nat, hd j hj])⟩
theorem coneT_fin : ∀ x : Fin 5, ∀ y : Fin 5, fin .f32 (coneT x.val y.val) = true := by decide +kernel
/-- SeenFrom from the top of a small cone. -/
theorem seenCone {W D n : Nat} (hn : W * D = n) (h : Small W D 0 0 8) (b c : Nat) (w : World) (hb : b < w.heap.size) (hF : FlCells w b n (fun j => coneM 0 0 (j % W) (j / W))) :
    Calls Try.prog 32 #[.agg #[.int .i64 (W : Int), .int .i64 (D : Int), .slice (some ⟨b, 0, none⟩) n c], .int .i64 0, .float .f32 1065353216, .float .f32 1065353216, .int .i64 8] w (BRes true n (fun _ => true) w) := by
  have h1 := h.w1
  have h2 := h.w2
  have h3 := h.d1
  have h4 := h.d2
  have hnb : n ≤ 5 * 5 := by rw [← hn]; exact Nat.mul_le_mul h2 h4
  have hn4 : 2 * 2 ≤ n := by rw [← hn]; exact Nat.mul_le_mul h1 h3
  have hF' : FlCells w b n (coneX W) := fun j hj => by
    obtain ⟨r, e1, e2⟩ := hF j hj
    have m1 := Nat.mod_lt j (show 0 < W by omega)
    have m2 : j / W < D := Nat.div_lt_of_lt_mul (by omega)
    exact ⟨r, e1, e2.trans (cone_tbl ⟨j % W, by omega⟩ ⟨j / W, by omega⟩)⟩
  have hc := iSeenFrom_c (W : Int) (D : Int) b n c (coneX W) ((0 : Nat) : Int) 1065353216 1065353216 1065353216 1065353216 ((8 : Nat) : Int) w (by omega) hb hF' (by decide +kernel) (by decide +kernel)
  have he : eyesF (W : Int) (D : Int) n (coneX W) ((0 : Nat) : Int) 1065353216 1065353216 ((8 : Nat) : Int) = true := by
    have hl : leastF 1065353216 = true := by decide +kernel
    unfold eyesF idxOk gridOk sidesOk sightF
    rw [hl, share1]
    simp only [Bool.and_eq_true, decide_eq_true_eq]
    refine ⟨⟨⟨⟨⟨⟨by omega, by omega⟩, by omega, by omega⟩, by rw [← hn, Int.natCast_mul]⟩, ?_⟩, by omega, by omega⟩, ⟨trivial, trivial⟩, by omega, by omega⟩
    have hfin : ∀ j, j < n → fin .f32 (coneX W j) = true := fun j hj => by
      have m1 := Nat.mod_lt j (show 0 < W by omega)
      have m2 : j / W < D := Nat.div_lt_of_lt_mul (by omega)
      exact coneT_fin ⟨j % W, by omega⟩ ⟨j / W, by omega⟩
    simpa [allF] using hfin
  have hall : ∀ t, t < n → sfG (W : Int) (D : Int) (coneX W) ((0 : Nat) : Int) 1065353216 1065353216 ((8 : Nat) : Int) t = (true, true) := fun t ht => by
    rw [sfG_nat]
    exact Small.cone ⟨h.w1, h.w2, h.d1, h.d2, h.hf, by omega, by omega, by omega⟩
  have hQ : sfQ (W : Int) (D : Int) n (coneX W) ((0 : Nat) : Int) 1065353216 1065353216 ((8 : Nat) : Int) = true := by
    unfold sfQ
    rw [he, Bool.true_and]
    unfold sfK
    exact allB_true (fun t ht => by rw [hall t ht])
  unfold SFR at hc
  rw [hQ] at hc
  refine hc.mono fun e w' ⟨v, h1, h2, h3⟩ => ⟨v, h1, ?_, h3⟩
  rcases h2 with ⟨h0, -⟩ | ⟨g, cap, e1, h4, h5⟩
  · simp at h0
    omega
  · exact .inr ⟨g, cap, e1, h4, h5.congr (fun j hj => by rw [hall j hj])⟩
/-- SeesPlace over a small grid. -/
theorem seesSmall {W D f t s n : Nat} (hn : W * D = n) (h : Small W D f t s) {X : Nat → Nat} (hX : ∀ j, inn .f32 (X j) 0 8) {E x : Nat} (hE : inn .f32 E 0 1000) (hx : cn .f32 x = E) {d : Bool} (hd : d = (seeF X W D f t E 1065353216 s).1) (b c : Nat) (w : World) (hb : b < w.heap.size) (hF : FlCells w b n X) :
    Calls Try.prog 30 #[.agg #[.int .i64 (W : Int), .int .i64 (D : Int), .slice (some ⟨b, 0, none⟩) n c], .int .i64 (f : Int), .int .i64 (t : Int), .float .f32 x, .float .f32 1065353216, .int .i64 (s : Int)] w (Ret (two (d, true)) w) := by
  have hnb : n ≤ 5 * 5 := by rw [← hn]; exact Nat.mul_le_mul h.w2 h.d2
  have hc := iSeesPlace_c (W : Int) (D : Int) b n c X (f : Int) (t : Int) x 1065353216 E 1065353216 (s : Int) w (by omega) hb hF hx (by decide +kernel)
  have he := small_eyes hn (show Small W D f f s from ⟨h.w1, h.w2, h.d1, h.d2, h.hf, h.hf, h.s1, h.s2⟩) hX hE
  have hi : idxOk (W : Int) (D : Int) n X (t : Int) = true := by
    have he2 := small_eyes hn (show Small W D t t s from ⟨h.w1, h.w2, h.d1, h.d2, h.ht, h.ht, h.s1, h.s2⟩) hX hE
    unfold eyesF at he2
    rw [Bool.and_eq_true] at he2
    exact he2.1
  have hk : spF (W : Int) (D : Int) n X (f : Int) (t : Int) E 1065353216 (s : Int) = (d, true) := by
    unfold spF spOk
    rw [he, hi]
    simp only [Int.toNat_natCast]
    have h2 := Small.told h hX hE
    rw [if_pos (by rfl), hd]
    exact Prod.ext rfl h2
  rw [hk] at hc
  exact hc
/-- Arithmetic whose result is a number: what it gives, whatever it draws. -/
theorem arith_sk {P : Program} (op : BinOp) (hop : isArith op = true) (t : TypeId) (k : FloatKind) {x y : Nat} (cx : cn k x = x) (cy : cn k y = y) (h : nanB k (fop op k x y) = false) : ∃ nf : World → Nat, ∀ w, (binOp op t (.float k x) (.float k y)).run P w = .ok (.float k (fop op k x y)) (w.drewN (nf w)) := by
  have hx : ∀ w, ∃ n, (binOp op t (.float k x) (.float k y)).run P w = .ok (.float k (fop op k x y)) (w.drewN n) := fun w => by
    obtain ⟨r, n, e, hr, -⟩ := run_farith (P := P) op hop t k x y w
    rw [cx, cy] at hr
    obtain rfl := raw_of h hr
    exact ⟨n, e⟩
  exact ⟨fun w => (hx w).choose, fun w => (hx w).choose_spec⟩
theorem wide_sk {P : Program} (src dst : TypeId) (hs : P.underlying src = some (.float .f32)) (hd : P.underlying dst = some (.float .f64)) {x : Nat} (cx : cn .f32 x = x) (h : nanB .f64 (fcv .f32 .f64 x) = false) : ∃ nf : World → Nat, ∀ w, (convert src dst (.float .f32 x)).run P w = .ok (.float .f64 (fcv .f32 .f64 x)) (w.drewN (nf w)) := by
  have hx : ∀ w, ∃ n, (convert src dst (.float .f32 x)).run P w = .ok (.float .f64 (fcv .f32 .f64 x)) (w.drewN n) := fun w => by
    obtain ⟨r, n, e, hr⟩ := run_fconv (P := P) src dst .f32 .f64 (by decide) hs hd x w
    obtain ⟨hr, -⟩ := hr (fits_wide _)
    rw [cx] at hr
    obtain rfl := raw_of h hr
    exact ⟨n, e⟩
  exact ⟨fun w => (hx w).choose, fun w => (hx w).choose_spec⟩
/-- Drops. -/
def e8 (b : Nat) : Nat := fop .quo .f32 (fofI .f32 (b : Int)) 1090519040
theorem e8_ok : ∀ u : Fin 9, fopO .quo .f32 (fofI .f32 (u.val : Int)) 1090519040 = some (e8 u.val) := by decide +kernel
theorem q4_ok41 : ∀ u : Fin 41, fopO .quo .f32 (fofI .f32 (u.val : Int)) 1082130432 = some (q4 u.val) := by decide +kernel
theorem quo_run {P : Program} {x y r : Nat} (h : fopO .quo .f32 x y = some r) (t : TypeId) (w : World) : (binOp .quo t (.float .f32 x) (.float .f32 y)).run P w = .ok (.float .f32 r) w := by
  simp only [fopO] at h
  simp [binOp, Op.floatArith, h]
def dP (h b : Nat) : Nat := dropF (q4 h) (e8 b)
def dT (h b : Nat) : Nat := dropF (fop .mul .f32 (q4 h) 1073741824) (e8 b)
def dropB (h b : Nat) : Bool :=
  cn .f32 (q4 h) == q4 h && cn .f32 (e8 b) == e8 b && leastF (q4 h) && shareF (e8 b) && fin .f32 (dP h b) && leastF (fop .mul .f32 (q4 h) 1073741824) && fin .f32 (dT h b) && (dropF (q4 h) 1065353216 == 0) && fge .f32 (dP h b) 0 &&
  !nanB .f32 (dP h b) && !nanB .f32 (dT h b) && fop .sub .f64 (fcv .f32 .f64 (dT h b)) (fop .mul .f64 4616189618054758400 (fcv .f32 .f64 (dP h b))) == 0 && fop .sub .f64 (fop .mul .f64 4616189618054758400 (fcv .f32 .f64 (dP h b))) (fcv .f32 .f64 (dT h b)) == 0 &&
  flt .f64 0 (fop .mul .f64 4562254508917369340 (fop .add .f64 4607182418800017408 (fcv .f32 .f64 (dT h b)))) &&
  !nanB .f64 (fcv .f32 .f64 (dT h b)) && !nanB .f64 (fcv .f32 .f64 (dP h b)) && !nanB .f64 (fop .mul .f64 4616189618054758400 (fcv .f32 .f64 (dP h b))) && !nanB .f64 (fop .add .f64 4607182418800017408 (fcv .f32 .f64 (dT h b))) && !nanB .f64 (fop .mul .f64 4562254508917369340 (fop .add .f64 4607182418800017408 (fcv .f32 .f64 (dT h b))))
theorem drop_all : ∀ h : Fin 40, ∀ b : Fin 9, dropB (h.val + 1) b.val = true := by decide +kernel
end Go.Proofs.Ytpajakindpbepaa
