/- A source of numbers: its next number, a number below another. No condition. -/
import Derived.Test.YtnkfbinppikhkaaWGX
namespace Go.Proofs.Ytnkfbinppikhkaa
open Go.RowKit Go.IntWalk
set_option linter.unusedSimpArgs false
/-- Three cells of one block. -/
def tri (T : TypeId) (w : World) (p : Nat) (u v z : Value) : Prop := w.rowIs p T 3 (fun i => if i = 0 then u else if i = 1 then v else z)
namespace tri
variable {T : TypeId} {w : World} {p : Nat} {u v z : Value}
theorem c0 (h : tri T w p u v z) : w.cell? ⟨p, 0, none⟩ = some u := World.rowIs.cell h (i := 0) (by omega)
theorem c1 (h : tri T w p u v z) : w.cell? ⟨p, 1, none⟩ = some v := World.rowIs.cell h (i := 1) (by omega)
theorem c2 (h : tri T w p u v z) : w.cell? ⟨p, 2, none⟩ = some z := World.rowIs.cell h (i := 2) (by omega)
theorem fr (h : tri T w p u v z) (i : Nat) : w.frozen? ⟨p, i, none⟩ = false := World.rowIs.frozen h i
theorem lt (h : tri T w p u v z) : p < w.heap.size := World.rowIs.lt h
theorem below {w' : World} (h : tri T w p u v z) (hb : Below w.heap.size w w') : tri T w' p u v z := World.rowIs.of_block h (hb.block p h.lt)
theorem other (h : tri T w p u v z) {c i : Nat} (hne : p ≠ c) (y : Value) : tri T (w.setCell ⟨c, i, none⟩ y) p u v z := World.rowIs.setOther h (a := ⟨c, i, none⟩) hne y
theorem alloc (h : tri T w p u v z) (o : Obj) : tri T (w.alloc o) p u v z := World.rowIs.alloc h o
theorem newAt (hp : p = w.heap.size) : tri T (w.alloc (.cells #[u, v, z] T)) p u v z := by
  subst hp
  exact World.rowIs_alloc w _ _ _ (fun i hi => by
    match i, hi with
    | 0, _ => rfl
    | 1, _ => rfl
    | 2, _ => rfl)
theorem setC (h : tri T w p u v z) (y : Value) : tri T (w.setCell ⟨p, 2, none⟩ y) p u v y := (World.rowIs.set h 2 _).congr (fun i hi => by
  by_cases e : i = 2
  · simp [e]
  · simp only [if_neg e]
    by_cases e0 : i = 0
    · simp [e0]
    · simp only [if_neg e0]
      have : i = 1 := by omega
      simp [this])
theorem setA (h : tri T w p u v z) (y : Value) : tri T (w.setCell ⟨p, 0, none⟩ y) p y v z := (World.rowIs.set h 0 _).congr (fun i hi => by
  by_cases e : i = 0
  · simp [e]
  · simp [e])
theorem setB (h : tri T w p u v z) (y : Value) : tri T (w.setCell ⟨p, 1, none⟩ y) p u y z := (World.rowIs.set h 1 _).congr (fun i hi => by
  by_cases e : i = 1
  · simp [e]
  · by_cases e0 : i = 0
    · simp [e0]
    · simp [e, e0])
theorem blk {w' : World} (h : tri T w p u v z) (hb : w'.heap[p]? = w.heap[p]?) : tri T w' p u v z := World.rowIs.of_block h hb
end tri

theorem absw {P : Program} {c : Code} {Q : Exit → Act → World → Prop} {a : Act} {w : World} (h : ∀ V, V = w → c.wp P Q a V) : c.wp P Q a w := h w rfl
theorem and255 (x : Int) : ∃ k : Nat, k < 256 ∧ wrap64 (bits .and .u64 x 255) = (k : Int) := by
  have h : (BitVec.ofInt 64 x &&& BitVec.ofInt 64 255).toNat ≤ 255 := by
    rw [BitVec.toNat_and]
    exact Nat.and_le_right
  refine ⟨(BitVec.ofInt 64 x &&& BitVec.ofInt 64 255).toNat, by omega, ?_⟩
  rw [← i64_left]
  show IntKind.i64.wrap (IntKind.u64.wrap (((BitVec.ofInt 64 x &&& BitVec.ofInt 64 255).toNat : Nat) : Int)) = _
  generalize (BitVec.ofInt 64 x &&& BitVec.ofInt 64 255).toNat = m at h ⊢
  have e : IntKind.u64.wrap (m : Int) = (m : Int) := by rw [IntKind.wrap_u64]; omega
  rw [e, IntKind.wrap_i64]
  omega
/-- Bytes that can be read. -/
def ByArg (w : World) (A : Option Addr) (n : Nat) : Prop := ∀ j, j < n → ∃ a k, A = some a ∧ a.block < w.heap.size ∧ w.cell? (a.add j) = some (.int .u8 k) ∧ 0 ≤ k ∧ k ≤ 255
theorem ByArg.below {w w' : World} {A : Option Addr} {n g : Nat} (h : ByArg w A n) (hg : ∀ a, A = some a → 0 < n → a.block < g) (hb : Below g w w') : ByArg w' A n := fun j hj => by
  obtain ⟨a, k, e, h0, h1, h2⟩ := h j hj
  exact ⟨a, k, e, Nat.lt_of_lt_of_le h0 hb.size, (hb.cell (p := a.add j) (by rw [block_add]; exact hg a e (by omega))).trans h1, h2⟩
/-- What a source's next number leaves. -/
def NX (g n c at' : Nat) (A : Option Addr) (m : Nat) (w : World) (e : Ending) (w' : World) : Prop := ∃ (k : Nat), k < m ∧ e = .returned (.int .i64 k) ∧ (∃ sd' : Int, tri 62 w' g (.slice A n c) (.int .i64 ((at' + 1 : Nat) : Int)) (.int .u64 sd')) ∧ Keep1 g w w' ∧ Below g w w'
set_option maxRecDepth 100000 in
set_option maxHeartbeats 4000000 in
theorem next_c (g n c at' : Nat) (A : Option Addr) (sd : Int) (w : World) (hat : at' ≤ 1048600) (hn : n ≤ 1048600) (hA : ByArg w A n) (hg : ∀ a, A = some a → 0 < n → a.block < g) (h : tri 62 w g (.slice A n c) (.int .i64 (at' : Int)) (.int .u64 sd)) :
    Calls Try.prog 33 #[.pointer (some ⟨g, 0, none⟩)] w (NX g n c at' A 256 w) := by
  unfold NX
  have H := Lib.hid h
  have HA := Lib.hid hA
  have hgl := h.lt
  have c0 := h.c0
  have c1 := h.c1
  have c2 := h.c2
  clear h hA
  by_cases hlt : at' < n
  · have hlt' : (at' : Int) < (n : Int) := by omega
    have hle : (at' : Int) + 1 ≤ (n : Int) := by omega
    go_enter Try.func33, Try.ntmps33
    go_upto_region 2 with fail
    (refine region_below (by kernel_rfl) (by kernel_rfl) ?_; (repeat (first | go_big_quiet_step (fail) | quiet_step (fail))); refine wpQuiet_nil ?_; intro w1 hb; obtain ⟨hc, hfz⟩ := bcell hb; (try simp only [World.heap_drewN] at hc hfz); have hz := hb.size)
    have HB1 := Lib.hid hb
    have h1 := H.out.below hb
    obtain ⟨a, k, rfl, ha, hk, hk0, hk1⟩ := HA.out.below hg (hb.mono (by omega)) at' hlt
    have hag := hg a rfl (by omega)
    have hwk : IntKind.i64.wrap k = k := by rw [IntKind.wrap_i64]; omega
    have had : (a.add at').block < w1.heap.size := by rw [block_add]; exact ha
    clear c0 c1 c2 hb hc hfz
    have c0 := h1.c0
    have c1 := h1.c1
    have c2 := h1.c2
    have cl := h1.lt
    go_upto_region 3 with fail
    (apply region_looseK (k := 12); (kernel_rfl); (kernel_rfl); intro opsL KL hopsL hKL; (dsimp only [List.take]))
    iterate 9 (apply rel_val; (rfl); (intro wq hbq; have hcq := (bcell hbq).1; (go_simp; first | done | rfl | exact ⟨rfl, rfl⟩)); (try go_simp))
    (apply rel_val; (rfl); (intro wq hbq; have hkq := (hbq.cell (p := a.add at') had).trans hk; go_simp; rfl); (try go_simp))
    iterate 2 (apply rel_val; (rfl); (intro wq hbq; have hcq := (bcell hbq).1; (go_simp; first | done | rfl | exact ⟨rfl, rfl⟩)); (try go_simp))
    (refine wpRel_nil ?_; refine hKL _ _ ?_; clear hKL hopsL opsL KL; intro w1 hb hnews; obtain ⟨hc, hfz⟩ := bcell hb; (try simp only [World.heap_drewN] at hc hfz); have hz := hb.size; (dsimp only [List.drop]))
    have h2 := h1.below hb
    have HB2 := Lib.hid (HB1.out.trans (hb.mono HB1.out.size))
    clear c0 c1 c2 cl hb hc hfz hk
    have c0 := h2.c0
    have c1 := h2.c1
    have c2 := h2.c2
    have cl := h2.lt
    have f0 := h2.fr
    have HH2 := Lib.hid h2
    clear h1 h2
    go_upto_region 6 with fail
    refine absw (fun V hV => ?_)
    obtain ⟨sd', T⟩ : ∃ sd', tri 62 V g (.slice (some a) n c) (.int .i64 ((at' : Int) + 1)) (.int .u64 sd') := by rw [hV]; exact ⟨_, (HH2.out.setB _).setC _⟩
    have KP : Keep1 g w V := by rw [hV]; exact Keep1.set (Keep1.set (fun b hb _ => HB2.out.block b hb) _) _
    have BL : Below g w V := by rw [hV]; exact ((HB2.out.mono (Nat.le_of_lt hgl)).setCell (p := ⟨g, 1, none⟩) (Nat.le_refl _) _).setCell (p := ⟨g, 2, none⟩) (Nat.le_refl _) _
    clear hV c0 c1 c2 cl f0
    have c0 := T.c0
    have c1 := T.c1
    have c2 := T.c2
    have cl := T.lt
    (refine region_below (by kernel_rfl) (by kernel_rfl) ?_; (repeat (first | go_big_quiet_step (fail) | quiet_step (fail))); refine wpQuiet_nil ?_; intro w1 hb; obtain ⟨hc, hfz⟩ := bcell hb; (try simp only [World.heap_drewN] at hc hfz); have hz := hb.size)
    have T2 := T.below hb
    have KP2 : Keep1 g w w1 := fun b h0 h1 => (hb.block b (Nat.lt_of_lt_of_le h0 BL.size)).trans (KP b h0 h1)
    have BL2 := BL.trans (hb.mono (by omega))
    clear c0 c1 c2 cl hc hfz
    go_wp2
    go_ret
    exact ⟨k.toNat, by omega, by rw [Int.toNat_of_nonneg hk0]; rfl, ⟨sd', T2⟩, KP2, BL2⟩
  · have hlt' : ¬ ((at' : Int) < (n : Int)) := by omega
    have hle : ¬ ((at' : Int) + 1 ≤ (n : Int)) := by omega
    go_enter Try.func33, Try.ntmps33
    go_upto_region 2 with fail
    (refine region_below (by kernel_rfl) (by kernel_rfl) ?_; (repeat (first | go_big_quiet_step (fail) | quiet_step (fail))); refine wpQuiet_nil ?_; intro w1 hb; obtain ⟨hc, hfz⟩ := bcell hb; (try simp only [World.heap_drewN] at hc hfz); have hz := hb.size)
    have h2 := H.out.below hb
    have HB2 := Lib.hid hb
    clear c0 c1 c2 hb hc hfz
    have c0 := h2.c0
    have c1 := h2.c1
    have c2 := h2.c2
    have cl := h2.lt
    have f0 := h2.fr
    have HH2 := Lib.hid h2
    clear h2
    go_upto_region 6 with fail
    refine absw (fun V hV => ?_)
    obtain ⟨sd', T⟩ : ∃ sd', tri 62 V g (.slice A n c) (.int .i64 ((at' : Int) + 1)) (.int .u64 sd') := by rw [hV]; exact ⟨_, (HH2.out.setB _).setC _⟩
    have KP : Keep1 g w V := by rw [hV]; exact Keep1.set (Keep1.set (fun b hb _ => HB2.out.block b hb) _) _
    have BL : Below g w V := by rw [hV]; exact ((HB2.out.mono (Nat.le_of_lt hgl)).setCell (p := ⟨g, 1, none⟩) (Nat.le_refl _) _).setCell (p := ⟨g, 2, none⟩) (Nat.le_refl _) _
    clear hV c0 c1 c2 cl f0
    have c0 := T.c0
    have c1 := T.c1
    have c2 := T.c2
    have cl := T.lt
    (refine region_below (by kernel_rfl) (by kernel_rfl) ?_; (repeat (first | go_big_quiet_step (fail) | quiet_step (fail))); refine wpQuiet_nil ?_; intro w1 hb; obtain ⟨hc, hfz⟩ := bcell hb; (try simp only [World.heap_drewN] at hc hfz); have hz := hb.size)
    have T2 := T.below hb
    have KP2 : Keep1 g w w1 := fun b h0 h1 => (hb.block b (Nat.lt_of_lt_of_le h0 BL.size)).trans (KP b h0 h1)
    have BL2 := BL.trans (hb.mono (by omega))
    clear c0 c1 c2 cl hc hfz
    have c2 := T2.c2
    have cl := T2.lt
    go_wp2
    go_ret
    obtain ⟨k, hk, e⟩ := and255 (sd' / 1099511627776)
    exact ⟨k, hk, by rw [← e]; rfl, ⟨sd', T2⟩, KP2, BL2⟩
set_option maxRecDepth 100000 in
set_option maxHeartbeats 2000000 in
/-- A number below another: one number of the source. -/
theorem pick_c (g n c at' m : Nat) (A : Option Addr) (sd : Int) (w : World) (hm : 2 ≤ m) (hm2 : m ≤ 200) (hat : at' ≤ 1048600) (hn : n ≤ 1048600) (hA : ByArg w A n) (hg : ∀ a, A = some a → 0 < n → a.block < g) (h : tri 62 w g (.slice A n c) (.int .i64 (at' : Int)) (.int .u64 sd)) :
    Calls Try.prog 14 #[.pointer (some ⟨g, 0, none⟩), .int .i64 m] w (NX g n c at' A m w) := by
  have H := Lib.hid (next_c g n c at' A sd w hat hn hA hg h)
  have h1 : ¬ ((m : Int) ≤ 1) := by omega
  have h2 : ¬ ((200 : Int) < (m : Int)) := by omega
  have h3 : ¬ ((m : Int) = 0) := by omega
  clear hA h
  unfold NX
  go_enter Try.func14, Try.ntmps14
  go_wp2_with (go_at_call 33; ((with_reducible refine (H.out).mono ?_); rintro e w1 ⟨k, hk, rfl, hT, hK, hB⟩))
  have hmod : (k : Int).tmod (m : Int) = ((k % m : Nat) : Int) := by rw [Int.tmod_eq_emod_of_nonneg (by omega)]; simp
  go_ret
  exact ⟨k % m, Nat.mod_lt _ (by omega), by simp, hT, hK, hB⟩
end Go.Proofs.Ytnkfbinppikhkaa
