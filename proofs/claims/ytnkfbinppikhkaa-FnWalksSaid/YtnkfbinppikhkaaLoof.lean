/- Regions of open order whose last operations hang on the others over many steps. No condition. -/
import Derived.Test.YtnkfbinppikhkaaRel
namespace Go.Proofs.Ytnkfbinppikhkaa
open Go.RowKit
namespace Loof
/-! Soundness -/
def depsOf (o : Oper) : List Nat := (o.after.toList.filter (Region.binds .any)).map (·.on)
inductive Far (ops : Array Oper) (j : Nat) : Oper → Prop
  | here {o : Oper} : j ∈ depsOf o → Far ops j o
  | there {o o' : Oper} {e : Nat} : e ∈ depsOf o → ops[e]? = some o' → Far ops j o' → Far ops j o
def farB (ops : Array Oper) (j : Nat) : Nat → Oper → Bool
  | 0, o => (depsOf o).contains j
  | f + 1, o => (depsOf o).contains j || (depsOf o).any fun e => ((ops[e]?).map fun o' => farB ops j f o').getD false
theorem farB_far {ops : Array Oper} {j : Nat} : ∀ {f : Nat} {o : Oper}, farB ops j f o = true → Far ops j o
  | 0, o, h => .here (by simpa [farB] using h)
  | f + 1, o, h => by
    simp only [farB, Bool.or_eq_true, List.contains_eq_mem, decide_eq_true_eq, List.any_eq_true] at h
    rcases h with h | ⟨e, he, h⟩
    · exact .here h
    · cases ho : ops[e]? with
      | none => rw [ho] at h; simp at h
      | some o' => rw [ho] at h; exact .there he ho (farB_far (f := f) (by simpa using h))
theorem Far.lt {ops : Array Oper} {j t : Nat} (hb : ∀ j o, ops[j]? = some o → ∀ e ∈ depsOf o, e < j) {o : Oper} (h : Far ops j o) : (∀ e ∈ depsOf o, e < t) → j < t := by
  induction h with
  | here h => exact fun hd => hd _ h
  | there he ho _ ih => exact fun hd => ih fun e' h' => Nat.lt_trans (hb _ _ ho e' h') (hd _ he)
theorem Far.got {ops : Array Oper} {j : Nat} {Q : Nat → Prop} (hdown : ∀ e o, ops[e]? = some o → Q e → ∀ e' ∈ depsOf o, Q e') {o : Oper} (h : Far ops j o) : (∀ e ∈ depsOf o, Q e) → Q j := by
  induction h with
  | here h => exact fun hd => hd _ h
  | there he ho _ ih => exact fun hd => ih (hdown _ _ ho (hd _ he))
def looseB (ops : Array Oper) (k : Nat) : Bool :=
  Region.noSelect ops &&
  ((List.range ops.size).all fun j => ((ops[j]?).map fun o => (depsOf o).all (· < j)).getD true) &&
  ((List.range k).all fun j => ((ops[j]?).map fun o => (List.range ops.size).all fun i =>
    match (ops[i]?).bind (·.dst) with | some d => !(o.looksAt ops).contains d || (depsOf o).contains i | none => true).getD false) &&
  ((List.range k).all fun j => (List.range k).all fun i => i == j || (match (ops[i]?).bind (·.dst) with | some d => (ops[j]?).bind (·.dst) != some d | none => true)) &&
  ((List.range ops.size).all fun t => t < k || ((List.range t).all fun j => ((ops[t]?).map fun o => farB ops j ops.size o).getD true))

structure LooseSpec (ops : Array Oper) (k : Nat) : Prop where
  sel : ∀ (j : Nat) (o : Oper) cs b, ops[j]? = some o → o.op ≠ .select cs b
  back : ∀ j o, ops[j]? = some o → ∀ e ∈ depsOf o, e < j
  some_ : ∀ j, j < k → ∃ o, ops[j]? = some o
  looks : ∀ j o, j < k → ops[j]? = some o → ∀ i d, (ops[i]?).bind (·.dst) = some d → d ∈ o.looksAt ops → i ∈ depsOf o
  apart : ∀ i j, i < k → j < k → i ≠ j → ∀ d, (ops[i]?).bind (·.dst) = some d → (ops[j]?).bind (·.dst) ≠ some d
  tail : ∀ t o, k ≤ t → ops[t]? = some o → ∀ j, j < t → Far ops j o

theorem looseB_spec {ops : Array Oper} {k : Nat} (h : looseB ops k = true) : LooseSpec ops k := by
  simp only [looseB, Bool.and_eq_true] at h
  obtain ⟨⟨⟨⟨h1, h2⟩, h3⟩, h4⟩, h5⟩ := h
  rw [List.all_eq_true] at h2 h3 h4 h5
  have inb : ∀ {j : Nat} {o : Oper}, ops[j]? = some o → j ∈ List.range ops.size := fun {j o} hj => List.mem_range.2 (by
    rcases Nat.lt_or_ge j ops.size with h | h
    · exact h
    · rw [Array.getElem?_eq_none h] at hj; cases hj)
  refine ⟨fun j o cs b hj => Region.noSelect_spec h1 j o cs b hj, fun j o hj e he => ?_, fun j hj => ?_, fun j o hj ho i d hi hd => ?_, fun i j hi hj hne d hd hd' => ?_, fun t o ht ho j hj => ?_⟩
  · have := h2 j (inb hj)
    rw [hj] at this
    simpa using List.all_eq_true.1 this e he
  · have := h3 j (List.mem_range.2 hj)
    cases ho : ops[j]? with
    | none => rw [ho] at this; cases this
    | some o => exact ⟨o, rfl⟩
  · have := h3 j (List.mem_range.2 hj)
    rw [ho] at this
    have hi' : i ∈ List.range ops.size := by
      cases hio : ops[i]? with
      | none => rw [hio] at hi; cases hi
      | some oi => exact inb hio
    have := List.all_eq_true.1 this i hi'
    rw [hi] at this
    simp only [Bool.or_eq_true, Bool.not_eq_true', List.contains_eq_mem, decide_eq_false_iff_not, decide_eq_true_eq] at this
    rcases this with h | h
    · exact absurd hd h
    · exact h
  · have := List.all_eq_true.1 (h4 j (List.mem_range.2 hj)) i (List.mem_range.2 hi)
    rw [hd, hd'] at this
    simp [hne] at this
  · have := h5 t (inb ho)
    simp only [Bool.or_eq_true, decide_eq_true_eq] at this
    rcases this with h | h
    · omega
    · have := List.all_eq_true.1 h j (List.mem_range.2 hj)
      rw [ho] at this
      exact farB_far (by simpa using this)

section sound
variable {P : Program} {ops : Array Oper} {k : Nat} {S : List Item'} {w0 : World} {a0 : Act} {QQ : Act → List New → Prop}

def dsO (ops : Array Oper) (j : Nat) : Option Tmp := (ops[j]?).bind (·.dst)
def fillN (ops : Array Oper) (k : Nat) (a0 : Act) (v : Nat → Value) (i : Nat) : Act := fillS (dsO ops) (fun j => decide (j < i)) v (List.range k) a0
def fillL (ops : Array Oper) (k : Nat) (a0 : Act) (v : Nat → Value) (listed : Array Bool) : Act := fillS (dsO ops) (fun j => listed.getD j false) v (List.range k) a0
def LexAt (ops : Array Oper) (k : Nat) (S : List Item') (n0 : Nat) (a0 : Act) (v : Nat → Value) (j : Nat) : Prop :=
  ∀ o, ops[j]? = some o → ∀ N R, S[j]? = some (N, R) → (Region.wanted o (yielded ops (fillN ops k a0 v j).tmps) = true → Rof n0 N R (v j)) ∧ (Region.wanted o (yielded ops (fillN ops k a0 v j).tmps) = false → v j = undef ∧ N = none)
def accF (ops : Array Oper) (S : List Item') (v : Nat → Value) : Nat → List New
  | 0 => []
  | j + 1 => match S[j]? with
    | some (some (kd, ob), _) => (dsO ops j, kd, v j, ob) :: accF ops S v j
    | _ => accF ops S v j
theorem accF_mem {v : Nat → Value} : ∀ (i : Nat) (x : New), x ∈ accF ops S v i → ∃ j kd ob R, j < i ∧ S[j]? = some (some (kd, ob), R) ∧ x = (dsO ops j, kd, v j, ob) := by
  intro i
  induction i with
  | zero => intro x hx; cases hx
  | succ i ih =>
    intro x hx
    unfold accF at hx
    split at hx
    · rename_i kd ob R hS
      rcases List.mem_cons.1 hx with rfl | hx
      · exact ⟨i, kd, ob, R, by omega, hS, rfl⟩
      · obtain ⟨j, kd', ob', R', hj, h1, h2⟩ := ih x hx
        exact ⟨j, kd', ob', R', by omega, h1, h2⟩
    · obtain ⟨j, kd', ob', R', hj, h1, h2⟩ := ih x hx
      exact ⟨j, kd', ob', R', by omega, h1, h2⟩

theorem fillS_none {ds : Nat → Option Tmp} {v : Nat → Value} : ∀ (js : List Nat) (a : Act), fillS ds (fun _ => false) v js a = a
  | [], _ => rfl
  | _ :: js, a => by simp only [fillS, List.foldl_cons]; exact fillS_none js a
theorem fillN_zero (v : Nat → Value) : fillN ops k a0 v 0 = a0 := by
  unfold fillN
  have : (fun j => decide (j < 0)) = fun _ : Nat => false := by funext j; simp
  rw [this]; exact fillS_none _ _
theorem fillN_congr {v v' : Nat → Value} {i : Nat} (h : ∀ j, j < i → v j = v' j) : fillN ops k a0 v i = fillN ops k a0 v' i :=
  fillS_congr _ _ fun j _ => ⟨rfl, fun hj => h j (by simpa using hj)⟩
theorem fillN_succ (L : LooseSpec ops k) (v : Nat → Value) {i : Nat} (hi : i < k) : fillN ops k a0 v (i + 1) = (fillN ops k a0 v i).put (dsO ops i) (v i) := by
  unfold fillN
  rw [fillS_put (ds := dsO ops) (u := v i) (List.range k) a0 List.nodup_range (List.mem_range.2 hi) (by simp) (fun j hj hji d hd => L.apart i j hi (List.mem_range.1 hj) (Ne.symm hji) d hd)]
  refine fillS_congr _ _ fun j _ => ⟨?_, fun _ => ?_⟩
  · rw [Bool.eq_iff_iff]; simp; omega
  · split
    · rename_i h; rw [h]
    · rfl

theorem wp_at (L : LooseSpec ops k) (h : wpRel P ops w0 QQ (ops.toList.take k) S a0 []) (v : Nat → Value) : ∀ i, i ≤ k → (∀ j, j < i → LexAt ops k S w0.heap.size a0 v j) →
    wpRel P ops w0 QQ ((ops.toList.take k).drop i) (S.drop i) (fillN ops k a0 v i) (accF ops S v i)
  | 0, _, _ => by rw [fillN_zero]; exact h
  | i + 1, hi, hl => by
    have ih := wp_at L h v i (by omega) (fun j hj => hl j (by omega))
    obtain ⟨o, ho⟩ := L.some_ i (by omega)
    have hol : (ops.toList.take k)[i]? = some o := by rw [List.getElem?_take_of_lt (by omega)]; simpa using ho
    obtain ⟨hlt, heq⟩ := List.getElem?_eq_some_iff.1 hol
    rw [List.drop_eq_getElem_cons hlt, heq] at ih
    cases hS : S.drop i with
    | nil => rw [hS] at ih; exact ih.elim
    | cons x S' =>
      obtain ⟨N, R⟩ := x
      rw [hS] at ih
      have hSi : S[i]? = some (N, R) := by
        have : (S.drop i)[0]? = some (N, R) := by rw [hS]; rfl
        simpa using this
      have hS' : S.drop (i + 1) = S' := by
        have : (S.drop i).tail = S' := by rw [hS]; rfl
        rw [← this, List.tail_drop]
      have hx := hl i (by omega) o ho N R hSi
      rw [fillN_succ L v (by omega), hS']
      have hd : dsO ops i = o.dst := by simp [dsO, ho]
      rw [hd]
      unfold wpRel at ih
      split at ih
      · rename_i hw
        have := ih.2 (v i) (hx.1 hw)
        simp only [accF, hSi, hd]
        cases N with
        | none => exact this
        | some y => obtain ⟨kd, ob⟩ := y; exact this
      · rename_i hw
        have hw' : Region.wanted o (yielded ops (fillN ops k a0 v i).tmps) = false := by simpa using hw
        obtain ⟨e1, e2⟩ := hx.2 hw'
        rw [e1]
        simp only [accF, hSi, e2]
        exact ih.2

/-- What is asked of operation i. -/
theorem ob_at (L : LooseSpec ops k) (h : wpRel P ops w0 QQ (ops.toList.take k) S a0 []) (v : Nat → Value) {i : Nat} (hi : i < k) (hl : ∀ j, j < i → LexAt ops k S w0.heap.size a0 v j) {o : Oper} (ho : ops[i]? = some o) :
    ∃ N R, S[i]? = some (N, R) ∧ (Region.wanted o (yielded ops (fillN ops k a0 v i).tmps) = true → ∀ w, Below w0.heap.size w0 w → seen ops o (accF ops S v i) w → okOp P o (fillN ops k a0 v i) w N R) ∧ (Region.wanted o (yielded ops (fillN ops k a0 v i).tmps) = false → N = none) := by
  have ih := wp_at L h v i (by omega) hl
  have hol : (ops.toList.take k)[i]? = some o := by rw [List.getElem?_take_of_lt hi]; simpa using ho
  obtain ⟨hlt, heq⟩ := List.getElem?_eq_some_iff.1 hol
  rw [List.drop_eq_getElem_cons hlt, heq] at ih
  cases hS : S.drop i with
  | nil => rw [hS] at ih; exact ih.elim
  | cons x S' =>
    obtain ⟨N, R⟩ := x
    rw [hS] at ih
    have hSi : S[i]? = some (N, R) := by
      have : (S.drop i)[0]? = some (N, R) := by rw [hS]; rfl
      simpa using this
    refine ⟨N, R, hSi, ?_, ?_⟩
    · intro hw
      unfold wpRel at ih
      rw [if_pos hw] at ih
      exact ih.1
    · intro hw
      unfold wpRel at ih
      rw [if_neg (by rw [hw]; decide)] at ih
      exact ih.1

theorem okOp_inhabited {o : Oper} {a : Act} {w : World} {R : Value → Prop} (h : okOp P o a w none R) : ∃ u, R u := by
  unfold okOp at h
  simp only [] at h
  generalize (execOp a.eval o).run P w = r at h
  cases r with
  | halt x w' => exact h.elim
  | ok n w' =>
    cases n <;> simp only [relUpon] at h
    case value u => exact ⟨u, h.2⟩
    case skip => exact ⟨undef, h.2⟩
    case enter f args =>
      obtain ⟨e, w'', fr, ⟨_, v, _, hv⟩, _⟩ := h.2 []
      exact ⟨v, hv⟩

/-- The blocks that the listed operations have made. -/
def newsL (k : Nat) (S : List Item') (listed : Nat → Bool) (v : Nat → Value) (w : World) : Prop :=
  ∀ j kd ob R, j < k → listed j = true → S[j]? = some (some (kd, ob), R) → (∃ b, v j = nv kd b ∧ w.heap[b]? = some ob) ∧ ∀ i kd' ob' R', i < k → i ≠ j → listed i = true → S[i]? = some (some (kd', ob'), R') → ∀ b b', v j = nv kd b → v i = nv kd' b' → b ≠ b'
theorem heap_lt {w : World} {b : Nat} {ob : Obj} (h : w.heap[b]? = some ob) : b < w.heap.size := by
  rcases Nat.lt_or_ge b w.heap.size with h' | h'
  · exact h'
  · rw [Array.getElem?_eq_none h'] at h; cases h
theorem newsL_below {listed : Nat → Bool} {v : Nat → Value} {w w' : World} (h : newsL k S listed v w) (hb : Below w.heap.size w w') : newsL k S listed v w' := by
  intro j kd ob R hj hl hS
  obtain ⟨⟨b, e1, e2⟩, h2⟩ := h j kd ob R hj hl hS
  exact ⟨⟨b, e1, by rw [hb.block b (heap_lt e2)]; exact e2⟩, h2⟩

/-- What the listed operations have left is completed to the values of a walk in the text's order. -/
theorem complete (L : LooseSpec ops k) (h : wpRel P ops w0 QQ (ops.toList.take k) S a0 []) (listed : Array Bool) (v : Nat → Value) (w : World) (hbw : Below w0.heap.size w0 w) (hnew : newsL k S (fun j => listed.getD j false) v w)
    (hdown : ∀ j o, j < k → ops[j]? = some o → listed.getD j false = true → ∀ e ∈ depsOf o, listed.getD e false = true)
    (hlx : ∀ j o N R, j < k → ops[j]? = some o → S[j]? = some (N, R) → listed.getD j false = true →
      (Region.wanted o (yielded ops (fillL ops k a0 v listed).tmps) = true → Rof w0.heap.size N R (v j)) ∧ (Region.wanted o (yielded ops (fillL ops k a0 v listed).tmps) = false → v j = undef ∧ N = none)) :
    ∀ i, i ≤ k → ∃ v' w', Below w.heap.size w w' ∧ (∀ j, j < i → LexAt ops k S w0.heap.size a0 v' j) ∧ (∀ j, j < i → listed.getD j false = true → v' j = v j) ∧ ∀ j kd ob R, j < i → S[j]? = some (some (kd, ob), R) → ∃ b, v' j = nv kd b ∧ w'.heap[b]? = some ob
  | 0, _ => ⟨v, w, Below.refl _ _, fun _ h => by omega, fun _ h => by omega, fun _ _ _ _ h => by omega⟩
  | i + 1, hi => by
    obtain ⟨v', w', hb', h1, h2, h3⟩ := complete L h listed v w hbw hnew hdown hlx i (by omega)
    have hseen : ∀ o, seen ops o (accF ops S v' i) w' := fun o x hx _ => by
      obtain ⟨j, kd, ob, R, hj, hS, rfl⟩ := accF_mem i x hx
      exact h3 j kd ob R hj hS
    obtain ⟨o, ho⟩ := L.some_ i (by omega)
    obtain ⟨N, R, hSi, hw1, hw2⟩ := ob_at L h v' (by omega) h1 ho
    have upd : ∀ u, ((Region.wanted o (yielded ops (fillN ops k a0 v' i).tmps) = true → Rof w0.heap.size N R u) ∧ (Region.wanted o (yielded ops (fillN ops k a0 v' i).tmps) = false → u = undef ∧ N = none)) →
        ∀ j, j < i + 1 → LexAt ops k S w0.heap.size a0 (fun j => if j = i then u else v' j) j := by
      intro u hu j hj o' ho' N' R' hS'
      have hc : fillN ops k a0 (fun j => if j = i then u else v' j) j = fillN ops k a0 v' j := fillN_congr fun x hx => by rw [if_neg (by omega)]
      rw [hc]
      by_cases hji : j = i
      · subst hji
        rw [ho] at ho'; cases ho'
        rw [hSi] at hS'; cases hS'
        simpa using hu
      · simp only [hji, if_false]
        exact h1 j (by omega) o' ho' N' R' hS'
    by_cases hli : listed.getD i false = true
    · refine ⟨fun j => if j = i then v i else v' j, w', hb', upd (v i) ?_, fun j hj hl => ?_, fun j kd ob R' hj hS => ?_⟩
      · have := hlx i o N R (by omega) ho hSi hli
        have hlook : ∀ t, t ∈ o.looksAt ops → (fillL ops k a0 v listed).tmps[t]? = (fillN ops k a0 v' i).tmps[t]? := by
          intro t ht
          refine fillS_get _ _ _ (fun j _ hd => ?_) rfl
          have hdep := L.looks i o (by omega) ho j t hd ht
          have hji := L.back i o ho j hdep
          have hjl := hdown i o (by omega) ho hli j hdep
          refine ⟨by rw [hjl]; simp [hji], (h2 j hji hjl).symm⟩
        have hwq : Region.wanted o (yielded ops (fillL ops k a0 v listed).tmps) = Region.wanted o (yielded ops (fillN ops k a0 v' i).tmps) := by
          unfold Region.wanted
          cases hg : o.guard with
          | none => rfl
          | some gw =>
            obtain ⟨g, want⟩ := gw
            have hy : yielded ops (fillL ops k a0 v listed).tmps g = yielded ops (fillN ops k a0 v' i).tmps g := by
              unfold yielded
              cases hdg : (ops[g]?).bind (·.dst) with
              | none => rfl
              | some t => simp only [Option.bind_some]; rw [hlook t (by simp [Oper.looksAt, hg, hdg])]
            simp only [hy]
        rw [hwq] at this
        exact this
      · by_cases hji : j = i
        · subst hji; simp
        · simp only [hji, if_false]; exact h2 j (by omega) hl
      · by_cases hji : j = i
        · subst hji
          simp only [if_true]
          obtain ⟨⟨b, e1, e2⟩, _⟩ := hnew j kd ob R' (by omega) hli hS
          exact ⟨b, e1, by rw [hb'.block b (heap_lt e2)]; exact e2⟩
        · simp only [hji, if_false]; exact h3 j kd ob R' (by omega) hS
    · by_cases hw : Region.wanted o (yielded ops (fillN ops k a0 v' i).tmps) = true
      · have hok := hw1 hw w' (hbw.trans (hb'.mono hbw.size)) (hseen o)
        obtain ⟨u, w'', hu, hb'', hblk⟩ : ∃ u w'', Rof w0.heap.size N R u ∧ Below w'.heap.size w' w'' ∧ ∀ kd ob, N = some (kd, ob) → ∃ b, u = nv kd b ∧ w''.heap[b]? = some ob := by
          cases N with
          | none =>
            obtain ⟨u, hu⟩ := okOp_inhabited hok
            exact ⟨u, w', hu, Below.refl _ _, fun _ _ e => by cases e⟩
          | some y =>
            obtain ⟨kd, ob⟩ := y
            exact ⟨nv kd w'.heap.size, w'.alloc ob, ⟨_, Nat.le_trans hbw.size hb'.size, rfl⟩, (Below.refl _ _).alloc (Nat.le_refl _) _, fun kd' ob' e => by cases e; exact ⟨_, rfl, by show (w'.heap.push ob)[w'.heap.size]? = some ob; simp⟩⟩
        refine ⟨fun j => if j = i then u else v' j, w'', hb'.trans (hb''.mono hb'.size), upd u ⟨fun _ => hu, fun hf => (by rw [hw] at hf; cases hf)⟩, fun j hj hl => ?_, fun j kd ob R' hj hS => ?_⟩
        · by_cases hji : j = i
          · subst hji; exact absurd hl hli
          · simp only [hji, if_false]; exact h2 j (by omega) hl
        · by_cases hji : j = i
          · subst hji
            rw [hSi] at hS; cases hS
            simp only [if_true]
            exact hblk kd ob rfl
          · simp only [hji, if_false]
            obtain ⟨b, e1, e2⟩ := h3 j kd ob R' (by omega) hS
            exact ⟨b, e1, by rw [hb''.block b (heap_lt e2)]; exact e2⟩
      · have hw' : Region.wanted o (yielded ops (fillN ops k a0 v' i).tmps) = false := by simpa using hw
        refine ⟨fun j => if j = i then undef else v' j, w', hb', upd undef ⟨fun ht => (by rw [hw'] at ht; cases ht), fun _ => ⟨rfl, hw2 hw'⟩⟩, fun j hj hl => ?_, fun j kd ob R' hj hS => ?_⟩
        · by_cases hji : j = i
          · subst hji; exact absurd hl hli
          · simp only [hji, if_false]; exact h2 j (by omega) hl
        · by_cases hji : j = i
          · subst hji
            rw [hSi] at hS
            have := hw2 hw'
            cases hS; cases this
          · simp only [hji, if_false]; exact h3 j kd ob R' (by omega) hS

/-! Any order -/
def cnt (ops : Array Oper) (listed : Array Bool) : Nat := (List.range ops.size).countP fun j => !listed.getD j false
theorem countP_one {p q : Nat → Bool} {i : Nat} : ∀ (l : List Nat), l.Nodup → i ∈ l → p i = true → q i = false → (∀ j, j ≠ i → q j = p j) → l.countP p = l.countP q + 1
  | [], _, h, _, _, _ => by cases h
  | j :: l, hn, hi, hp, hq, h => by
    obtain ⟨hj, hn'⟩ := List.nodup_cons.1 hn
    simp only [List.countP_cons]
    by_cases hji : j = i
    · subst hji
      have : l.countP p = l.countP q := List.countP_congr fun x hx => by rw [h x (fun e => hj (e ▸ hx))]
      rw [this, hp, hq]; simp
    · have hi' : i ∈ l := by
        rcases List.mem_cons.1 hi with h | h
        · exact absurd h.symm hji
        · exact h
      rw [countP_one l hn' hi' hp hq h, h j hji]; omega
theorem getD_set {listed : Array Bool} {i : Nat} (hi : i < listed.size) (j : Nat) : (listed.setIfInBounds i true).getD j false = (listed.getD j false || j == i) := by
  by_cases h : j = i
  · subst h; simp [hi]
  · have := getD_set_ne (listed := listed) false (Ne.symm h)
    rw [this]; simp [h]
theorem getD_tf {listed : Array Bool} {i : Nat} (h : listed.getD i true = false) : i < listed.size ∧ listed.getD i false = false := by
  rcases Nat.lt_or_ge i listed.size with h' | h'
  · simp [h'] at h ⊢; exact h
  · simp [Array.getElem?_eq_none h'] at h
theorem getD_ft {listed : Array Bool} {i : Nat} (hi : i < listed.size) (h : listed.getD i false = false) : listed.getD i true = false := by
  simp [hi] at h ⊢; exact h
theorem mem_deps {o : Oper} {e : Nat} : e ∈ depsOf o ↔ ∃ x ∈ o.after, Region.binds .any x = true ∧ x.on = e := by
  simp [depsOf, and_assoc]
theorem ready_iff {listed : Array Bool} {i : Nat} : i ∈ Region.ready .any ops listed ↔ listed.getD i true = false ∧ ∃ o, ops[i]? = some o ∧ ∀ e ∈ depsOf o, listed.getD e false = true := by
  rw [mem_ready]
  refine and_congr_right fun _ => exists_congr fun o => and_congr_right fun _ => ⟨fun h e he => ?_, fun h e he hb => h _ (mem_deps.2 ⟨e, he, hb, rfl⟩)⟩
  obtain ⟨x, hx, hb, rfl⟩ := mem_deps.1 he
  exact h x hx hb
theorem lt_size {i : Nat} {o : Oper} (h : ops[i]? = some o) : i < ops.size := by
  rcases Nat.lt_or_ge i ops.size with h' | h'
  · exact h'
  · rw [Array.getElem?_eq_none h'] at h; cases h

theorem count_ge (k : Nat) : ∀ n, (List.range n).countP (fun j => !decide (j < k)) = n - k
  | 0 => by simp
  | n + 1 => by
    rw [List.range_succ, List.countP_append, count_ge k n]
    by_cases h : n < k
    · simp [h]; omega
    · simp [h]; omega
theorem getD_rep (n j : Nat) : (Array.replicate n false).getD j false = false := by
  rw [Array.getD_eq_getD_getElem?, Array.getElem?_replicate]; split <;> rfl
variable {Q : Exit → Act → World → Prop}
theorem any_tail (L : LooseSpec ops k) : ∀ (m t : Nat) (listed : Array Bool) (a : Act) (w : World), t + m = ops.size → k ≤ t → listed.size = ops.size → (∀ j, listed.getD j false = decide (j < t)) →
    wpList P ops Q (ops.toList.drop t) a w → wpAny P .any ops Q m listed a w
  | 0, t, listed, a, w, htm, hk, hsz, hl, h => by
    have ht : t = ops.size := by omega
    have hr : Region.ready .any ops listed = [] := by
      cases hr : Region.ready .any ops listed with
      | nil => rfl
      | cons i r =>
        have hi : i ∈ Region.ready .any ops listed := by rw [hr]; exact List.mem_cons_self ..
        obtain ⟨h1, o, ho, _⟩ := ready_iff.1 hi
        have := (getD_tf h1).2
        rw [hl i] at this
        have hlt := lt_size ho
        exfalso
        rw [ht] at this
        simp at this
        omega
    refine ⟨hr, ?_⟩
    rw [ht, List.drop_of_length_le (by simp)] at h
    exact h
  | m + 1, t, listed, a, w, htm, hk, hsz, hl, h => by
    have hlt : t < ops.toList.length := by simp; omega
    have hot : ops[t]? = some ops.toList[t] := by simp
    rw [List.drop_eq_getElem_cons hlt] at h
    have hready : t ∈ Region.ready .any ops listed := ready_iff.2 ⟨getD_ft (by rw [hsz]; simpa using hlt) (by rw [hl t]; simp), _, hot, fun e he => by rw [hl e]; simpa using L.back t _ hot e he⟩
    refine ⟨fun hr => (by rw [hr] at hready; cases hready), fun i hi => ?_⟩
    have hit : i = t := by
      obtain ⟨h1, o, ho, hd⟩ := ready_iff.1 hi
      have h2 := (getD_tf h1).2
      rw [hl i] at h2
      have h3 : t ≤ i := by simpa using h2
      rcases Nat.lt_or_ge t i with h4 | h4
      · have h6 := (L.tail i o (by omega) ho t h4).lt (t := t) L.back (fun e he => by have := hd e he; rw [hl e] at this; simpa using this)
        exact absurd h6 (Nat.lt_irrefl _)
      · omega
    subst hit
    unfold wpOp
    simp only [hot]
    have ih := fun a' w' (h' : wpList P ops Q (ops.toList.drop (i + 1)) a' w') => any_tail L m (i + 1) (listed.setIfInBounds i true) a' w' (by omega) (by omega) (by simpa using hsz)
      (fun j => by rw [getD_set (by rw [hsz]; simpa using hlt), hl j, Bool.eq_iff_iff]; simp; omega) h'
    unfold wpList at h
    split
    · rename_i hw
      rw [if_pos hw] at h
      exact h.imp (Oper.wp_mono ih) id
    · rename_i hw
      rw [if_neg hw] at h
      exact ih _ _ h

theorem news_of {v : Nat → Value} {w : World} (h : newsL k S (fun _ => true) v w) : ∀ i, i ≤ k → news w (accF ops S v i) := by
  intro i
  induction i with
  | zero => intro _; exact trivial
  | succ i ih =>
    intro hi
    unfold accF
    split
    · rename_i kd ob R hS
      obtain ⟨h1, h2⟩ := h i kd ob R (by omega) rfl hS
      refine ⟨h1, fun y hy b b' e1 e2 => ?_, ih (by omega)⟩
      obtain ⟨j, kd', ob', R', hj, hSj, rfl⟩ := accF_mem i y hy
      exact h2 j kd' ob' R' (by omega) (by omega) rfl hSj b b' e1 e2
    · exact ih (by omega)

theorem any_of (L : LooseSpec ops k) (h : wpRel P ops w0 (fun a acc => ∀ w, Below w0.heap.size w0 w → news w acc → wpList P ops Q (ops.toList.drop k) a w) (ops.toList.take k) S a0 []) (hk : k ≤ ops.size) :
    ∀ (fuel : Nat) (listed : Array Bool) (a : Act) (w : World) (v : Nat → Value), cnt ops listed = fuel → listed.size = ops.size → Below w0.heap.size w0 w → a = fillL ops k a0 v listed →
      (∀ t, k ≤ t → listed.getD t false = false) →
      (∀ j o, ops[j]? = some o → listed.getD j false = true → ∀ e ∈ depsOf o, listed.getD e false = true) →
      (∀ j o N R, j < k → ops[j]? = some o → S[j]? = some (N, R) → listed.getD j false = true →
        (Region.wanted o (yielded ops a.tmps) = true → Rof w0.heap.size N R (v j)) ∧ (Region.wanted o (yielded ops a.tmps) = false → v j = undef ∧ N = none)) →
      newsL k S (fun j => listed.getD j false) v w → wpAny P .any ops Q fuel listed a w := by
  intro fuel
  induction fuel with
  | zero =>
    intro listed a w v hc hsz hb ha htl hdown hlx hnew
    have hall : ∀ j, j < ops.size → listed.getD j false = true := by
      intro j hj
      cases hjl : listed.getD j false with
      | true => rfl
      | false =>
        have := List.countP_eq_zero.1 hc j (List.mem_range.2 hj)
        simp [hjl] at this
    have hkk : k = ops.size := by
      rcases Nat.lt_or_ge k ops.size with h' | h'
      · have := hall k h'; rw [htl k (Nat.le_refl _)] at this; cases this
      · omega
    subst ha
    obtain ⟨v', _, _, h1, h2, _⟩ := complete L h listed v w hb hnew (fun j o _ => hdown j o) hlx k (Nat.le_refl _)
    have := wp_at L h v' k (Nat.le_refl _) h1
    have e0 : (ops.toList.take k).drop k = [] := List.drop_of_length_le (by simp; omega)
    rw [e0] at this
    have hacc := this w hb (news_of (fun j kd ob R hj _ hS => by
      obtain ⟨e1, e2⟩ := hnew j kd ob R hj (hall j (by omega)) hS
      refine ⟨by rw [h2 j hj (hall j (by omega))]; exact e1, fun i kd' ob' R' hi hij _ hSi => ?_⟩
      rw [h2 j hj (hall j (by omega)), h2 i hi (hall i (by omega))]
      exact e2 i kd' ob' R' hi hij (hall i (by omega)) hSi) k (Nat.le_refl _))
    have hfill : fillN ops k a0 v' k = fillL ops k a0 v listed := fillS_congr _ _ fun j hj => by
      have hj' := List.mem_range.1 hj
      exact ⟨by rw [hall j (by omega)]; simpa using hj', fun _ => h2 j hj' (hall j (by omega))⟩
    rw [hfill] at hacc
    exact any_tail L 0 k listed _ w (by omega) (Nat.le_refl _) hsz (fun j => by
      by_cases hj : j < k
      · rw [hall j (by omega)]; simp [hj]
      · rw [htl j (by omega)]; simp [hj]) hacc
  | succ fuel ih =>
    intro listed a w v hc hsz hb ha htl hdown hlx hnew
    by_cases hall : ∀ j, j < k → listed.getD j false = true
    · subst ha
      obtain ⟨v', _, _, h1, h2, _⟩ := complete L h listed v w hb hnew (fun j o _ => hdown j o) hlx k (Nat.le_refl _)
      have := wp_at L h v' k (Nat.le_refl _) h1
      have e0 : (ops.toList.take k).drop k = [] := List.drop_of_length_le (by simp; omega)
      rw [e0] at this
      have hacc := this w hb (news_of (fun j kd ob R hj _ hS => by
        obtain ⟨e1, e2⟩ := hnew j kd ob R hj (hall j hj) hS
        refine ⟨by rw [h2 j hj (hall j hj)]; exact e1, fun i kd' ob' R' hi hij _ hSi => ?_⟩
        rw [h2 j hj (hall j hj), h2 i hi (hall i hi)]
        exact e2 i kd' ob' R' hi hij (hall i hi) hSi) k (Nat.le_refl _))
      have hfill : fillN ops k a0 v' k = fillL ops k a0 v listed := fillS_congr _ _ fun j hj => by
        have hj' := List.mem_range.1 hj
        exact ⟨by rw [hall j hj']; simpa using hj', fun _ => h2 j hj' (hall j hj')⟩
      rw [hfill] at hacc
      have hl : ∀ j, listed.getD j false = decide (j < k) := fun j => by
        by_cases hj : j < k
        · rw [hall j hj]; simp [hj]
        · rw [htl j (by omega)]; simp [hj]
      have hfk : k + (fuel + 1) = ops.size := by
        have e1 : cnt ops listed = ops.size - k := by
          unfold cnt
          have hf : (fun j => !listed.getD j false) = fun j => !decide (j < k) := by funext j; rw [hl j]
          rw [hf]
          exact count_ge k ops.size
        omega
      exact any_tail L (fuel + 1) k listed _ w hfk (Nat.le_refl _) hsz hl hacc
    · -- an operation ahead of the tail is open
      obtain ⟨j0, hj0, hu0⟩ : ∃ j, j < k ∧ listed.getD j false = false := by
        apply Classical.byContradiction
        intro hn
        refine hall fun j hj => ?_
        cases hjl : listed.getD j false with
        | true => rfl
        | false => exact absurd ⟨j, hj, hjl⟩ hn
      have hready : Region.ready .any ops listed ≠ [] := by
        have least : ∀ n j, j ≤ n → listed.getD j false = false → j < k → ∃ i, i < k ∧ listed.getD i false = false ∧ ∀ x, x < i → listed.getD x false = true := by
          intro n
          induction n with
          | zero => intro j hj hl hjk; exact ⟨j, hjk, hl, fun x hx => by omega⟩
          | succ n ihn =>
            intro j hj hl hjk
            by_cases hx : ∀ x, x < j → listed.getD x false = true
            · exact ⟨j, hjk, hl, hx⟩
            · obtain ⟨x, hxj, hxl⟩ : ∃ x, x < j ∧ listed.getD x false = false := by
                apply Classical.byContradiction
                intro hn
                refine hx fun x hx' => ?_
                cases hxl : listed.getD x false with
                | true => rfl
                | false => exact absurd ⟨x, hx', hxl⟩ hn
              exact ihn x (by omega) hxl (by omega)
        obtain ⟨i, hik, hil, hlow⟩ := least j0 j0 (Nat.le_refl _) hu0 hj0
        obtain ⟨o, ho⟩ := L.some_ i hik
        intro hr
        have : i ∈ Region.ready .any ops listed := ready_iff.2 ⟨getD_ft (by rw [hsz]; exact lt_size ho) hil, o, ho, fun e he => hlow e (L.back i o ho e he)⟩
        rw [hr] at this; cases this
      refine ⟨fun hr => absurd hr hready, fun i hi => ?_⟩
      obtain ⟨h1, o, ho, hd⟩ := ready_iff.1 hi
      obtain ⟨his, hil⟩ := getD_tf h1
      have hik : i < k := by
        rcases Nat.lt_or_ge i k with h' | h'
        · exact h'
        · have h6 := (L.tail i o h' ho j0 (by omega)).got (Q := fun j => listed.getD j false = true) (fun e o' ho' he => hdown e o' ho' he) hd
          rw [h6] at hu0; cases hu0
      subst ha
      obtain ⟨v', _, _, hv1, hv2, _⟩ := complete L h listed v w hb hnew (fun j o _ => hdown j o) hlx k (Nat.le_refl _)
      obtain ⟨N, R, hSi, hw1, hw2⟩ := ob_at L h v' hik (fun j hj => hv1 j (by omega)) ho
      have hlook : ∀ t, t ∈ o.looksAt ops → (fillL ops k a0 v listed).tmps[t]? = (fillN ops k a0 v' i).tmps[t]? := by
        intro t ht
        refine fillS_get _ _ _ (fun j hj hdj => ?_) rfl
        have hdep := L.looks i o hik ho j t hdj ht
        have hji := L.back i o ho j hdep
        have hjl := hd j hdep
        refine ⟨by rw [hjl]; simp [hji], (hv2 j (List.mem_range.1 hj) hjl).symm⟩
      have hwq : Region.wanted o (yielded ops (fillL ops k a0 v listed).tmps) = Region.wanted o (yielded ops (fillN ops k a0 v' i).tmps) := by
        unfold Region.wanted
        cases hg : o.guard with
        | none => rfl
        | some gw =>
          obtain ⟨g, want⟩ := gw
          have hy : yielded ops (fillL ops k a0 v listed).tmps g = yielded ops (fillN ops k a0 v' i).tmps g := by
            unfold yielded
            cases hdg : (ops[g]?).bind (·.dst) with
            | none => rfl
            | some t => simp only [Option.bind_some]; rw [hlook t (by simp [Oper.looksAt, hg, hdg])]
          simp only [hy]
      have hex : execOp (fillL ops k a0 v listed).eval o = execOp (fillN ops k a0 v' i).eval o := execOp_congr o (fun cs b => L.sel i o cs b ho) fun x hx => by
        cases x with
        | tmp t => exact eval_get (hlook t (List.mem_append_left _ (List.mem_filterMap.2 ⟨.tmp t, by simpa using hx, rfl⟩)))
        | _ => rfl
      have hdo : dsO ops i = o.dst := by simp [dsO, ho]
      -- the step, whatever came of it
      have next : ∀ u w', Below w.heap.size w w' → (Region.wanted o (yielded ops (fillL ops k a0 v listed).tmps) = true → Rof w0.heap.size N R u) → (Region.wanted o (yielded ops (fillL ops k a0 v listed).tmps) = false → u = undef ∧ N = none) →
          (∀ kd ob, N = some (kd, ob) → u = nv kd w.heap.size ∧ w'.heap[w.heap.size]? = some ob) →
          wpAny P .any ops Q fuel (listed.setIfInBounds i true) ((fillL ops k a0 v listed).put o.dst u) w' := by
        intro u w' hbw hr1 hr2 hob
        have hput : (fillL ops k a0 v listed).put o.dst u = fillL ops k a0 (fun j => if j = i then u else v j) (listed.setIfInBounds i true) := by
          rw [← hdo]
          unfold fillL
          rw [fillS_put (ds := dsO ops) (List.range k) a0 List.nodup_range (List.mem_range.2 hik) hil (fun j hj hji d hdj => L.apart i j hik (List.mem_range.1 hj) (Ne.symm hji) d hdj)]
          exact fillS_congr _ _ fun j _ => ⟨(getD_set his j).symm, fun _ => rfl⟩
        have hwj : ∀ j o', j < k → ops[j]? = some o' → (listed.setIfInBounds i true).getD j false = true → Region.wanted o' (yielded ops ((fillL ops k a0 v listed).put o.dst u).tmps) = Region.wanted o' (yielded ops (fillL ops k a0 v listed).tmps) := by
          intro j o' hjk ho' hjl
          refine wanted_put o' _ o.dst u fun d hdd hdl => ?_
          have hdep := L.looks j o' hjk ho' i d (by simp [ho, hdd]) hdl
          have hij := L.back j o' ho' i hdep
          rw [getD_set his] at hjl
          have hjl' : listed.getD j false = true := by
            have : (j == i) = false := by simp; omega
            rwa [this, Bool.or_false] at hjl
          rw [hdown j o' ho' hjl' i hdep] at hil; cases hil
        refine ih (listed.setIfInBounds i true) _ w' (fun j => if j = i then u else v j) ?_ (by simpa using hsz) (hb.trans (hbw.mono hb.size)) hput ?_ ?_ ?_ ?_
        · have := countP_one (p := fun j => !listed.getD j false) (q := fun j => !(listed.setIfInBounds i true).getD j false) (i := i) (List.range ops.size) List.nodup_range (List.mem_range.2 (lt_size ho)) (by simp [hil]) (by rw [getD_set his]; simp) (fun j hj => by rw [getD_set his]; simp [hj])
          unfold cnt at hc ⊢
          omega
        · intro t ht
          rw [getD_set his, htl t ht]
          simp; omega
        · intro j o' ho' hjl e he
          rw [getD_set his] at hjl ⊢
          rw [Bool.or_eq_true] at hjl ⊢
          rcases hjl with hjl | hjl
          · exact .inl (hdown j o' ho' hjl e he)
          · have hji : j = i := by simpa using hjl
            subst hji
            rw [ho] at ho'; cases ho'
            exact .inl (hd e he)
        · intro j o' N' R' hjk ho' hS' hjl
          rw [hwj j o' hjk ho' hjl]
          by_cases hji : j = i
          · subst hji
            rw [ho] at ho'; cases ho'
            rw [hSi] at hS'; cases hS'
            simp only [if_true]
            exact ⟨hr1, hr2⟩
          · simp only [hji, if_false]
            rw [getD_set his] at hjl
            have : (j == i) = false := by simpa using hji
            rw [this, Bool.or_false] at hjl
            exact hlx j o' N' R' hjk ho' hS' hjl
        · have hn' := newsL_below hnew hbw
          have old : ∀ j, j ≠ i → (listed.setIfInBounds i true).getD j false = true → listed.getD j false = true := fun j hj hl => by
            rw [getD_set his] at hl
            have : (j == i) = false := by simpa using hj
            rwa [this, Bool.or_false] at hl
          have oldlt : ∀ j kd ob' R', j < k → listed.getD j false = true → S[j]? = some (some (kd, ob'), R') → ∀ b, v j = nv kd b → b < w.heap.size := by
            intro j kd ob' R' hjk hjl hSj b hbv
            obtain ⟨⟨b', e1, e2⟩, _⟩ := hnew j kd ob' R' hjk hjl hSj
            rw [hbv] at e1
            rw [nv_inj e1]
            exact heap_lt e2
          intro j kd ob R hjk hjl hSj
          by_cases hji : j = i
          · subst hji
            rw [hSi] at hSj; cases hSj
            obtain ⟨e1, e2⟩ := hob kd ob rfl
            simp only [if_true]
            refine ⟨⟨_, e1, e2⟩, fun x kd' ob' R'' hxk hxj hxl hSx b b' f1 f2 => ?_⟩
            simp only [hxj, if_false] at f2
            have := oldlt x kd' ob' R'' hxk (old x hxj hxl) hSx b' f2
            rw [e1] at f1
            have := nv_inj f1
            omega
          · simp only [hji, if_false]
            obtain ⟨e1, e2⟩ := hn' j kd ob R hjk (old j hji hjl) hSj
            refine ⟨e1, fun x kd' ob' R'' hxk hxj hxl hSx b b' f1 f2 => ?_⟩
            by_cases hxi : x = i
            · subst hxi
              rw [hSi] at hSx; cases hSx
              obtain ⟨e3, _⟩ := hob kd' ob' rfl
              simp only [if_true] at f2
              have := oldlt j kd ob R hjk (old j hji hjl) hSj b f1
              rw [e3] at f2
              have := nv_inj f2
              omega
            · simp only [hxi, if_false] at f2
              exact e2 x kd' ob' R'' hxk hxj (old x hxi hxl) hSx b b' f1 f2
      unfold wpOp
      simp only [ho]
      split
      · rename_i hw
        left
        have hok := hw1 (by rw [← hwq]; exact hw) w hb (fun x hx ⟨d, hd1, hd2⟩ => by
          obtain ⟨j, kd, ob, R', hji, hSj, rfl⟩ := accF_mem i x hx
          have hjl := hd j (L.looks i o hik ho j d hd1 hd2)
          obtain ⟨⟨b, e1, e2⟩, _⟩ := hnew j kd ob R' (by omega) hjl hSj
          exact ⟨b, by show v' j = _; rw [hv2 j (by omega) hjl]; exact e1, e2⟩)
        unfold okOp at hok
        unfold Oper.wp
        rw [hex]
        cases N with
        | some y =>
          obtain ⟨kd, ob⟩ := y
          simp only [] at hok
          rw [hok]
          exact next _ _ ((Below.refl _ _).alloc (Nat.le_refl _) _) (fun _ => ⟨_, hb.size, rfl⟩) (fun hf => (by rw [hw] at hf; cases hf)) (fun kd' ob' e => by cases e; exact ⟨rfl, by show (w.heap.push ob)[w.heap.size]? = some ob; simp⟩)
        | none =>
          simp only [] at hok
          generalize (execOp (fillN ops k a0 v' i).eval o).run P w = r at hok ⊢
          cases r with
          | halt x w' => exact hok.elim
          | ok n w' =>
            cases n <;> simp only [relUpon] at hok <;> simp only [Oper.upon]
            case value u => exact next u w' hok.1 (fun _ => hok.2) (fun hf => (by rw [hw] at hf; cases hf)) (fun _ ob e => by cases e)
            case skip => exact next undef w' hok.1 (fun _ => hok.2) (fun hf => (by rw [hw] at hf; cases hf)) (fun _ ob e => by cases e)
            case enter f args =>
              obtain ⟨e1, hcl⟩ := hok
              rw [e1]
              refine hcl.mono fun e w'' ⟨hbw, u, he, hu⟩ => ?_
              subst he
              exact next u w'' hbw (fun _ => hu) (fun hf => (by rw [hw] at hf; cases hf)) (fun _ ob e => by cases e)
      · rename_i hw
        have hw' : Region.wanted o (yielded ops (fillL ops k a0 v listed).tmps) = false := by simpa using hw
        exact next undef w (Below.refl _ _) (fun ht => (by rw [hw'] at ht; cases ht)) (fun _ => ⟨rfl, hw2 (by rw [← hwq]; exact hw')⟩) (fun _ ob e => by rw [hw2 (by rw [← hwq]; exact hw')] at e; cases e)

/-- **A region whose order is open, walked once in the order of the text** (its first k operations in whatever order; the rest, stores mostly, wait for all of them). -/
theorem region_loose {id : Nat} {a : Act} {w : World} {l : List Oper} (S : List Item') (k : Nat) (hm : P.follows .mixedOrders = true) (hB : (looseB l.toArray k && decide (k ≤ l.length)) = true)
    (h : wpRel P l.toArray w (fun a' acc => ∀ w1, Below w.heap.size w w1 → news w1 acc → wpList P l.toArray Q (l.drop k) a' w1) (l.take k) S a []) : (Code.region id l.toArray true).wp P Q a w := by
  rw [Bool.and_eq_true] at hB
  refine wp_region_any hm ?_
  have L := looseB_spec hB.1
  refine any_of (P := P) (S := S) (w0 := w) (a0 := a) (k := k) L (by simpa using h) (by simpa using hB.2) l.toArray.size (Array.replicate l.toArray.size false) a { w with drawn := w.drawn + 1 } (fun _ => undef) ?_ (by simp) ⟨rfl, rfl, rfl, Nat.le_refl _, fun _ _ => rfl⟩ ?_ ?_ ?_ ?_ ?_
  · unfold cnt
    have : (List.range l.toArray.size).countP (fun j => !(Array.replicate l.toArray.size false).getD j false) = (List.range l.toArray.size).length := List.countP_eq_length.2 fun j hj => by
      rw [getD_rep]; rfl
    rw [this]; simp
  · unfold fillL
    have : (fun j => (Array.replicate l.toArray.size false).getD j false) = fun _ : Nat => false := by
      funext j
      exact getD_rep _ _
    rw [this]; exact (fillS_none _ _).symm
  · intro t _; exact getD_rep _ _
  · intro j o _ hj; rw [getD_rep] at hj; cases hj
  · intro j o N R _ _ _ hj; rw [getD_rep] at hj; cases hj
  · intro j kd ob R _ hj; simp only [getD_rep] at hj; cases hj
end sound
theorem region_looseK {P : Program} {Q : Exit → Act → World → Prop} {id : Nat} {a : Act} {w : World} {l : List Oper} (S : List Item') (k : Nat) (hm : P.follows .mixedOrders = true) (hB : (looseB l.toArray k && decide (k ≤ l.length)) = true)
    (h : ∀ (ops : Array Oper) (K : Act → List New → Prop), ops = l.toArray → (∀ a' acc, (∀ w1, Below w.heap.size w w1 → news w1 acc → wpList P l.toArray Q (l.drop k) a' w1) → K a' acc) → wpRel P ops w K (l.take k) S a []) : (Code.region id l.toArray true).wp P Q a w :=
  region_loose S k hm hB (h _ _ rfl fun _ _ h => h)
end Loof
end Go.Proofs.Ytnkfbinppikhkaa
