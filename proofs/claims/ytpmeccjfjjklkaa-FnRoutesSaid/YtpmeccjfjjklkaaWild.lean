/- A region of open order with one call that turns the world; every other operation ahead of the tail yields a known value and turns nothing. No condition. -/
import Derived.Test.YtpmeccjfjjklkaaRel
namespace Go.Proofs.Ytpmeccjfjjklkaa
open Go.RowKit
section wild
variable {P : Program} {ops : Array Oper} {k c : Nat} {S : List (Value → Prop)} {a0 : Act} {I : Bool → World → Prop} {QA : Act → Prop}
/-- What one operation is asked: the call's turns the state I false to I true; another's yields a value and turns nothing. -/
def okW (P : Program) (I : Bool → World → Prop) (o : Oper) (a : Act) (wild : Bool) (R : Value → Prop) : Prop :=
  if wild = true then ∀ w, I false w → ∃ f args, (execOp a.eval o).run P w = .ok (.enter f args) w ∧ Calls P f args w (fun e w'' => I true w'' ∧ ∃ v, e = .returned v ∧ R v)
  else ∀ b w, I b w → ∃ u, (execOp a.eval o).run P w = .ok (.value u) w ∧ R u
def wpW (P : Program) (c : Nat) (I : Bool → World → Prop) (QA : Act → Prop) : Nat → List Oper → List (Value → Prop) → Act → Prop
  | _, [], _, a => QA a
  | _, _ :: _, [], _ => False
  | i, o :: l, R :: S, a => o.guard = none ∧ okW P I o a (i == c) R ∧ ∀ v, R v → wpW P c I QA (i + 1) l S (a.put o.dst v)
def LexW (S : List (Value → Prop)) (v : Nat → Value) (j : Nat) : Prop := ∀ R, S[j]? = some R → R (v j)
theorem wpW_at (L : LooseSpec ops k) (h : wpW P c I QA 0 (ops.toList.take k) S a0) (v : Nat → Value) : ∀ i, i ≤ k → (∀ j, j < i → LexW S v j) → wpW P c I QA i ((ops.toList.take k).drop i) (S.drop i) (fillN ops k a0 v i)
  | 0, _, _ => by rw [fillN_zero]; exact h
  | i + 1, hi, hl => by
    have ih := wpW_at L h v i (by omega) (fun j hj => hl j (by omega))
    obtain ⟨o, ho⟩ := L.some_ i (by omega)
    have hol : (ops.toList.take k)[i]? = some o := by rw [List.getElem?_take_of_lt (by omega)]; simpa using ho
    obtain ⟨hlt, heq⟩ := List.getElem?_eq_some_iff.1 hol
    rw [List.drop_eq_getElem_cons hlt, heq] at ih
    cases hS : S.drop i with
    | nil => rw [hS] at ih; exact ih.elim
    | cons R S' =>
      rw [hS] at ih
      have hSi : S[i]? = some R := by
        have : (S.drop i)[0]? = some R := by rw [hS]; rfl
        simpa using this
      have hS' : S.drop (i + 1) = S' := by
        have : (S.drop i).tail = S' := by rw [hS]; rfl
        rw [← this, List.tail_drop]
      rw [fillN_succ L v (by omega), hS']
      have hd : dsO ops i = o.dst := by simp [dsO, ho]
      rw [hd]
      exact ih.2.2 (v i) (hl i (by omega) R hSi)
theorem okW_at (L : LooseSpec ops k) (h : wpW P c I QA 0 (ops.toList.take k) S a0) (v : Nat → Value) {i : Nat} (hi : i < k) (hl : ∀ j, j < i → LexW S v j) {o : Oper} (ho : ops[i]? = some o) :
    ∃ R, S[i]? = some R ∧ o.guard = none ∧ okW P I o (fillN ops k a0 v i) (i == c) R := by
  have ih := wpW_at L h v i (by omega) hl
  have hol : (ops.toList.take k)[i]? = some o := by rw [List.getElem?_take_of_lt hi]; simpa using ho
  obtain ⟨hlt, heq⟩ := List.getElem?_eq_some_iff.1 hol
  rw [List.drop_eq_getElem_cons hlt, heq] at ih
  cases hS : S.drop i with
  | nil => rw [hS] at ih; exact ih.elim
  | cons R S' =>
    rw [hS] at ih
    have hSi : S[i]? = some R := by
      have : (S.drop i)[0]? = some R := by rw [hS]; rfl
      simpa using this
    exact ⟨R, hSi, ih.1, ih.2.1⟩
theorem okW_some {o : Oper} {a : Act} {wild b : Bool} {w : World} {R : Value → Prop} (h : okW P I o a wild R) (hI : I b w) (hb : wild = true → b = false) : ∃ u, R u := by
  unfold okW at h
  by_cases e : wild = true
  · rw [if_pos e] at h
    rw [hb e] at hI
    obtain ⟨f, args, -, hc⟩ := h w hI
    obtain ⟨e', w'', fr, ⟨_, v, _, hv⟩, _⟩ := hc []
    exact ⟨v, hv⟩
  · rw [if_neg e] at h
    obtain ⟨u, -, hu⟩ := h b w hI
    exact ⟨u, hu⟩
theorem completeW (L : LooseSpec ops k) (h : wpW P c I QA 0 (ops.toList.take k) S a0) (listed : Array Bool) (v : Nat → Value) (w : World) (hI : I (listed.getD c false) w)
    (hlx : ∀ j R, j < k → S[j]? = some R → listed.getD j false = true → R (v j)) :
    ∀ i, i ≤ k → ∃ v' : Nat → Value, (∀ j, j < i → LexW S v' j) ∧ ∀ j, j < i → listed.getD j false = true → v' j = v j
  | 0, _ => ⟨v, fun _ h => by omega, fun _ h => by omega⟩
  | i + 1, hi => by
    obtain ⟨v', h1, h2⟩ := completeW L h listed v w hI hlx i (by omega)
    obtain ⟨o, ho⟩ := L.some_ i (by omega)
    obtain ⟨R, hSi, hg, hok⟩ := okW_at L h v' (by omega) h1 ho
    have upd : ∀ u, R u → ∀ j, j < i + 1 → LexW S (fun j => if j = i then u else v' j) j := by
      intro u hu j hj R' hS'
      by_cases hji : j = i
      · subst hji
        rw [hSi] at hS'; cases hS'
        simpa using hu
      · simp only [hji, if_false]
        exact h1 j (by omega) R' hS'
    by_cases hli : listed.getD i false = true
    · refine ⟨fun j => if j = i then v i else v' j, upd (v i) (hlx i R (by omega) hSi hli), fun j hj hl => ?_⟩
      by_cases hji : j = i
      · subst hji; simp
      · simp only [hji, if_false]; exact h2 j (by omega) hl
    · obtain ⟨u, hu⟩ := okW_some hok hI (fun e => by
        have e' : i = c := by simpa using e
        rw [← e']; simpa using hli)
      refine ⟨fun j => if j = i then u else v' j, upd u hu, fun j hj hl => ?_⟩
      by_cases hji : j = i
      · subst hji; exact absurd hl hli
      · simp only [hji, if_false]; exact h2 j (by omega) hl
variable {Q : Exit → Act → World → Prop}
theorem anyW_of (L : LooseSpec ops k) (hck : c < k) (h : wpW P c I (fun a => ∀ w, I true w → wpList P ops Q (ops.toList.drop k) a w) 0 (ops.toList.take k) S a0) (hk : k ≤ ops.size) :
    ∀ (fuel : Nat) (listed : Array Bool) (a : Act) (w : World) (v : Nat → Value), cnt ops listed = fuel → listed.size = ops.size → I (listed.getD c false) w → a = fillL ops k a0 v listed →
      (∀ t, k ≤ t → listed.getD t false = false) →
      (∀ j o, ops[j]? = some o → listed.getD j false = true → ∀ e ∈ depsOf o, listed.getD e false = true) →
      (∀ j R, j < k → S[j]? = some R → listed.getD j false = true → R (v j)) → wpAny P .any ops Q fuel listed a w := by
  intro fuel
  induction fuel with
  | zero =>
    intro listed a w v hc hsz hb ha htl hdown hlx
    have hall : ∀ j, j < ops.size → listed.getD j false = true := by
      intro j hj
      cases hjl : listed.getD j false with
      | true => rfl
      | false =>
        have := List.countP_eq_zero.1 hc j (List.mem_range.2 hj)
        simp [hjl] at this
    subst ha
    obtain ⟨v', h1, h2⟩ := completeW L h listed v w hb hlx k (Nat.le_refl _)
    have := wpW_at L h v' k (Nat.le_refl _) h1
    have e0 : (ops.toList.take k).drop k = [] := List.drop_of_length_le (by simp; omega)
    rw [e0] at this
    rw [hall c (by omega)] at hb
    have hacc := this w hb
    have hfill : fillN ops k a0 v' k = fillL ops k a0 v listed := fillS_congr _ _ fun j hj => by
      have hj' := List.mem_range.1 hj
      exact ⟨by rw [hall j (by omega)]; simpa using hj', fun _ => h2 j hj' (hall j (by omega))⟩
    rw [hfill] at hacc
    have hkk : k = ops.size := by
      rcases Nat.lt_or_ge k ops.size with h' | h'
      · have := hall k h'; rw [htl k (Nat.le_refl _)] at this; cases this
      · omega
    exact any_tail L 0 k listed _ w (by omega) (Nat.le_refl _) hsz (fun j => by
      by_cases hj : j < k
      · rw [hall j (by omega)]; simp [hj]
      · rw [htl j (by omega)]; simp [hj]) hacc
  | succ fuel ih =>
    intro listed a w v hc hsz hb ha htl hdown hlx
    by_cases hall : ∀ j, j < k → listed.getD j false = true
    · subst ha
      obtain ⟨v', h1, h2⟩ := completeW L h listed v w hb hlx k (Nat.le_refl _)
      have := wpW_at L h v' k (Nat.le_refl _) h1
      have e0 : (ops.toList.take k).drop k = [] := List.drop_of_length_le (by simp; omega)
      rw [e0] at this
      rw [hall c hck] at hb
      have hacc := this w hb
      have hfill : fillN ops k a0 v' k = fillL ops k a0 v listed := fillS_congr _ _ fun j hj => by
        have hj' := List.mem_range.1 hj
        exact ⟨by rw [hall j hj']; simpa using hj', fun _ => h2 j hj' (hall j hj')⟩
      rw [hfill] at hacc
      have hl : ∀ j, listed.getD j false = decide (j < k) := fun j => by
        by_cases hj : j < k
        · rw [hall j hj]; simp [hj]
        · rw [htl j (by omega)]; simp [hj]
      have hfk : k + (fuel + 1) = ops.size := by
        have e1 : cnt ops listed = ops.size - k := by
          unfold cnt
          have hf : (fun j => !listed.getD j false) = fun j => !decide (j < k) := by funext j; rw [hl j]
          rw [hf]
          exact count_ge k ops.size
        omega
      exact any_tail L (fuel + 1) k listed _ w hfk (Nat.le_refl _) hsz hl hacc
    · obtain ⟨j0, hj0, hu0⟩ : ∃ j, j < k ∧ listed.getD j false = false := by
        apply Classical.byContradiction
        intro hn
        refine hall fun j hj => ?_
        cases hjl : listed.getD j false with
        | true => rfl
        | false => exact absurd ⟨j, hj, hjl⟩ hn
      have hready : Region.ready .any ops listed ≠ [] := by
        have least : ∀ n j, j ≤ n → listed.getD j false = false → j < k → ∃ i, i < k ∧ listed.getD i false = false ∧ ∀ x, x < i → listed.getD x false = true := by
          intro n
          induction n with
          | zero => intro j hj hl hjk; exact ⟨j, hjk, hl, fun x hx => by omega⟩
          | succ n ihn =>
            intro j hj hl hjk
            by_cases hx : ∀ x, x < j → listed.getD x false = true
            · exact ⟨j, hjk, hl, hx⟩
            · obtain ⟨x, hxj, hxl⟩ : ∃ x, x < j ∧ listed.getD x false = false := by
                apply Classical.byContradiction
                intro hn
                refine hx fun x hx' => ?_
                cases hxl : listed.getD x false with
                | true => rfl
                | false => exact absurd ⟨x, hx', hxl⟩ hn
              exact ihn x (by omega) hxl (by omega)
        obtain ⟨i, hik, hil, hlow⟩ := least j0 j0 (Nat.le_refl _) hu0 hj0
        obtain ⟨o, ho⟩ := L.some_ i hik
        intro hr
        have : i ∈ Region.ready .any ops listed := ready_iff.2 ⟨getD_ft (by rw [hsz]; exact lt_size ho) hil, o, ho, fun e he => hlow e (L.back i o ho e he)⟩
        rw [hr] at this; cases this
      refine ⟨fun hr => absurd hr hready, fun i hi => ?_⟩
      obtain ⟨h1, o, ho, hd⟩ := ready_iff.1 hi
      obtain ⟨his, hil⟩ := getD_tf h1
      have hik : i < k := by
        rcases Nat.lt_or_ge i k with h' | h'
        · exact h'
        · rcases L.tail i o h' ho j0 (by omega) with h5 | ⟨e, he, o', ho', h5 | ⟨e', he', o'', ho'', h5⟩⟩
          · rw [hd j0 h5] at hu0; cases hu0
          · rw [hdown e o' ho' (hd e he) j0 h5] at hu0; cases hu0
          · rw [hdown e' o'' ho'' (hdown e o' ho' (hd e he) e' he') j0 h5] at hu0; cases hu0
      subst ha
      obtain ⟨v', hv1, hv2⟩ := completeW L h listed v w hb hlx k (Nat.le_refl _)
      obtain ⟨R, hSi, hg, hok⟩ := okW_at L h v' hik (fun j hj => hv1 j (by omega)) ho
      have hlook : ∀ t, t ∈ o.looksAt ops → (fillL ops k a0 v listed).tmps[t]? = (fillN ops k a0 v' i).tmps[t]? := by
        intro t ht
        refine fillS_get _ _ _ (fun j hj hdj => ?_) rfl
        have hdep := L.looks i o hik ho j t hdj ht
        have hji := L.back i o ho j hdep
        have hjl := hd j hdep
        refine ⟨by rw [hjl]; simp [hji], (hv2 j (List.mem_range.1 hj) hjl).symm⟩
      have hex : execOp (fillL ops k a0 v listed).eval o = execOp (fillN ops k a0 v' i).eval o := execOp_congr o (fun cs b => L.sel i o cs b ho) fun x hx => by
        cases x with
        | tmp t => exact eval_get (hlook t (List.mem_append_left _ (List.mem_filterMap.2 ⟨.tmp t, by simpa using hx, rfl⟩)))
        | _ => rfl
      have hdo : dsO ops i = o.dst := by simp [dsO, ho]
      have next : ∀ u w', I ((listed.setIfInBounds i true).getD c false) w' → R u →
          wpAny P .any ops Q fuel (listed.setIfInBounds i true) ((fillL ops k a0 v listed).put o.dst u) w' := by
        intro u w' hIw hr
        have hput : (fillL ops k a0 v listed).put o.dst u = fillL ops k a0 (fun j => if j = i then u else v j) (listed.setIfInBounds i true) := by
          rw [← hdo]
          unfold fillL
          rw [fillS_put (ds := dsO ops) (List.range k) a0 List.nodup_range (List.mem_range.2 hik) hil (fun j hj hji d hdj => L.apart i j hik (List.mem_range.1 hj) (Ne.symm hji) d hdj)]
          exact fillS_congr _ _ fun j _ => ⟨(getD_set his j).symm, fun _ => rfl⟩
        refine ih (listed.setIfInBounds i true) _ w' (fun j => if j = i then u else v j) ?_ (by simpa using hsz) hIw hput ?_ ?_ ?_
        · have := countP_one (p := fun j => !listed.getD j false) (q := fun j => !(listed.setIfInBounds i true).getD j false) (i := i) (List.range ops.size) List.nodup_range (List.mem_range.2 (lt_size ho)) (by simp [hil]) (by rw [getD_set his]; simp) (fun j hj => by rw [getD_set his]; simp [hj])
          unfold cnt at hc ⊢
          omega
        · intro t ht
          rw [getD_set his, htl t ht]
          simp; omega
        · intro j o' ho' hjl e he
          rw [getD_set his] at hjl ⊢
          rw [Bool.or_eq_true] at hjl ⊢
          rcases hjl with hjl | hjl
          · exact .inl (hdown j o' ho' hjl e he)
          · have hji : j = i := by simpa using hjl
            subst hji
            rw [ho] at ho'; cases ho'
            exact .inl (hd e he)
        · intro j R' hjk hS' hjl
          by_cases hji : j = i
          · subst hji
            rw [hSi] at hS'; cases hS'
            simp only [if_true]
            exact hr
          · simp only [hji, if_false]
            rw [getD_set his] at hjl
            have : (j == i) = false := by simpa using hji
            rw [this, Bool.or_false] at hjl
            exact hlx j R' hjk hS' hjl
      have hw : Region.wanted o (yielded ops (fillL ops k a0 v listed).tmps) = true := by unfold Region.wanted; rw [hg]
      unfold wpOp
      simp only [ho]
      rw [if_pos hw]
      left
      unfold Oper.wp
      rw [hex]
      unfold okW at hok
      by_cases e : (i == c) = true
      · rw [if_pos e] at hok
        have e' : i = c := by simpa using e
        have hc0 : listed.getD c false = false := by rw [← e']; exact hil
        rw [hc0] at hb
        obtain ⟨f, args, h1, hcl⟩ := hok w hb
        rw [h1]
        refine hcl.mono fun en w'' ⟨hIw, u, he, hu⟩ => ?_
        subst he
        exact next u w'' (by rw [getD_set his, e']; simpa using hIw) hu
      · rw [if_neg e] at hok
        obtain ⟨u, h1, hu⟩ := hok _ w hb
        rw [h1]
        have e' : (c == i) = false := by
          cases e2 : (c == i) with
          | false => rfl
          | true => exact absurd (by simpa using (by simpa using e2 : c = i).symm) e
        exact next u w (by rw [getD_set his, e', Bool.or_false]; exact hb) hu
theorem region_wild {id : Nat} {a : Act} {w : World} {l : List Oper} (I : Bool → World → Prop) (S : List (Value → Prop)) (c k : Nat) (hm : P.follows .mixedOrders = true) (hB : (looseB l.toArray k && decide (k ≤ l.length)) = true) (hck : c < k) (h0 : I false w.drew)
    (h : ∀ (K : Act → Prop), (∀ a', (∀ w1, I true w1 → wpList P l.toArray Q (l.drop k) a' w1) → K a') → wpW P c I K 0 (l.take k) S a) : (Code.region id l.toArray true).wp P Q a w := by
  rw [Bool.and_eq_true] at hB
  refine wp_region_any hm ?_
  have L := looseB_spec hB.1
  have h' := h _ (fun _ h => h)
  refine anyW_of (P := P) (S := S) (I := I) (c := c) (a0 := a) (k := k) L hck (by simpa using h') (by simpa using hB.2) l.toArray.size (Array.replicate l.toArray.size false) a { w with drawn := w.drawn + 1 } (fun _ => undef) ?_ (by simp) ?_ ?_ ?_ ?_ ?_
  · unfold cnt
    have : (List.range l.toArray.size).countP (fun j => !(Array.replicate l.toArray.size false).getD j false) = (List.range l.toArray.size).length := List.countP_eq_length.2 fun j hj => by
      rw [getD_rep]; rfl
    rw [this]; simp
  · rw [getD_rep]; exact h0
  · unfold fillL
    have : (fun j => (Array.replicate l.toArray.size false).getD j false) = fun _ : Nat => false := by
      funext j
      exact getD_rep _ _
    rw [this]; exact (fillS_none _ _).symm
  · intro t _; exact getD_rep _ _
  · intro j o _ hj; rw [getD_rep] at hj; cases hj
  · intro j R _ _ hj; rw [getD_rep] at hj; cases hj
theorem w_nil {i : Nat} {a : Act} (h : QA a) : wpW P c I QA i [] [] a := h
theorem w_val {o : Oper} {l : List Oper} {i : Nat} {a : Act} {val : Value} (hg : o.guard = none) (hic : (i == c) = false) (h1 : ∀ b w, I b w → (execOp a.eval o).run P w = .ok (.value val) w) (h2 : wpW P c I QA (i + 1) l S (a.put o.dst val)) : wpW P c I QA i (o :: l) ((fun v => v = val) :: S) a :=
  ⟨hg, by unfold okW; rw [hic]; exact fun b w hI => ⟨val, h1 b w hI, rfl⟩, fun v hv => by rw [hv]; exact h2⟩
theorem w_of {o : Oper} {l : List Oper} {i : Nat} {a : Act} (R : Value → Prop) (val : Value) (hR : R val) (hg : o.guard = none) (hic : (i == c) = false) (h1 : ∀ b w, I b w → (execOp a.eval o).run P w = .ok (.value val) w) (h2 : ∀ v, R v → wpW P c I QA (i + 1) l S (a.put o.dst v)) : wpW P c I QA i (o :: l) (R :: S) a :=
  ⟨hg, by unfold okW; rw [hic]; exact fun b w hI => ⟨val, h1 b w hI, hR⟩, h2⟩
theorem w_call {o : Oper} {l : List Oper} {i : Nat} {a : Act} {f : FuncId} {args : Array Value} (R : Value → Prop) (hg : o.guard = none) (hic : (i == c) = true) (h1 : ∀ w, (execOp a.eval o).run P w = .ok (.enter f args) w) (hc : ∀ w, I false w → Calls P f args w (fun e w'' => I true w'' ∧ ∃ v, e = .returned v ∧ R v)) (h2 : ∀ v, R v → wpW P c I QA (i + 1) l S (a.put o.dst v)) : wpW P c I QA i (o :: l) (R :: S) a :=
  ⟨hg, by unfold okW; rw [hic]; exact fun w hI => ⟨f, args, h1 w, hc w hI⟩, h2⟩
end wild
end Go.Proofs.Ytpmeccjfjjklkaa
