/- The program's JournalOf. No condition. -/
import Derived.Test.YtnkimeeofmbhkaaDoorJl
namespace Go.Proofs.YtnkimeeofmbhkaaDoor
open Go.RowKit
set_option linter.unusedSimpArgs false
/-- A slice of strings, cell by cell. -/
def SA (w : World) (b m : Nat) (S : Nat → ByteArray) : Prop := b < w.heap.size ∧ ∀ j, j < m → w.cell? ⟨b, j, none⟩ = some (.string (S j))
theorem SA.below {w w' : World} {b m : Nat} {S : Nat → ByteArray} (h : SA w b m S) (hb : Below w.heap.size w w') : SA w' b m S := ⟨Nat.lt_of_lt_of_le h.1 hb.size, fun j hj => (hb.cell (p := ⟨b, j, none⟩) h.1).trans (h.2 j hj)⟩
/-- What both spellings return. -/
def JR (S : Nat → ByteArray) (m : Nat) (w : World) (e : Ending) (w' : World) : Prop := e = .returned (.tuple #[.string (if jok S m then jo S m else ⟨#[]⟩), .bool (jok S m)]) ∧ Below w.heap.size w w'
set_option maxRecDepth 100000 in
set_option maxHeartbeats 4000000 in
theorem iJournal_c (b m cap : Nat) (S : Nat → ByteArray) (w : World) (hm : m ≤ 1048576) (hS : SA w b m S) (ht : TB w) : Calls Tryd.prog 7 #[.slice (some ⟨b, 0, none⟩) m cap] w (JR S m w) := by
  have HSA := Lib.hid hS
  have HT := Lib.hid ht
  clear hS ht
  unfold JR
  go_enter Tryd.func7, Tryd.ntmps7
  go_wp2
  go_loopw [11, 4, 5] (fun k o c wr => ∃ i : Nat, i ≤ m ∧ k = .int .i64 i ∧ o = .string (jo S i) ∧ c = .int .i64 (jn S i : Nat) ∧ (∀ j, j < i → nlB (S j) = false) ∧ (jo S i).size ≤ 16000 ∧ Below w.heap.size w wr) (fun k _ _ _ => m - (intOf k).toNat)
  case atStart => exact ⟨0, by omega, rfl, rfl, rfl, fun j hj => absurd hj (by omega), Nat.zero_le _, Below.refl _ _⟩
  case round =>
    obtain ⟨i, hi, rfl, rfl, rfl, hnl, hsz, hB⟩ := hrel
    have HNL := Lib.hid hnl
    have HB := Lib.hid hB
    by_cases hlt : i < m
    · have hW := HSA.out.below hB
      have hbl := hW.1
      have c0 := hW.2 i hlt
      have HTW := Lib.hid (HT.out.below hB)
      obtain ⟨s, hs⟩ : ∃ s, S i = s := ⟨_, rfl⟩
      rw [hs] at c0
      have HS := Lib.hid hs
      have HC := Lib.hid (contains_c s)
      clear hW hB hnl hs
      cases hc : nlB s
      · rw [hc] at HC
        by_cases hsl : s.size ≤ 16000
        · have hsl' : ¬ ((16000 : Int) < (s.size : Int)) := by omega
          have HJ := Lib.hid (journalLine_c (jn S i) s (jn_lt S i) hsl)
          have hjn : jn S (i + 1) = ckS s (jn S i) s.size := by show ckS (S i) _ _ = _; rw [HS.out]
          have hjo : jo S (i + 1) = jo S i ++ jt (ckS s (jn S i) s.size) s := by show jo S i ++ jt (jn S (i + 1)) (S i) = _; rw [hjn, HS.out]
          have hjs := jo_size S i
          have hdl := dg_len (n := jn S (i + 1)) (by have := jn_lt S (i + 1); omega)
          rw [HS.out] at hjs
          rw [hjo] at hjs
          have hts : (jo S i ++ jt (ckS s (jn S i) s.size) s).size = (jo S i).size + (jt (ckS s (jn S i) s.size) s).size := ByteArray.size_append
          have HJN := Lib.hid hjn
          have HJO := Lib.hid hjo
          obtain ⟨n', hn'⟩ : ∃ n', ckS s (jn S i) s.size = n' := ⟨_, rfl⟩
          obtain ⟨o, ho⟩ : ∃ o, jo S i = o := ⟨_, rfl⟩
          obtain ⟨n0, hn0⟩ : ∃ n0, jn S i = n0 := ⟨_, rfl⟩
          rw [ho] at hjs hts hsz HJO ⊢
          rw [hn0] at HJ HJO HJN hn' hjs hts ⊢
          rw [hn'] at HJ HJO HJN hjs hts
          obtain ⟨t, htt⟩ : ∃ t, jt n' s = t := ⟨_, rfl⟩
          rw [htt] at HJ HJO hjs hts
          have hz : ¬ (9223372036854775807 < o.size + t.size) := by omega
          have HTS := Lib.hid hts
          have HJS := Lib.hid hjs
          clear hjn hjo hn' ho hn0 htt
          by_cases hbig : (o ++ t).size ≤ 16000
          · have hbb : ¬ ((16000 : Int) < (o.size : Int) + (t.size : Int)) := by omega
            clear hts hjs
            go_wp2_with (first | (go_at_call 10; refine (HC.out _).mono ?_; rintro e w' ⟨rfl, rfl⟩) | (go_at_call 11; ((with_reducible refine (HJ.out _ HTW.out).mono ?_); rintro e w1 ⟨rfl, hb1⟩)))
            go_roundw
            case rel =>
              refine ⟨i + 1, by omega, by go_num, by rw [HJO.out], by rw [HJN.out], fun j hj => ?_, by rw [HJO.out]; exact hbig, HB.out.trans (hb1.mono HB.out.size)⟩
              by_cases e : j = i
              · subst e; rw [HS.out]; exact hc
              · exact HNL.out j (by omega)
            case measure => first | (simp [intOf]; done) | (simp [intOf]; omega)
          · have hbb : ((16000 : Int) < (o.size : Int) + (t.size : Int)) := by omega
            have hOT := Lib.hid (show 16000 < (o ++ t).size by omega)
            clear hts hjs
            have hjk : jok S m = false := jok_big (i := i + 1) (by omega) (by rw [HJO.out]; exact hOT.out)
            go_wp2_with (first | (go_at_call 10; refine (HC.out _).mono ?_; rintro e w' ⟨rfl, rfl⟩) | (go_at_call 11; ((with_reducible refine (HJ.out _ HTW.out).mono ?_); rintro e w1 ⟨rfl, hb1⟩)))
            all_goals (go_ret2; exact ⟨by first | rfl | (rw [hjk]; rfl) | simp [hjk], HB.out.trans (hb1.mono HB.out.size)⟩)
        · have hsl' : ((16000 : Int) < (s.size : Int)) := by omega
          have hjk : jok S m = false := jok_big (i := i + 1) (by omega) (by rw [jo_size, HS.out]; omega)
          go_wp2_with (go_at_call 10; refine (HC.out _).mono ?_; rintro e w' ⟨rfl, rfl⟩)
          all_goals (go_ret2; exact ⟨by first | rfl | (rw [hjk]; rfl) | simp [hjk], HB.out⟩)
      · rw [hc] at HC
        have hjk : jok S m = false := jok_nl hlt (by rw [HS.out]; exact hc)
        go_wp2_with (go_at_call 10; refine (HC.out _).mono ?_; rintro e w' ⟨rfl, rfl⟩)
        all_goals (go_ret2; exact ⟨by first | rfl | (rw [hjk]; rfl) | simp [hjk], HB.out⟩)
    · obtain rfl : i = m := by omega
      have hjk := jok_yes HNL.out hsz
      clear hB hnl
      go_wp2
      all_goals (go_ret2; exact ⟨by first | rfl | (rw [hjk]; rfl) | simp [hjk], HB.out⟩)
end Go.Proofs.YtnkimeeofmbhkaaDoor
