/- The reference's JournalOf. No condition. -/
import Derived.Test.YtnkimeeofmbhkaaDoorJi
import Derived.Deep.RegionHeld3
namespace Go.Proofs.YtnkimeeofmbhkaaDoor
open Go.RowKit
set_option linter.unusedSimpArgs false
theorem l01Dec_r (n : Nat) (hn : n < 65003) (w : World) : Calls Tryd.prog 13 #[.int .i64 n] w (Ret (RV (.string (dgS n))) w) := (l01Dec_c n hn w).mono fun _ _ h => ⟨⟨_, h.1, rfl⟩, h.2⟩
set_option maxRecDepth 100000 in
set_option maxHeartbeats 4000000 in
theorem l08Journal_c (b m cap : Nat) (S : Nat → ByteArray) (w : World) (hm : tot S m ≤ 16000) (hS : SA w b m S) : Calls Tryd.prog 9 #[.slice (some ⟨b, 0, none⟩) m cap] w fun e w' => e = .returned (.string (jo S m)) ∧ Below w.heap.size w w' := by
  have HSA := Lib.hid hS
  have hmm := jo_tot S m
  clear hS
  go_enter Tryd.func9, Tryd.ntmps9
  go_wp2
  go_loopw [3, 4, 5] (fun o c k wr => ∃ i : Nat, i ≤ m ∧ k = .int .i64 i ∧ o = .string (jo S i) ∧ c = .int .i64 (jn S i : Nat) ∧ Below w.heap.size w wr) (fun _ _ k _ => m - (intOf k).toNat)
  case atStart => exact ⟨0, by omega, rfl, rfl, rfl, Below.refl _ _⟩
  case round =>
    obtain ⟨i, hi, rfl, rfl, rfl, hB⟩ := hrel
    have HB := Lib.hid hB
    by_cases hlt : i < m
    · have hW := HSA.out.below hB
      have hbl := hW.1
      have c0 := hW.2 i hlt
      obtain ⟨s, hs⟩ : ∃ s, S i = s := ⟨_, rfl⟩
      rw [hs] at c0
      have HS := Lib.hid hs
      have hjm := jo_mono S (show i + 1 ≤ m by omega)
      have hjs := jo_size S i
      rw [hs] at hjs
      have hssz : s.size ≤ 1048576 := by omega
      have HCK := Lib.hid (l01Check_c s (jn S i) hssz (jn_lt S i))
      have hjn : jn S (i + 1) = ckS s (jn S i) s.size := by show ckS (S i) _ _ = _; rw [HS.out]
      have hjo : jo S (i + 1) = jo S i ++ jt (ckS s (jn S i) s.size) s := by show jo S i ++ jt (jn S (i + 1)) (S i) = _; rw [hjn, HS.out]
      have hlt2 := ckS_lt (s := s) (jn_lt S i) s.size
      rw [hjn] at hjs
      have hjoz : (jo S i).size ≤ 50000 := by omega
      obtain ⟨n', hn'⟩ : ∃ n', ckS s (jn S i) s.size = n' := ⟨_, rfl⟩
      obtain ⟨n0, hn0⟩ : ∃ n0, jn S i = n0 := ⟨_, rfl⟩
      obtain ⟨o, ho⟩ : ∃ o, jo S i = o := ⟨_, rfl⟩
      rw [hn'] at HCK hlt2 hjs hjn hjo
      rw [hn0] at HCK
      rw [ho] at hjo hjoz hjs
      rw [hn0, ho]
      have hdl := dg_len (n := n') (by omega)
      have hds := dgS_size n'
      have HD := Lib.hid (l01Dec_r n' hlt2)
      have HJN := Lib.hid hjn
      have HJO := Lib.hid hjo
      unfold jt at HJO
      obtain ⟨D, hD⟩ : ∃ D, dgS n' = D := ⟨_, rfl⟩
      rw [hD] at hds HD HJO
      have z1 : ¬ (9223372036854775807 < D.size + 1) := by omega
      have z2 : (D ++ ⟨#[32]⟩ : ByteArray).size = D.size + 1 := by rw [ByteArray.size_append]; rfl
      have z3 : ¬ (9223372036854775807 < (D ++ ⟨#[32]⟩ : ByteArray).size + s.size) := by omega
      have z4 : ((D ++ ⟨#[32]⟩) ++ s : ByteArray).size = D.size + 1 + s.size := by rw [ByteArray.size_append, z2]
      have z5 : ¬ (9223372036854775807 < ((D ++ ⟨#[32]⟩) ++ s : ByteArray).size + 1) := by omega
      have z6 : (((D ++ ⟨#[32]⟩) ++ s) ++ ⟨#[10]⟩ : ByteArray).size = D.size + 1 + s.size + 1 := by rw [ByteArray.size_append, z4]; rfl
      have z7 : ¬ (9223372036854775807 < o.size + (((D ++ ⟨#[32]⟩) ++ s) ++ ⟨#[10]⟩ : ByteArray).size) := by omega
      have z3' : ¬ (9223372036854775807 < D.size + 1 + s.size) := by omega
      have z5' : ¬ (9223372036854775807 < D.size + 1 + s.size + 1) := by omega
      have z7' : ¬ (9223372036854775807 < o.size + (D.size + 1 + s.size + 1)) := by omega
      clear hW hB hs hn' hn0 ho hjn hjo hD z2 z4 z6 hjm hjs hds
      go_wp2_with (go_at_call 12; refine (HCK.out _).mono ?_; rintro e w' ⟨rfl, rfl⟩)
      go_region_held3 (fun w' => w'.cell? ⟨b, i, none⟩ = some (.string s) ∧ b < w'.heap.size) (first | exact ⟨c0, hbl⟩ | exact hk1)
        ((go_at_call 13; refine (HD.out _).mono ?_; rintro e w1 ⟨⟨v, rfl, rfl⟩, hb1⟩; have hk1 : w1.cell? ⟨b, i, none⟩ = some (.string s) ∧ b < w1.heap.size := ⟨((bcell hb1).1 b i hbl).trans c0, Nat.lt_of_lt_of_le hbl hb1.size⟩))
      go_wp2
      go_roundw
      case rel => exact ⟨i + 1, by omega, by go_num, by rw [HJO.out], by rw [HJN.out], HB.out.trans (Below.mono (show Below wr.heap.size wr w1 from ⟨hb1.os, hb1.tape, hb1.output, hb1.size, hb1.block⟩) HB.out.size)⟩
      case measure => first | (simp [intOf]; done) | (simp [intOf]; omega)
    · obtain rfl : i = m := by omega
      clear hB
      go_wp2
      go_ret
      exact ⟨rfl, HB.out⟩
theorem tot_mono (S : Nat → ByteArray) {i : Nat} : ∀ {m : Nat}, i ≤ m → tot S i ≤ tot S m
  | 0, h => by obtain rfl : i = 0 := by omega
               exact Nat.le_refl _
  | m + 1, h => by
    by_cases e : i = m + 1
    · subst e; exact Nat.le_refl _
    · have := tot_mono S (show i ≤ m by omega)
      show tot S i ≤ tot S m + ((S m).size + 3)
      omega
theorem tot_big {S : Nat → ByteArray} {m i : Nat} (hi : i ≤ m) (h : 16000 < tot S i) : jok S m = false := jok_big hi (Nat.lt_of_lt_of_le h (jo_tot S i).1)
set_option maxRecDepth 100000 in
set_option maxHeartbeats 4000000 in
theorem sJournal_c (b m cap : Nat) (S : Nat → ByteArray) (w : World) (hm : m ≤ 1048576) (hsz : ∀ j, j < m → (S j).size ≤ 1048576) (hS : SA w b m S) : Calls Tryd.prog 5 #[.slice (some ⟨b, 0, none⟩) m cap] w (JR S m w) := by
  have HSA := Lib.hid hS
  have HSZ := Lib.hid hsz
  clear hS hsz
  unfold JR
  go_enter Tryd.func5, Tryd.ntmps5
  go_wp2
  go_loop [4, 5, 6] (fun t k _ => ∃ i : Nat, i ≤ m ∧ k = .int .i64 i ∧ t = .int .i64 (tot S i : Nat) ∧ tot S i ≤ 16000 ∧ ∀ j, j < i → nlB (S j) = false) (fun _ k _ => m - (intOf k).toNat)
  case atStart => exact ⟨0, by omega, rfl, rfl, Nat.zero_le _, fun j hj => absurd hj (by omega)⟩
  case round =>
    obtain ⟨i, hi, rfl, rfl, htt, hnl⟩ := hrel
    have HNL := Lib.hid hnl
    by_cases hlt : i < m
    · have hbl := HSA.out.1
      have c0 := HSA.out.2 i hlt
      have hssz := HSZ.out i hlt
      obtain ⟨s, hs⟩ : ∃ s, S i = s := ⟨_, rfl⟩
      rw [hs] at c0 hssz
      have htn : tot S (i + 1) = tot S i + (s.size + 3) := by show tot S i + ((S i).size + 3) = _; rw [hs]
      obtain ⟨t, ht⟩ : ∃ t, tot S i = t := ⟨_, rfl⟩
      rw [ht] at htn htt ⊢
      have HS := Lib.hid hs
      have HTN := Lib.hid htn
      clear hs ht hnl
      by_cases hbig : t + (s.size + 3) ≤ 16000
      · have hb1 : ¬ ((16000 : Int) < (t : Int) + ((s.size : Int) + 3)) := by omega
        clear htn
        go_wp2
        go_loop [6] (fun k => ∃ q : Nat, q ≤ s.size ∧ k = .int .i64 q ∧ ∀ j (hj : j < s.size), j < q → (s[j].toNat : Int) ≠ 10) (fun k => s.size - (intOf k).toNat)
        case atStart => exact ⟨0, by omega, rfl, fun j _ hj => absurd hj (by omega)⟩
        case round =>
          obtain ⟨q, hq, rfl, hq2⟩ := hrel
          have HQ := Lib.hid hq2
          clear hq2
          by_cases hql : q < s.size
          · by_cases h10 : (s[q].toNat : Int) = 10
            · have hjk : jok S m = false := jok_nl hlt (by rw [HS.out]; exact nlB_at hql h10)
              have h10' : ((s[q].toNat : Int) == 10) = true := by simpa using h10
              go_wp2
              go_ret2
              exact ⟨by first | rfl | (rw [hjk]; rfl) | simp [hjk], Below.refl _ _⟩
            · have h10' : ((s[q].toNat : Int) == 10) = false := by simpa using h10
              go_wp2
              go_round
              case rel => exact ⟨q + 1, by omega, by go_num, fun j hj hjq => by
                by_cases e : j = q
                · subst e; exact h10
                · exact HQ.out j hj (by omega)⟩
              case measure => first | (simp [intOf]; done) | (simp [intOf]; omega)
          · obtain rfl : q = s.size := by omega
            go_wp2
            go_round
            case rel => exact ⟨i + 1, by omega, by go_num, by rw [HTN.out]; go_num, by rw [HTN.out]; exact hbig, fun j hj => by
              by_cases e : j = i
              · subst e; rw [HS.out]; exact nlB_no (fun k hk => HQ.out k hk hk)
              · exact HNL.out j (by omega)⟩
            case measure => first | (simp [intOf]; done) | (simp [intOf]; omega)
      · have hb1 : ((16000 : Int) < (t : Int) + ((s.size : Int) + 3)) := by omega
        have hjk : jok S m = false := tot_big (i := i + 1) (by omega) (by rw [HTN.out]; omega)
        clear htn
        go_wp2
        all_goals (go_ret2; exact ⟨by first | rfl | (rw [hjk]; rfl) | simp [hjk], Below.refl _ _⟩)
    · obtain rfl : i = m := by omega
      have HJ := Lib.hid (l08Journal_c b i cap S w htt HSA.out)
      have HTT := Lib.hid htt
      clear hnl
      by_cases hbig : (jo S i).size ≤ 16000
      · have hb1 : ¬ ((16000 : Int) < ((jo S i).size : Int)) := by omega
        have hjk := jok_yes HNL.out hbig
        go_wp2_with (go_at_call 9; ((with_reducible refine (HJ.out).mono ?_); rintro e w1 ⟨rfl, hb2⟩))
        go_ret2
        exact ⟨by first | rfl | (rw [hjk]; rfl) | simp [hjk], hb2⟩
      · have hb1 : ((16000 : Int) < ((jo S i).size : Int)) := by omega
        have hjk : jok S i = false := jok_big (Nat.le_refl _) (by omega)
        go_wp2_with (go_at_call 9; ((with_reducible refine (HJ.out).mono ?_); rintro e w1 ⟨rfl, hb2⟩))
        all_goals (go_ret2; exact ⟨by first | rfl | (rw [hjk]; rfl) | simp [hjk], hb2⟩)
end Go.Proofs.YtnkimeeofmbhkaaDoor
