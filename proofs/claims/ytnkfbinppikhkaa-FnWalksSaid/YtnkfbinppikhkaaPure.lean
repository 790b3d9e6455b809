/- Float functions of the library in canonical bits: sign, whole numbers, roots. No condition. -/
import Derived.Test.YtnkfbinppikhkaaNum
import Derived.Test.YtnkfbinppikhkaaRel
namespace Go.Proofs.Ytnkfbinppikhkaa
open Go.RowKit

/-- The bits below the sign. -/
theorem nanB_mod (k : FloatKind) (b c : Nat) (h : b % k.format.signWeight = c % k.format.signWeight) : nanB k b = nanB k c := by
  unfold nanB Ieee.Format.read
  simp only [h]
  repeat' split
  all_goals rfl

def fneg (k : FloatKind) (x : Nat) : Nat := if nanB k x then qn k else Op.negFloat k x

theorem neg_mod (k : FloatKind) (b : Nat) : Op.negFloat k b % k.format.signWeight = b % k.format.signWeight := by
  unfold Op.negFloat Ieee.Format.signWeight
  rw [Nat.xor_mod_two_pow, Nat.mod_self, Nat.xor_zero]

@[go_sem, simp] theorem cn_neg (k : FloatKind) (b : Nat) : cn k (Op.negFloat k b) = fneg k (cn k b) := by
  have h := nanB_mod k _ _ (neg_mod k b)
  unfold fneg
  rw [nanB_cn]
  cases hb : nanB k b
  · rw [cn_of hb, cn_of (by rw [h, hb])]; rfl
  · rw [cn_nan (by rw [h, hb])]; rfl

@[go_sem] theorem g_neg (k : FloatKind) (b : Nat) : Op.unary .neg (.float k b) = pure (.float k (Op.negFloat k b)) := rfl

def fint (way : Ieee.Toward) (x : Nat) : Nat := if nanB .f64 x then qn .f64 else FloatKind.f64.format.write ((FloatKind.f64.format.read x).integral way)
def fsq (x : Nat) : Nat := (FloatKind.f64.format.sqrt x).getD (qn .f64)
def fabs (x : Nat) : Nat := if nanB .f64 x then qn .f64 else x % 9223372036854775808

theorem nan_fraction {k : FloatKind} {b : Nat} {s : Bool} {t : Nat} (h : k.format.read b = .nan s t) : t < k.format.binade := by
  unfold Ieee.Format.read at h
  simp only [] at h
  have := k.format.infRung_add_binade
  have hm : b % k.format.signWeight < k.format.signWeight := Nat.mod_lt _ (Nat.two_pow_pos _)
  repeat' split at h
  all_goals first | (cases h; omega) | cases h

theorem quiet_nan {s : Bool} {t : Nat} (h : t < FloatKind.f64.format.binade) : nanB .f64 (FloatKind.f64.encode (.nan s (FloatKind.f64.format.quiet t))) = true := by
  have hB : FloatKind.f64.format.binade = 2 ^ 52 := rfl
  rw [hB] at h
  have h1 : FloatKind.f64.format.quiet t < 2 ^ 52 := Nat.or_lt_two_pow h (by decide)
  have h2 : 2 ^ 51 ≤ FloatKind.f64.format.quiet t := Nat.right_le_or
  show nanB .f64 (FloatKind.f64.format.word s (FloatKind.f64.format.infRung + FloatKind.f64.format.quiet t % FloatKind.f64.format.binade)) = true
  rw [hB, Nat.mod_eq_of_lt h1]
  have h3 := FloatKind.f64.format.infRung_add_binade
  rw [hB] at h3
  refine nan_of_rung _ (by decide) _ ?_
  rw [word_mod _ _ (by omega)]
  omega

theorem integral_ok (way : Ieee.Toward) {d : Ieee.Datum} (h : d.isNaN = false) : (d.integral way).isNaN = false := by
  cases d <;> first | rfl | (simp [Ieee.Datum.isNaN] at h)

theorem run_integral {P : Program} (name : String) (way : Ieee.Toward) (x : Nat) (w : World) :
    ∃ r n, (Extern.MathFloor.toIntegral name way #[.float .f64 x]).run P w = .ok (.float .f64 r) (w.drewN n) ∧ cn .f64 r = fint way (cn .f64 x) := by
  unfold fint
  rw [nanB_cn]
  show ∃ r n, Sem.run P (match FloatKind.f64.decode x with | .nan s t => _ | d => _) w = _ ∧ _
  cases e : FloatKind.f64.decode x with
  | nan s t =>
    have hn : nanB .f64 x = true := by unfold nanB; rw [show FloatKind.f64.format.read x = FloatKind.f64.decode x from rfl, e]; rfl
    simp only [hn, if_true]
    by_cases hq : FloatKind.f64.format.quiet t = t
    · exact ⟨x, 0, by simp [hq]; rfl, cn_nan hn⟩
    · refine ⟨if (Question.cut (.extern "math.Floor,Ceil,Trunc,RoundToEven.signallingNaN kept" 2) (w.tape w.drawn (.extern "math.Floor,Ceil,Trunc,RoundToEven.signallingNaN kept" 2)) == 1) = true then x else FloatKind.f64.encode (.nan s (FloatKind.f64.format.quiet t)), 1, ?_, ?_⟩
      · simp [hq, choose, Sem.run, Question.forced]; rfl
      · split
        · exact cn_nan hn
        · exact cn_nan (quiet_nan (nan_fraction e))
  | infinity s =>
    have hn : nanB .f64 x = false := by unfold nanB; rw [show FloatKind.f64.format.read x = FloatKind.f64.decode x from rfl, e]; rfl
    rw [cn_of hn]
    simp only [hn, Bool.false_eq_true, if_false]
    refine ⟨_, 0, rfl, ?_⟩
    rw [show FloatKind.f64.format.read x = FloatKind.f64.decode x from rfl, e]
    exact cn_of (write_ok _ rfl)
  | number s m p =>
    have hn : nanB .f64 x = false := by unfold nanB; rw [show FloatKind.f64.format.read x = FloatKind.f64.decode x from rfl, e]; rfl
    rw [cn_of hn]
    simp only [hn, Bool.false_eq_true, if_false]
    refine ⟨_, 0, rfl, ?_⟩
    rw [show FloatKind.f64.format.read x = FloatKind.f64.decode x from rfl, e]
    exact cn_of (write_ok _ rfl)

theorem run_sqrt {P : Program} (x : Nat) (w : World) : ∃ r n, (Extern.MathSqrt.sqrt #[.float .f64 x]).run P w = .ok (.float .f64 r) (w.drewN n) ∧ cn .f64 r = fsq (cn .f64 x) := by
  have hc : FloatKind.f64.format.sqrt (cn .f64 x) = FloatKind.f64.format.sqrt x := by
    cases hn : nanB .f64 x
    · rw [cn_of hn]
    · obtain ⟨s, t, e⟩ := read_nan hn
      obtain ⟨s', t', e'⟩ := read_nan (nanB_qn .f64)
      rw [cn_nan hn]
      simp only [Ieee.Format.sqrt, e, e']; rfl
  unfold fsq
  rw [hc]
  show ∃ r n, Sem.run P (match FloatKind.f64.format.sqrt x with | some r => _ | none => _) w = _ ∧ _
  cases e : FloatKind.f64.format.sqrt x with
  | some r => exact ⟨r, 0, rfl, cn_of (map_write_ok (k := .f64) (fun _ => root_ok) e)⟩
  | none => exact ⟨Question.cut (.nanBits .f64 x x) (w.tape w.drawn (.nanBits .f64 x x)), 1, by simp [choose, Sem.run, Question.forced]; rfl, cn_nan (cut_nan ..)⟩

theorem cn_abs (x : Nat) : cn .f64 (x % 9223372036854775808) = fabs (cn .f64 x) := by
  have h := nanB_mod .f64 (x % 9223372036854775808) x (by rw [show FloatKind.f64.format.signWeight = 9223372036854775808 from rfl]; exact Nat.mod_mod _ _)
  unfold fabs
  rw [nanB_cn]
  cases hb : nanB .f64 x
  · rw [cn_of hb, cn_of (by rw [h, hb])]; rfl
  · rw [cn_nan (by rw [h, hb])]; rfl

theorem call_trunc (x : Nat) (w : World) : ∃ r n, (callFunc 57 #[.float .f64 x]).run Try.prog w = .ok (.value (.float .f64 r)) (w.drewN n) ∧ cn .f64 r = fint .zero (cn .f64 x) := by
  obtain ⟨r, n, e, h⟩ := run_integral (P := Try.prog) "math.archTrunc" .zero x w
  refine ⟨r, n, ?_, h⟩
  rw [run_callFunc_extern (fn := Try.f57) (e := Extern.MathFloor.toIntegral "math.archTrunc" .zero) Try.func57 (by kernel_rfl) (by kernel_rfl) (by kernel_rfl) (by kernel_rfl), e]; rfl

-- left out here: call_floor
theorem call_sqrt (x : Nat) (w : World) : ∃ r n, (callFunc 47 #[.float .f64 x]).run Try.prog w = .ok (.value (.float .f64 r)) (w.drewN n) ∧ cn .f64 r = fsq (cn .f64 x) := by
  obtain ⟨r, n, e, h⟩ := run_sqrt (P := Try.prog) x w
  refine ⟨r, n, ?_, h⟩
  rw [run_callFunc_extern (fn := Try.f47) (e := Extern.MathSqrt.sqrt) Try.func47 (by kernel_rfl) (by kernel_rfl) (by kernel_rfl) (by kernel_rfl), e]; rfl

@[go_sem] theorem call_bits64 (b : Nat) (w : World) : (callFunc 55 #[.float .f64 b]).run Try.prog w = .ok (.value (.int .u64 b)) w := by kernel_rfl

@[go_sem] theorem call_from64 (n : Int) (w : World) : (callFunc 54 #[.int .u64 n]).run Try.prog w = .ok (.value (.float .f64 n.toNat)) w := by kernel_rfl

-- left out here: call_bits32
-- left out here: call_from32
end Go.Proofs.Ytnkfbinppikhkaa
