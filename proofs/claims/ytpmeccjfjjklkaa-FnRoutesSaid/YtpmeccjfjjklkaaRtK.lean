/- The law of Routes, cut into parts: what stands behind its n-th statement. No condition. -/
import Derived.Test.YtpmeccjfjjklkaaAny
namespace Go.Proofs.Ytpmeccjfjjklkaa
open Go.RowKit Go.IntWalk
set_option linter.unusedSimpArgs false
def seqAt : Nat → Code → Code
  | n + 1, .seq _ b => seqAt n b
  | _, c => c
def bodyOf (f : Func) : Code := match f.body with
  | some c => c
  | none => .skip
theorem bareD {P : Program} {f : FuncId} {args : Array Value} {w : World} {v : Value} (h : Calls P f args w (Ret (RV v) w)) : Calls P f args w fun e w' => e = .returned v ∧ Below w.heap.size w w' :=
  h.mono fun e w' ⟨⟨u, he, hu⟩, hb⟩ => ⟨by rw [he, show u = v from hu], hb⟩
theorem ByArg.dn {w w' : World} {A : Option Addr} {n : Nat} (h : ByArg w A n) (hb : Below w.heap.size w w') : ByArg w' A n :=
  h.below (fun a e h0 => by
    obtain ⟨a', k, e', h1, -⟩ := h 0 h0
    rw [e] at e'
    cases e'
    exact h1) hb
/-- What the law ends in. -/
def QL (W : World) : Exit → Act → World → Prop := bodyPost Try.prog Try.f9 fun e w' => e = .returned (.bool true) ∧ Below W.heap.size W w'
end Go.Proofs.Ytpmeccjfjjklkaa
