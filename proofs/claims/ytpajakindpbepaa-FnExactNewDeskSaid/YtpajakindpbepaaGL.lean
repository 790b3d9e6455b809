/- What a law over a grid holds on to. No condition. -/
import Derived.Test.YtpajakindpbepaaGv
import Derived.Test.YtpajakindpbepaaGI
import Derived.Deep.RegionHeld3
namespace Go.Proofs.Ytpajakindpbepaa
open Go.RowKit
set_option linter.unusedSimpArgs false
/-- Three cells, and nothing turned below. -/
def KeepG (w0 : World) (b : Nat) (p q r : Value) (w' : World) : Prop := w'.cell? ⟨b, 0, none⟩ = some p ∧ w'.cell? ⟨b, 1, none⟩ = some q ∧ w'.cell? ⟨b, 2, none⟩ = some r ∧ b < w'.heap.size ∧ Below w0.heap.size w0 w'
theorem KeepG.call {w0 w1 w2 : World} {b : Nat} {p q r : Value} (h : KeepG w0 b p q r w1) (hb : Below w1.heap.size w1 w2) : KeepG w0 b p q r w2 :=
  ⟨(hb.cell (p := ⟨b, 0, none⟩) h.2.2.2.1).trans h.1, (hb.cell (p := ⟨b, 1, none⟩) h.2.2.2.1).trans h.2.1, (hb.cell (p := ⟨b, 2, none⟩) h.2.2.2.1).trans h.2.2.1, Nat.lt_of_lt_of_le h.2.2.2.1 hb.size, h.2.2.2.2.trans (hb.mono h.2.2.2.2.size)⟩
/-- Three cells of each of two blocks, and nothing turned below. -/
def KG (v : World) (p r : Nat) (u1 u2 u3 u4 u5 u6 : Value) (w : World) : Prop := w.cell? ⟨p, 0, none⟩ = some u1 ∧ w.cell? ⟨p, 1, none⟩ = some u2 ∧ w.cell? ⟨p, 2, none⟩ = some u3 ∧ w.cell? ⟨r, 0, none⟩ = some u4 ∧ w.cell? ⟨r, 1, none⟩ = some u5 ∧ w.cell? ⟨r, 2, none⟩ = some u6 ∧ (p < w.heap.size ∧ r < w.heap.size) ∧ Below v.heap.size v w
theorem KG.call {v w w' : World} {p r : Nat} {u1 u2 u3 u4 u5 u6 : Value} (h : KG v p r u1 u2 u3 u4 u5 u6 w) (hb : Below w.heap.size w w') : KG v p r u1 u2 u3 u4 u5 u6 w' := by
  obtain ⟨h1, h2, h3, h4, h5, h6, ⟨h7, h8⟩, h9⟩ := h
  exact ⟨(hb.cell (p := ⟨p, 0, none⟩) h7).trans h1, (hb.cell (p := ⟨p, 1, none⟩) h7).trans h2, (hb.cell (p := ⟨p, 2, none⟩) h7).trans h3, (hb.cell (p := ⟨r, 0, none⟩) h8).trans h4, (hb.cell (p := ⟨r, 1, none⟩) h8).trans h5, (hb.cell (p := ⟨r, 2, none⟩) h8).trans h6, ⟨Nat.lt_of_lt_of_le h7 hb.size, Nat.lt_of_lt_of_le h8 hb.size⟩, h9.trans (hb.mono h9.size)⟩
theorem and8 {P Q R S T U V W : Prop} (h : P ∧ Q ∧ R ∧ S ∧ T ∧ U ∧ V ∧ W) : W := h.2.2.2.2.2.2.2
theorem IArr.keep1 {w w' : World} {lo n g : Nat} {v : Value} {d : Nat → Int} (hI : IArr w lo v n d) (hk : Keep1 g w w') (hg : g < lo) : IArr w' lo v n d := by
  rcases hI with hI | ⟨q, cap, rfl, h1, h2⟩
  · exact .inl hI
  · exact .inr ⟨q, cap, rfl, h1, h2.of_block (hk q h2.lt (by omega))⟩
theorem markGrid1 (lo : Nat) (W H : Int) (b n : Nat) (x : Nat → Nat) (w : World) (hlo : lo ≤ b) (hls : lo ≤ w.heap.size) (hn : n ≤ 1048576) (h : FlBlk w b n x) :
    Calls Try.prog 17 #[.agg #[.int .i64 W, .int .i64 H, .slice (some ⟨b, 0, none⟩) n n], .int .i64 1] w fun e w' => ∃ k : Int, e = .returned (.int .i64 k) ∧ ¬ k < 0 ∧ Below lo w w' ∧ Keep1 b w w' := markGrid_c lo W H b n x w hlo hls hn h
end Go.Proofs.Ytpajakindpbepaa
