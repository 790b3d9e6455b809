/- Contracts of SideOf in both spellings. No condition. -/
import Derived.Test.YteecbhmgogndaaaAre
namespace Go.Proofs.Yteecbhmgogndaaa
open Go.RowKit
set_option linter.unusedSimpArgs false

/-- On which side of the line through two places a place is. -/
def SideV (ax ay bx cy px py : Nat) : Nat := Dot (Cr (WayY ax ay) (SinT ax) (WayY bx cy) (SinT bx)) (Cr (SinT ax) (WayX ax ay) (SinT bx) (WayX bx cy)) (Cr (WayX ax ay) (WayY ax ay) (WayX bx cy) (WayY bx cy)) (WayX px py) (WayY px py) (SinT px)

/-- Cells of a block that was built in a region. -/
theorem cell_built {w : World} {b i : Nat} {cs : Array Value} {t : TypeId} {g : Nat × Nat} {v : Value} (h : w.heap[b]? = some (.cells cs t g)) (hv : cs[i]? = some v) : w.cell? ⟨b, i, none⟩ = some v := by
  unfold World.cell?
  rw [h]
  exact hv

-- left out here: loop.example/g01341/spec.l02Side

def pl3 (a b c : Nat) (j : Nat) : Nat := if j = 0 then a else if j = 1 then b else c
theorem allP3 (A1 A2 B1 B2 C1 C2 : Nat) : allP (pl3 A1 B1 C1) (pl3 A2 B2 C2) 3 = (vplace A1 A2 && (vplace B1 B2 && vplace C1 C2)) := by
  simp [allP, pl3, List.range, List.range.loop]

theorem areValid3 {w : World} {d : Option Tmp} {bs : Nat} {t : TypeId} {g : Nat × Nat} {a1 a2 b1 b2 c1 c2 A1 A2 B1 B2 C1 C2 : Nat} (ha1 : cn .f32 a1 = A1) (ha2 : cn .f32 a2 = A2) (hb1 : cn .f32 b1 = B1) (hb2 : cn .f32 b2 = B2) (hc1 : cn .f32 c1 = C1) (hc2 : cn .f32 c2 = C2)
    (h : newIn w (d, 4, .slice (some ⟨bs, 0, none⟩) 3 3, .cells #[.float .f32 a1, .float .f32 a2, .float .f32 b1, .float .f32 b2, .float .f32 c1, .float .f32 c2] t g)) :
    Calls Try.prog 40 #[.slice (some ⟨bs, 0, none⟩) 3 3] w (Ret (RV (.bool (allP (pl3 A1 B1 C1) (pl3 A2 B2 C2) 3))) w) := by
  obtain ⟨b, e, hh⟩ := h
  obtain rfl : bs = b := by simpa [nv] using e
  refine areValid_c bs 3 3 _ _ w (heap_lt hh) (by decide) fun j hj => ?_
  match j, hj with
  | 0, _ => exact ⟨a1, a2, cell_built hh rfl, cell_built hh rfl, ha1, ha2⟩
  | 1, _ => exact ⟨b1, b2, cell_built hh rfl, cell_built hh rfl, hb1, hb2⟩
  | 2, _ => exact ⟨c1, c2, cell_built hh rfl, cell_built hh rfl, hc1, hc2⟩

-- left out here: loop.example/g01341/impl.SideOf

-- left out here: loop.example/g01341/spec.SideOf

-- left out here: loop.example/g01341/laws.FnExactSideOf