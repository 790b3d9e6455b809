/- Memory words: rows of bytes, rows behind a call, bytes as a string, bits of small numbers. No condition. -/
import Derived.Test.YtnkimeeofmbhkaaDoorRel
import Derived.Deep.OwnRows
import Derived.Laws.BytesString
import Derived.Laws.Rows
namespace Go.Proofs.YtnkimeeofmbhkaaDoor
open Go.RowKit
set_option linter.unusedSimpArgs false

theorem row_below {w w' : World} {B b : Nat} {t : TypeId} {n : Nat} {f : Nat → Value} (h : w.rowIs b t n f) (hb : Below B w w') (hlt : b < B) : w'.rowIs b t n f := h.of_block (hb.block b hlt)
theorem push_fold : ∀ (l : List Int) (r : ByteArray), l.foldl (fun r n => r.push (UInt8.ofNat n.toNat)) r = ⟨(r.data.toList ++ l.map fun n => UInt8.ofNat n.toNat).toArray⟩
  | [], r => by simp
  | n :: l, r => by
    rw [List.foldl_cons, push_fold l]
    simp [ByteArray.push]
theorem loadCells_row {P : Program} {w : World} {b n : Nat} {t : TypeId} {f : Nat → Value} (h : w.rowIs b t n f) : (loadCells ⟨b, 0, none⟩ n).run P w = .ok ((List.range n).map f).toArray w := by
  have := run_loadCells_list (P := P) w ⟨b, 0, none⟩ ((List.range n).map f) (fun j v hv => by
    have hadd : (⟨b, 0, none⟩ : Addr).add j = ⟨b, j, none⟩ := by unfold Addr.add; split <;> simp_all
    rw [hadd]
    rw [List.getElem?_map] at hv
    obtain ⟨i, hi, rfl⟩ := Option.map_eq_some_iff.1 hv
    obtain ⟨hlt, rfl⟩ := List.getElem?_eq_some_iff.1 hi
    simp only [List.length_range] at hlt
    rw [List.getElem_range]
    simpa using h.cell hlt)
  simpa using this
/-- The bytes of a row, as a string. -/
def strOf (n : Nat) (f : Nat → Nat) : ByteArray := ⟨((List.range n).map fun i => UInt8.ofNat (f i)).toArray⟩
theorem bytes_string {P : Program} {w : World} {b n c : Nat} {t : TypeId} {f : Nat → Nat} (src dst e : TypeId) (hs : P.underlying src = some (.slice e)) (he : P.underlying e = some (.int .u8)) (hd : P.underlying dst = some .string)
    (h : w.rowIs b t n (fun i => .int .u8 (f i))) : (convert src dst (.slice (some ⟨b, 0, none⟩) n c)).run P w = .ok (.string (strOf n f)) w := by
  rw [run_convert_bytes_string w src dst e _ _ _ hs he hd]
  have hl := loadCells_row (P := P) h
  rw [run_bytesToString w ⟨b, 0, none⟩ n c ((List.range n).map fun i => (f i : Int)) (by rw [hl]; simp), push_fold]
  congr 2
  simp [strOf]

theorem and_one (a : Nat) (ha : a < 9223372036854775808) : bits .and .i64 (a : Int) 1 = ((a % 2 : Nat) : Int) := by
  have h1 : (BitVec.ofInt 64 (a : Int)).toNat = a := by rw [BitVec.ofInt_natCast, BitVec.toNat_ofNat]; exact Nat.mod_eq_of_lt (by omega)
  show IntKind.i64.wrap ((BitVec.ofInt 64 (a : Int) &&& BitVec.ofInt 64 1).toNat : Int) = _
  rw [BitVec.toNat_and, h1, show (BitVec.ofInt 64 1).toNat = 2 ^ 1 - 1 from rfl, Nat.and_two_pow_sub_one_eq_mod, IntKind.wrap_i64]
  omega
theorem and_shr (a s : Nat) (h : a / 2 ^ s < 9223372036854775808) : bits .and .i64 ((a : Int) / 2 ^ s) 1 = ((a / 2 ^ s % 2 : Nat) : Int) := by
  rw [← and_one _ h]
  congr 1
end Go.Proofs.YtnkimeeofmbhkaaDoor
