
/-
  Rows of bytes, and the text of one.
-/
import Derived.Test.YtppbkiajcpdkiaaGreatDoorProg
import Derived.Test.YtppbkiajcpdkiaaGreatDoorSepX
import Derived.Laws.IdiomStrings
import Derived.Laws.BytesArg
namespace Go.Proofs.YtppbkiajcpdkiaaGreatDoor
open Go.RowKit

set_option maxRecDepth 100000 in
theorem infoU8 : (Tryz.prog.info? 5).map (fun i => (i.zero, i.size, i.bytes)) = some (some (.int .u8 0), 1, 1) := by kernel_rfl
def uc (l : List UInt8) : List Value := l.map fun b => .int .u8 (b.toNat : Int)
theorem uc_append {l m : List UInt8} : uc (l ++ m) = uc l ++ uc m := by simp [uc]
theorem uc_length {l : List UInt8} : (uc l).length = l.length := by simp [uc]
def tb (l : List UInt8) : ByteArray := ⟨l.toArray⟩
theorem tb_size {l : List UInt8} : (tb l).size = l.length := List.size_toArray
theorem tb_nil : (⟨#[]⟩ : ByteArray) = tb [] := rfl
theorem tb_app {a b : List UInt8} : tb a ++ tb b = tb (a ++ b) := by apply ba_ext; rw [ba_app]; simp [tb]
theorem ocu {a : Int} : ∀ u ∈ [Value.int .u8 a], u.oneCell' = true := by intro u hu; simp at hu; subst hu; rfl
set_option maxRecDepth 100000 in
/-- the text of a row of bytes -/
theorem row_text {w : World} {v : Value} {n : Nat} {l : List UInt8} (hn : n = l.length) (h : w.ownsRow 0 5 1 v n (uc l)) : (convert 22 9 v).run Tryz.prog w = .ok (.string (tb l)) w := by
  subst hn
  by_cases h0 : l.length = 0
  · obtain rfl : l = [] := List.eq_nil_of_length_eq_zero h0
    obtain ⟨A, c, rfl, _⟩ := Res.row_at h
    show (convert 22 9 (.slice A 0 c)).run Tryz.prog w = _
    rw [run_convert_bytes_string w _ _ _ _ 0 c Tryz.underlying22 Tryz.underlying5 Tryz.underlying9]
    cases A <;> simp [Conv.bytesToString, loadCells]
    all_goals rfl
  · obtain ⟨b, off, c, rfl, _, _, _⟩ := own_shape h (by omega)
    exact run_convert_bytes_back (P := Tryz.prog) w _ _ _ ⟨b, off, none⟩ c l Tryz.underlying22 Tryz.underlying5 Tryz.underlying9 (fun j hj => by
      have := own_cell h (j := j) (u := .int .u8 (l[j].toNat : Int)) (by simp [uc, List.getElem?_eq_getElem hj])
      unfold Addr.add
      split
      · rename_i e
        subst e
        simpa using this
      · exact this)
end Go.Proofs.YtppbkiajcpdkiaaGreatDoor
