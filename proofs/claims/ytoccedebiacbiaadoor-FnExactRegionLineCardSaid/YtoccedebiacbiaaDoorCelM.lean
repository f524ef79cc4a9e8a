
/-
  The cells of a mask that cells of a region make: plain.
-/
import Derived.Test.YtoccedebiacbiaaDoorMskX
import Derived.Test.YtoccedebiacbiaaDoorPlcP
import Derived.Test.YtoccedebiacbiaaDoorCellX
import Derived.Test.YtoccedebiacbiaaDoorMotAB
namespace Go.Proofs.YtoccedebiacbiaaDoor
open Go.RowKit

theorem maskFrom_bits {r : Reg} (hv : r.Valid) : ∀ {c : List Cell} {n m : Nat}, maskFrom r n c = some m → (∀ d ∈ c, r.has d.x d.y = true) ∧ ∀ i, m.testBit i = true ↔ n.testBit i = true ∨ ∃ d ∈ c, bitOf r d = i
  | [], n, m, h => by
    injection h with h
    subst h
    exact ⟨fun d hd => (by cases hd), fun i => (by simp)⟩
  | e :: c, n, m, h => by
    unfold maskFrom at h
    split at h
    · rename_i he
      have ih := maskFrom_bits hv h
      refine ⟨fun d hd => ?_, fun i => ?_⟩
      · rcases List.mem_cons.1 hd with rfl | hd
        · exact he.1
        · exact ih.1 d hd
      · rw [ih.2 i, add_bit he.2, Nat.testBit_or, Nat.testBit_two_pow, Bool.or_eq_true, decide_eq_true_eq]
        constructor
        · rintro ((h1 | h1) | ⟨d, hd, h1⟩)
          · exact .inl h1
          · exact .inr ⟨e, List.mem_cons_self .., h1⟩
          · exact .inr ⟨d, List.mem_cons_of_mem _ hd, h1⟩
        · rintro (h1 | ⟨d, hd, h1⟩)
          · exact .inl (.inl h1)
          · rcases List.mem_cons.1 hd with rfl | hd
            · exact .inl (.inr h1)
            · exact .inr ⟨d, hd, h1⟩
    · cases h
theorem bitCell_of {r : Reg} {d : Cell} (h : r.has d.x d.y = true) : bitCell r.w.toNat (bitOf r d) = d := by
  obtain ⟨h1, h2, h3, h4⟩ := has_in h
  obtain ⟨x, y⟩ := d
  simp only at h1 h2 h3 h4
  unfold bitCell bitOf
  simp only [Cell.mk.injEq]
  have hx : x.toNat < r.w.toNat := by omega
  have e1 : (y.toNat * r.w.toNat + x.toNat) % r.w.toNat = x.toNat := by rw [Nat.add_comm, Nat.add_mul_mod_self_right, Nat.mod_eq_of_lt hx]
  have e2 : (y.toNat * r.w.toNat + x.toNat) / r.w.toNat = y.toNat := by rw [Nat.add_comm, Nat.add_mul_div_right _ _ (by omega), Nat.div_eq_of_lt hx, Nat.zero_add]
  rw [e1, e2]
  omega
theorem mask_cells {r : Reg} (hv : r.Valid) {c : List Cell} {m : Nat} (hs : Srt c) (h : maskS r c = some m) : cellsM r.w.toNat m = c := by
  have hb := maskFrom_bits hv h
  refine srt_ext (srt_cellsTo 36) hs fun d => ?_
  unfold cellsM
  rw [mem_cellsTo]
  constructor
  · rintro ⟨i, hi, ht, rfl⟩
    rcases (hb.2 i).1 ht with h0 | ⟨e, he, rfl⟩
    · rw [Nat.zero_testBit] at h0; cases h0
    · rw [bitCell_of (hb.1 e he)]; exact he
  · intro hd
    have := hb.1 d hd
    exact ⟨bitOf r d, bitOf_lt hv this, (hb.2 _).2 (.inr ⟨d, hd, rfl⟩), (bitCell_of this).symm⟩
end Go.Proofs.YtoccedebiacbiaaDoor
