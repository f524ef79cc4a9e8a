
/-
  The cells of a mask, in plain Lean. No program in sight. The walks over regions: masks. The cells of a mask: the program's walk. The cells of a mask: the reference's walk.
-/
import Derived.Test.YtghpkfihdcjlaaaOriP
import Derived.Test.YtghpkfihdcjlaaaShpFG
import Derived.Test.YtghpkfihdcjlaaaRegX
import Derived.Test.YtghpkfihdcjlaaaMovI
namespace Go.Proofs.Ytghpkfihdcjlaaa
open Go.RowKit

def bitCell (w k : Nat) : Cell := ⟨((k % w : Nat) : Int), ((k / w : Nat) : Int)⟩
/-- the cells of the first k bits -/
def cellsTo (w m : Nat) : Nat → List Cell
  | 0 => []
  | k + 1 => cellsTo w m k ++ if m.testBit k then [bitCell w k] else []
theorem cellsTo_t {w m k : Nat} (h : m.testBit k = true) : cellsTo w m (k + 1) = cellsTo w m k ++ [bitCell w k] := by rw [cellsTo, if_pos h]
theorem cellsTo_f {w m k : Nat} (h : m.testBit k = false) : cellsTo w m (k + 1) = cellsTo w m k := by rw [cellsTo, h]; simp
theorem cellsTo_le {w m : Nat} : ∀ k, (cellsTo w m k).length ≤ k
  | 0 => Nat.le_refl _
  | k + 1 => by
    have := cellsTo_le (w := w) (m := m) k
    rw [cellsTo, List.length_append]
    split <;> simp <;> omega
theorem cellsTo_high {w m k : Nat} (h : m < 2 ^ k) : ∀ d, cellsTo w m (k + d) = cellsTo w m k
  | 0 => rfl
  | d + 1 => by
    have e : m.testBit (k + d) = false := Nat.testBit_lt_two_pow (Nat.lt_of_lt_of_le h (Nat.pow_le_pow_right (by decide) (by omega)))
    rw [← Nat.add_assoc, cellsTo_f e, cellsTo_high h d]
theorem mem_cellsTo {w m : Nat} {c : Cell} : ∀ {k : Nat}, c ∈ cellsTo w m k ↔ ∃ i, i < k ∧ m.testBit i = true ∧ c = bitCell w i
  | 0 => by simp [cellsTo]
  | k + 1 => by
    rw [cellsTo, List.mem_append, mem_cellsTo]
    constructor
    · rintro (⟨i, h1, h2, h3⟩ | h)
      · exact ⟨i, by omega, h2, h3⟩
      · split at h
        · rename_i hb
          exact ⟨k, by omega, hb, by simpa using h⟩
        · simp at h
    · rintro ⟨i, h1, h2, h3⟩
      by_cases e : i = k
      · subst e; right; rw [if_pos h2]; simp [h3]
      · exact .inl ⟨i, by omega, h2, h3⟩
theorem bitCell_lt {w i j : Nat} (h : i < j) : befB (bitCell w i) (bitCell w j) = true := by
  rw [bef_iff]
  unfold bitCell
  simp only
  have h1 := Nat.div_add_mod i w
  have h2 := Nat.div_add_mod j w
  have h3 : i / w ≤ j / w := Nat.div_le_div_right (by omega)
  rcases Nat.lt_or_ge (i / w) (j / w) with h4 | h4
  · left; omega
  · right
    have e : i / w = j / w := by omega
    rw [e] at h1
    refine ⟨by omega, by omega⟩
theorem srt_cellsTo {w m : Nat} : ∀ k, Srt (cellsTo w m k)
  | 0 => List.Pairwise.nil
  | k + 1 => by
    unfold Srt
    rw [cellsTo, List.pairwise_append]
    refine ⟨srt_cellsTo k, by split <;> simp, fun a ha b hb => ?_⟩
    obtain ⟨i, h1, _, rfl⟩ := mem_cellsTo.1 ha
    split at hb
    · simp at hb; subst hb; exact bitCell_lt h1
    · simp at hb
theorem bitCell_on {w i : Nat} (hw : 1 ≤ w) (hw6 : w ≤ 6) {h : Nat} (hh : h ≤ 6) (hi : i < w * h) : On (bitCell w i) := by
  unfold On bitCell
  have h1 := Nat.mod_lt i (show 0 < w by omega)
  have h2 : i / w < h := Nat.div_lt_of_lt_mul hi
  generalize i % w = p at *
  generalize i / w = q at *
  refine ⟨⟨?_, ?_⟩, ?_, ?_⟩ <;> simp only <;> omega
/-- the cells of a mask on a board six by six or less -/
def cellsM (w m : Nat) : List Cell := cellsTo w m 36
theorem cellsM_at {w m k : Nat} (h : m < 2 ^ k) (hk : k ≤ 36) : cellsTo w m k = cellsM w m := by
  obtain ⟨d, rfl⟩ : ∃ d, 36 - k = d := ⟨_, rfl⟩
  have := cellsTo_high (w := w) h (36 - k)
  rw [show k + (36 - k) = 36 by omega] at this
  exact this.symm
theorem cellsM_on {w m h : Nat} (hw : 1 ≤ w) (hw6 : w ≤ 6) (hh : h ≤ 6) (hm : m < 2 ^ (w * h)) : ∀ c ∈ cellsM w m, On c := by
  intro c hc
  have hk : w * h ≤ 36 := by calc w * h ≤ 6 * 6 := Nat.mul_le_mul hw6 hh
    _ = 36 := rfl
  rw [← cellsM_at hm hk] at hc
  obtain ⟨i, hi, _, rfl⟩ := mem_cellsTo.1 hc
  exact bitCell_on hw hw6 hh hi
/-- a list in order, on the board: it is a shape if it has one to eight cells -/
theorem isShape_srt {s : List Cell} (h : Srt s) (hon : ∀ c ∈ s, On c) : isShape s = inR s.length 1 8 := by
  unfold isShape
  have h1 : (List.range s.length).all (okAt s) = true := by
    rw [List.all_eq_true]
    intro i hi
    rw [List.mem_range] at hi
    have hok : ∀ c ∈ s, okC c = true := fun c hc => by
      obtain ⟨⟨a1, a2⟩, a3, a4⟩ := hon c hc
      unfold okC
      rw [inR_t a1 a2, inR_t a3 a4]; rfl
    unfold okAt
    rw [List.getElem?_eq_getElem hi]
    simp only
    rw [hok _ (List.getElem_mem hi), Bool.true_and]
    by_cases h0 : i = 0
    · simp [h0]
    · have hb := List.pairwise_iff_getElem.1 h (i - 1) i (by omega) hi (by omega)
      rw [List.getElem?_eq_getElem (show i - 1 < s.length by omega)]
      simp [hb]
  rw [h1, Bool.true_and]
theorem inR8 (s : List Cell) : (inR s.length 1 8 && hangs s) = (decide (s.length ≤ 8) && hangs s) := by
  cases s with
  | nil => rw [hangs_nil, Bool.and_false, Bool.and_false]
  | cons a s =>
    have e : inR ((a :: s).length : Int) 1 8 = decide ((a :: s).length ≤ 8) := by
      unfold inR
      rw [Bool.eq_iff_iff]
      simp only [Bool.and_eq_true, decide_eq_true_eq, List.length_cons]
      omega
    rw [e]
theorem cellsM_conn {w m h : Nat} (hw : 1 ≤ w) (hw6 : w ≤ 6) (hh : h ≤ 6) (hm : m < 2 ^ (w * h)) : connS (cellsM w m) = (decide ((cellsM w m).length ≤ 8) && hangs (cellsM w m)) := by
  unfold connS
  rw [isShape_srt (s := cellsM w m) (srt_cellsTo 36) (cellsM_on hw hw6 hh hm)]
  exact inR8 _
end Go.Proofs.Ytghpkfihdcjlaaa

namespace Go.Proofs.Ytghpkfihdcjlaaa
open Go.RowKit

theorem isMask_step {a b : Nat} (ha : a < 9223372036854775808) (hb : b < 9223372036854775808) : (bits .andNot .i64 (a : Int) (b : Int) == 0) = (a &&& b == a) := by
  rw [i64_andNot_nat a b ha hb, Bool.eq_iff_iff]
  simp only [beq_iff_eq]
  rw [← andNot_zero a b (by omega) (by omega)]
  omega

end Go.Proofs.Ytghpkfihdcjlaaa

namespace Go.Proofs.Ytghpkfihdcjlaaa
open Go.RowKit

theorem shr_zero {m k : Nat} : ((m : Int) / 2 ^ k = 0) ↔ m < 2 ^ k := by
  have e1 : ((m : Int) / 2 ^ k) = ((m / 2 ^ k : Nat) : Int) := by simp
  rw [e1]
  have hp : 0 < 2 ^ k := Nat.pow_pos (by decide)
  constructor
  · intro h
    have h : m / 2 ^ k = 0 := by exact_mod_cast h
    rcases (Nat.div_eq_zero_iff).1 h with h | h
    · omega
    · exact h
  · intro h
    have : m / 2 ^ k = 0 := Nat.div_eq_of_lt h
    rw [this]; rfl
theorem bitCell_wrap {w k : Nat} (hk : k ≤ 1000000) : IntKind.i64.wrap (bitCell w k).y = (bitCell w k).y := by
  have h := Nat.div_le_self k w
  have e : (bitCell w k).y = ((k / w : Nat) : Int) := rfl
  rw [e]
  generalize k / w = q at *
  exact IntWalk.i64_in _ (by omega)
end Go.Proofs.Ytghpkfihdcjlaaa

namespace Go.Proofs.Ytghpkfihdcjlaaa
open Go.RowKit

/-- a mask's cells on a region -/
def Reg.cellsOf (r : Reg) (n : Int) : List Cell := if r.isMask n then cellsM r.w.toNat n.toNat else []
theorem isMask_lt {r : Reg} {n : Int} (h : r.isMask n = true) (hv : r.Valid) : n.toNat < 2 ^ (r.w.toNat * r.rows.length) ∧ 0 ≤ n := by
  unfold Reg.isMask at h
  rw [Bool.and_eq_true, decide_eq_true_eq, beq_iff_eq] at h
  have h1 : n.toNat ≤ r.mask := by rw [← h.2]; exact Nat.and_le_right
  have h2 := Reg.maskTo_lt hv r.rows.length
  rw [Nat.mul_comm] at h2
  exact ⟨Nat.lt_of_le_of_lt h1 h2, h.1⟩
end Go.Proofs.Ytghpkfihdcjlaaa
