
/-
  FindWeights, plain: what both sides compute.
-/
import Derived.Test.YtldggeldabaodaaGreatGjX
import Derived.Test.YtldggeldabaodaaGreatPrmX
import Derived.Test.YtldggeldabaodaaGreatAllX
import Derived.Test.YtldggeldabaodaaGreatRepH
namespace Go.Proofs.YtldggeldabaodaaGreat
open Go.RowKit

/-- the masks of all placements -/
def mskA (r : Reg) (ps : List (List Cell)) : List Nat := (allP r ps).map Int.toNat
def Reg.size (r : Reg) : Nat := r.w.toNat * r.rows.length
def fwR (r : Reg) (ps : List (List Cell)) (p : Int) : Option (List Int) := if (r.valid && arePcs ps) = true ∧ prm p = true then fwM p r.size r.mask (mskA r ps) else none
theorem Reg.size_le {r : Reg} (hv : r.Valid) : 0 < r.size ∧ r.size ≤ 36 := by
  obtain ⟨h1, h2, h3, h4, _⟩ := hv
  unfold Reg.size
  have hw : 0 < r.w.toNat ∧ r.w.toNat ≤ 6 := by omega
  exact ⟨Nat.mul_pos hw.1 h3, Nat.le_trans (Nat.mul_le_mul hw.2 h4) (by decide)⟩
theorem Reg.size_int {r : Reg} (hv : r.Valid) : r.w * (r.rows.length : Int) = (r.size : Int) := by
  unfold Reg.size
  rw [Int.natCast_mul, Int.toNat_of_nonneg (by have := hv.1; omega)]
theorem prm_is {p : Int} (h : prm p = true) : p = 2 ∨ p = 3 ∨ p = 5 := by
  unfold prm at h
  simp only [Bool.or_eq_true, beq_iff_eq] at h
  omega
theorem mskA_len {r : Reg} {ps : List (List Cell)} : (mskA r ps).length = (allP r ps).length := by simp [mskA]
theorem mskA_at {r : Reg} (hv : r.Valid) {ps : List (List Cell)} {i : Nat} (h : i < (mskA r ps).length) : ∃ x : Nat, (mskA r ps)[i]? = some x ∧ (allP r ps)[i]? = some (x : Int) ∧ x < 68719476736 := by
  rw [mskA_len] at h
  have hm := allP_mk hv (List.getElem_mem h)
  refine ⟨((allP r ps)[i]).toNat, ?_, ?_, ?_⟩
  · unfold mskA
    rw [List.getElem?_map, List.getElem?_eq_getElem h]; rfl
  · rw [List.getElem?_eq_getElem h, Int.toNat_of_nonneg hm.1]
  · have := hm.2; have := hm.1; omega
/-- a mask's bits, the first k set -/
def bitTo (n m : Nat) : Nat → List Int
  | 0 => List.replicate n 0
  | k + 1 => (bitTo n m k).set k (bitI m k)
theorem bitTo_len {n m : Nat} : ∀ k, (bitTo n m k).length = n
  | 0 => by simp [bitTo]
  | k + 1 => by rw [bitTo, List.length_set]; exact bitTo_len k
theorem bitTo_at {n m : Nat} : ∀ (k i : Nat), i < n → (bitTo n m k)[i]? = some (if i < k then bitI m i else 0)
  | 0, i, h => by
    rw [bitTo, if_neg (Nat.not_lt_zero _)]
    simp [h]
  | k + 1, i, h => by
    rw [bitTo]
    by_cases e : i = k
    · subst e
      rw [List.getElem?_set_self (by rw [bitTo_len]; exact h), if_pos (Nat.lt_succ_self _)]
    · rw [List.getElem?_set_ne (fun q => e q.symm), bitTo_at k i h]
      by_cases h2 : i < k
      · rw [if_pos h2, if_pos (by omega)]
      · rw [if_neg h2, if_neg (by omega)]
theorem bitTo_end {n m : Nat} : bitTo n m n = bitR n m := by
  apply List.ext_getElem?
  intro i
  by_cases h : i < n
  · rw [bitTo_at n i h, if_pos h]
    simp [bitR, bitI, h]
  · rw [List.getElem?_eq_none (by rw [bitTo_len]; omega), List.getElem?_eq_none (by simp [bitR]; omega)]
theorem ints_at {w : World} {A : Option Addr} {n c i : Nat} {l : List Int} {y : Int} (h : IntsRd w 0 w.heap.size (.slice A n c) l) (hy : l[i]? = some y) : ∃ b off, A = some ⟨b, off, none⟩ ∧ b < w.heap.size ∧ w.cell? ⟨b, off + i, none⟩ = some (.int .i64 y) := by
  obtain ⟨A', c', e, _, hr⟩ := h
  injection e with e1 e2 e3
  subst e1
  obtain ⟨b, off, e4, _, hb, hc⟩ := hr.2 (by have := (List.getElem?_eq_some_iff.1 hy).1; omega)
  exact ⟨b, off, e4, hb, hc i _ (by simp [ic, hy])⟩
theorem row_rd {w : World} {v : Value} {n : Nat} {l : List Int} (h : w.ownsRow 0 3 1 v n (ic l)) (hn : n = l.length) : IntsRd w 0 w.heap.size v l := by
  subst hn
  exact IntsIn.rd (lo := 0) ⟨h, fun k hk => own_lt h k hk⟩
theorem hasI_nat {l : List Nat} {c : Nat} : hasI (l.map fun x : Nat => (x : Int)) c = decide (c ∈ l) := by
  unfold hasI
  congr 1
  apply propext
  constructor
  · intro h
    obtain ⟨x, hx, e⟩ := List.mem_map.1 h
    rwa [← Int.ofNat_inj.1 e]
  · exact fun h => List.mem_map.2 ⟨c, h, rfl⟩
/-- what a finder of weights answers -/
def FwPost (R : Option (List Int)) (w : World) : Ending → World → Prop := fun e w' => ∃ v' b, e = .returned (.tuple #[v', .bool b]) ∧ b = R.isSome ∧ IntsIn w' w.heap.size w'.heap.size v' (R.getD []) ∧ Below w.heap.size w w'
theorem FwPost.nope {R : Option (List Int)} {w w' : World} (h : R = none) (hb : Below w.heap.size w w') : FwPost R w (.returned (.tuple #[.slice none 0 0, .bool false])) w' := by
  subst h
  exact ⟨_, _, rfl, rfl, IntsIn.nil, hb⟩
theorem FwPost.empty {R : Option (List Int)} {w w' : World} {v : Value} {L : List Res} (h : R = none) (H : Sep w w' (Res.row v 3 1 0 [] :: L)) : FwPost R w (.returned (.tuple #[v, .bool false])) w' := by
  subst h
  exact ⟨_, _, rfl, rfl, H.oi, H.below⟩
theorem FwPost.yes {R : Option (List Int)} {w w' : World} {v : Value} {n : Nat} {l : List Int} {L : List Res} (h : R = some l) (hn : n = l.length) (H : Sep w w' (Res.row v 3 1 n (ic l) :: L)) : FwPost R w (.returned (.tuple #[v, .bool true])) w' := by
  subst h hn
  exact ⟨_, _, rfl, rfl, H.oi, H.below⟩
theorem fwFrom_skip {p : Int} {S : List (List Int) × List Nat} {n mask c : Nat} (hc : c < n) (h : c ∈ S.2) : fwFrom p S n mask c (n - c) = fwFrom p S n mask (c + 1) (n - (c + 1)) := by
  rw [show n - c = (n - (c + 1)) + 1 by omega, fwFrom, if_pos h]
theorem fwFrom_not {p : Int} {S : List (List Int) × List Nat} {n mask c : Nat} (hc : c < n) (h : ¬ c ∈ S.2) (h2 : sumW mask (wgtOf p S n c) n % p = 0) : fwFrom p S n mask c (n - c) = fwFrom p S n mask (c + 1) (n - (c + 1)) := by
  rw [show n - c = (n - (c + 1)) + 1 by omega, fwFrom, if_neg h, if_neg (fun h3 => h3 h2)]
theorem fwFrom_yes {p : Int} {S : List (List Int) × List Nat} {n mask c : Nat} (hc : c < n) (h : ¬ c ∈ S.2) (h2 : sumW mask (wgtOf p S n c) n % p ≠ 0) : fwFrom p S n mask c (n - c) = some (wgtOf p S n c) := by
  rw [show n - c = (n - (c + 1)) + 1 by omega, fwFrom, if_neg h, if_pos h2]
theorem fwFrom_end {p : Int} {S : List (List Int) × List Nat} {n mask : Nat} : fwFrom p S n mask n (n - n) = none := by
  rw [Nat.sub_self]; rfl
end Go.Proofs.YtldggeldabaodaaGreat
