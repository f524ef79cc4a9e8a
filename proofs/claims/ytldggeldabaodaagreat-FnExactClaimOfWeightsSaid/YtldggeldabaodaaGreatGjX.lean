
/-
  Rows in reduced form modulo a small prime, plain. No program in sight. A matrix as a walk holds it: its entries' cells; two of its rows change places. The reference clears a row whose entry is 0 as well: nothing changes. The program's reduction of rows modulo a small prime. The reference's reduction of rows modulo a small prime: the inverse; the bits of a mask.
-/
import Derived.Test.YtldggeldabaodaaGreatSepX
import Derived.Test.YtldggeldabaodaaGreatRowX
import Derived.Test.YtldggeldabaodaaGreatQTail
import Derived.Test.YtldggeldabaodaaGreatCwWalks
import Derived.IntWalk
import Derived.Deep.DeepCutAuto
import Derived.Test.YtldggeldabaodaaGreatRegData
namespace Go.Proofs.YtldggeldabaodaaGreat
open Go.RowKit

/-- entry c of row i -/
def gel (M : List (List Int)) (i c : Nat) : Int := (M.getD i []).getD c 0
/-- the first row from t on whose entry c is not 0; their number if there is none -/
def fnd (M : List (List Int)) (c t : Nat) : Nat := t + (M.drop t).findIdx fun r => r.getD c 0 != 0
theorem fnd_is {M : List (List Int)} {c t k : Nat} (h1 : t ≤ k) (h2 : k ≤ M.length) (h3 : ∀ j, t ≤ j → j < k → gel M j c = 0) (h4 : k < M.length → gel M k c ≠ 0) : fnd M c t = k := by
  unfold fnd
  have h5 : (M.drop t).findIdx (fun r => r.getD c 0 != 0) = k - t := by
    rcases Nat.lt_or_ge k M.length with hk | hk
    · rw [List.findIdx_eq (by rw [List.length_drop]; omega)]
      refine ⟨?_, fun j hj => ?_⟩
      · rw [List.getElem_drop]
        have := h4 hk
        unfold gel at this
        rw [List.getD_eq_getElem?_getD (l := M), List.getElem?_eq_getElem hk] at this
        have e : t + (k - t) = k := by omega
        simp only [e, bne_iff_ne, ne_eq]
        exact this
      · rw [List.getElem_drop]
        have := h3 (t + j) (by omega) (by omega)
        unfold gel at this
        rw [List.getD_eq_getElem?_getD (l := M), List.getElem?_eq_getElem (by omega)] at this
        simpa using this
    · obtain rfl : k = M.length := by omega
      rw [List.findIdx_eq_length_of_false]
      · rw [List.length_drop]
      · intro r hr
        obtain ⟨j, hj, rfl⟩ := List.getElem_of_mem hr
        rw [List.length_drop] at hj
        rw [List.getElem_drop]
        have := h3 (t + j) (by omega) (by omega)
        unfold gel at this
        rw [List.getD_eq_getElem?_getD (l := M), List.getElem?_eq_getElem (by omega)] at this
        simpa using this
  omega
/-- the inverse of x -/
def invP (p x : Int) : Int := if p = 5 then (if x = 2 then 3 else if x = 3 then 2 else x) else x
theorem invP_is {p x : Int} (hp : p = 2 ∨ p = 3 ∨ p = 5) (h0 : 1 ≤ x) (h1 : x < p) : (1 ≤ invP p x ∧ invP p x < p) ∧ invP p x * x % p = 1 ∧ ∀ y, 1 ≤ y → y < invP p x → y * x % p ≠ 1 := by
  have hx : x = 1 ∨ x = 2 ∨ x = 3 ∨ x = 4 := by omega
  rcases hp with rfl | rfl | rfl <;> rcases hx with rfl | rfl | rfl | rfl <;> first | omega | (refine ⟨by decide, by decide, fun y hy1 hy2 => ?_⟩; simp [invP] at hy2; omega)
def scl (p y : Int) (r : List Int) : List Int := r.map fun x => x * y % p
/-- .. the first j entries -/
def sclTo (p y : Int) (r : List Int) : Nat → List Int
  | 0 => r
  | j + 1 => (sclTo p y r j).set j (r.getD j 0 * y % p)
theorem sclTo_len {p y : Int} {r : List Int} : ∀ j, (sclTo p y r j).length = r.length
  | 0 => rfl
  | j + 1 => by rw [sclTo, List.length_set]; exact sclTo_len j
theorem sclTo_at {p y : Int} {r : List Int} : ∀ (j i : Nat), (sclTo p y r j)[i]? = if i < j then (r[i]?).map (fun x => x * y % p) else r[i]?
  | 0, i => by simp [sclTo]
  | j + 1, i => by
    rw [sclTo]
    by_cases e : i = j
    · subst e
      by_cases hl : i < r.length
      · rw [List.getElem?_set_self (by rw [sclTo_len]; exact hl), if_pos (Nat.lt_succ_self _), List.getElem?_eq_getElem hl, Option.map_some]
        rw [List.getD_eq_getElem?_getD, List.getElem?_eq_getElem hl, Option.getD_some]
      · rw [List.getElem?_eq_none (by rw [List.length_set, sclTo_len]; omega), List.getElem?_eq_none (by omega)]; simp
    · rw [List.getElem?_set_ne (fun q => e q.symm), sclTo_at j i]
      by_cases h : i < j
      · rw [if_pos h, if_pos (by omega)]
      · rw [if_neg h, if_neg (by omega)]
theorem sclTo_end {p y : Int} {r : List Int} : sclTo p y r r.length = scl p y r := by
  apply List.ext_getElem?
  intro i
  rw [sclTo_at, scl, List.getElem?_map]
  by_cases h : i < r.length
  · rw [if_pos h]
  · rw [if_neg h, List.getElem?_eq_none (by omega)]; rfl
theorem sclTo_next {p y : Int} {r : List Int} {j : Nat} : (sclTo p y r j).getD j 0 = r.getD j 0 := by
  rw [List.getD_eq_getElem?_getD, sclTo_at, if_neg (Nat.lt_irrefl _), ← List.getD_eq_getElem?_getD]
def clr (p f : Int) (a b : List Int) : List Int := List.zipWith (fun x y => (x + (p - f) * y) % p) a b
/-- .. the first j entries -/
def clrTo (p f : Int) (a b : List Int) : Nat → List Int
  | 0 => a
  | j + 1 => (clrTo p f a b j).set j ((a.getD j 0 + (p - f) * b.getD j 0) % p)
theorem clrTo_len {p f : Int} {a b : List Int} : ∀ j, (clrTo p f a b j).length = a.length
  | 0 => rfl
  | j + 1 => by rw [clrTo, List.length_set]; exact clrTo_len j
theorem clrTo_at {p f : Int} {a b : List Int} : ∀ (j i : Nat), (clrTo p f a b j)[i]? = if i < j ∧ i < a.length then some ((a.getD i 0 + (p - f) * b.getD i 0) % p) else a[i]?
  | 0, i => by simp [clrTo]
  | j + 1, i => by
    rw [clrTo]
    by_cases e : i = j
    · subst e
      by_cases hl : i < a.length
      · rw [List.getElem?_set_self (by rw [clrTo_len]; exact hl), if_pos ⟨Nat.lt_succ_self _, hl⟩]
      · rw [List.getElem?_eq_none (by rw [List.length_set, clrTo_len]; omega), if_neg (fun h => hl h.2), List.getElem?_eq_none (by omega)]
    · rw [List.getElem?_set_ne (fun q => e q.symm), clrTo_at j i]
      by_cases h : i < j ∧ i < a.length
      · rw [if_pos h, if_pos ⟨by omega, h.2⟩]
      · rw [if_neg h, if_neg (fun h2 => h ⟨by omega, h2.2⟩)]
theorem clrTo_end {p f : Int} {a b : List Int} (hl : a.length = b.length) : clrTo p f a b a.length = clr p f a b := by
  apply List.ext_getElem?
  intro i
  rw [clrTo_at]
  by_cases h : i < a.length
  · rw [if_pos ⟨h, h⟩]
    unfold clr
    rw [List.getElem?_eq_getElem (by simp; omega), List.getElem_zipWith, List.getD_eq_getElem?_getD, List.getD_eq_getElem?_getD, List.getElem?_eq_getElem h, List.getElem?_eq_getElem (by omega)]
    rfl
  · rw [if_neg (fun h2 => h h2.2), List.getElem?_eq_none (by omega), List.getElem?_eq_none (by unfold clr; simp; omega)]
theorem clrTo_next {p f : Int} {a b : List Int} {j : Nat} : (clrTo p f a b j).getD j 0 = a.getD j 0 := by
  rw [List.getD_eq_getElem?_getD, clrTo_at, if_neg (fun h => Nat.lt_irrefl _ h.1), ← List.getD_eq_getElem?_getD]
/-- n columns, residues -/
structure Mok (p : Int) (n : Nat) (M : List (List Int)) : Prop where
  len : ∀ r ∈ M, r.length = n
  res : ∀ r ∈ M, ∀ x ∈ r, 0 ≤ x ∧ x < p
theorem scl_ok {p y : Int} (hp : 0 < p) {r : List Int} : (scl p y r).length = r.length ∧ ∀ x ∈ scl p y r, 0 ≤ x ∧ x < p := by
  refine ⟨by simp [scl], fun x hx => ?_⟩
  obtain ⟨a, _, rfl⟩ := List.mem_map.1 hx
  exact ⟨Int.emod_nonneg _ (by omega), Int.emod_lt_of_pos _ hp⟩
theorem clr_ok {p f : Int} (hp : 0 < p) {a b : List Int} (h : a.length = b.length) : (clr p f a b).length = a.length ∧ ∀ x ∈ clr p f a b, 0 ≤ x ∧ x < p := by
  refine ⟨by simp [clr, h], fun x hx => ?_⟩
  unfold clr at hx
  obtain ⟨i, hi, rfl⟩ := List.getElem_of_mem hx
  rw [List.getElem_zipWith]
  exact ⟨Int.emod_nonneg _ (by omega), Int.emod_lt_of_pos _ hp⟩
/-- the reference's way to clear an entry -/
theorem clr_two {p f a b : Int} (hp : p = 2 ∨ p = 3 ∨ p = 5) (hf : 0 ≤ f ∧ f < p) (ha : 0 ≤ a ∧ a < p) (hb : 0 ≤ b ∧ b < p) : ((a - f * b).tmod p + p).tmod p = (a + (p - f) * b) % p := by
  have h5 : ∀ q : Int, 0 ≤ q → q < 5 → q = 0 ∨ q = 1 ∨ q = 2 ∨ q = 3 ∨ q = 4 := fun q h1 h2 => by omega
  have hf' := h5 f hf.1 (by omega)
  have ha' := h5 a ha.1 (by omega)
  have hb' := h5 b hb.1 (by omega)
  rcases hp with rfl | rfl | rfl <;> rcases hf' with rfl | rfl | rfl | rfl | rfl <;> rcases ha' with rfl | rfl | rfl | rfl | rfl <;> rcases hb' with rfl | rfl | rfl | rfl | rfl <;> first | omega | decide
theorem clr_zero {p a b : Int} (ha : 0 ≤ a ∧ a < p) : (a + (p - 0) * b) % p = a := by
  rw [Int.sub_zero, Int.add_mul_emod_self_left]
  exact Int.emod_eq_of_lt ha.1 ha.2
def swp (M : List (List Int)) (t k : Nat) : List (List Int) := (M.set t (M.getD k [])).set k (M.getD t [])
theorem swp_len {M : List (List Int)} {t k : Nat} : (swp M t k).length = M.length := by simp [swp]
theorem getD_mem {M : List (List Int)} {k : Nat} (h : k < M.length) : M.getD k [] ∈ M := by
  rw [List.getD_eq_getElem?_getD, List.getElem?_eq_getElem h]
  exact List.getElem_mem h
theorem set_mem2 {M : List (List Int)} {k : Nat} {r x : List Int} (h : x ∈ M.set k r) : x = r ∨ x ∈ M := by
  rcases List.mem_or_eq_of_mem_set h with h | h
  · exact .inr h
  · exact .inl h
theorem gel_set {M : List (List Int)} {i t c : Nat} {r : List Int} (h : t < M.length) : gel (M.set t r) i c = if i = t then r.getD c 0 else gel M i c := by
  unfold gel
  rw [List.getD_eq_getElem?_getD, List.getD_eq_getElem?_getD]
  by_cases e : i = t
  · subst e
    rw [if_pos rfl, List.getElem?_set_self h]; rfl
  · rw [if_neg e, List.getElem?_set_ne (fun q => e q.symm), ← List.getD_eq_getElem?_getD, ← List.getD_eq_getElem?_getD]
theorem gel_swp {M : List (List Int)} {t k c : Nat} (ht : t < M.length) (hk : k < M.length) : gel (swp M t k) t c = gel M k c := by
  unfold swp
  rw [gel_set (by rw [List.length_set]; exact hk)]
  by_cases e : t = k
  · subst e
    rw [if_pos rfl]; rfl
  · rw [if_neg e, gel_set ht, if_pos rfl]; rfl
theorem Mok.el {p : Int} {n : Nat} {M : List (List Int)} (h : Mok p n M) {i c : Nat} (hi : i < M.length) (hc : c < n) : 0 ≤ gel M i c ∧ gel M i c < p := by
  have hm := getD_mem hi
  have hl := h.len _ hm
  unfold gel
  have : (M.getD i []).getD c 0 = (M.getD i [])[c]'(by omega) := by rw [List.getD_eq_getElem?_getD, List.getElem?_eq_getElem (by omega)]; rfl
  rw [this]
  exact h.res _ hm _ (List.getElem_mem _)
theorem Mok.set {p : Int} {n : Nat} {M : List (List Int)} (h : Mok p n M) {k : Nat} {r : List Int} (hr : r.length = n) (hx : ∀ x ∈ r, 0 ≤ x ∧ x < p) : Mok p n (M.set k r) :=
  ⟨fun q hq => (set_mem2 hq).elim (fun e => e ▸ hr) (h.len q), fun q hq => (set_mem2 hq).elim (fun e => e ▸ hx) (h.res q)⟩
theorem Mok.swp {p : Int} {n : Nat} {M : List (List Int)} (h : Mok p n M) {t k : Nat} (ht : t < M.length) (hk : k < M.length) : Mok p n (swp M t k) :=
  (h.set (h.len _ (getD_mem hk)) (h.res _ (getD_mem hk))).set (h.len _ (getD_mem ht)) (h.res _ (getD_mem ht))
/-- the rows but t, entry c cleared, the first i of them -/
def clrM (p : Int) (c t : Nat) (M : List (List Int)) : Nat → List (List Int)
  | 0 => M
  | i + 1 => if i = t ∨ gel M i c = 0 then clrM p c t M i else (clrM p c t M i).set i (clr p (gel M i c) (M.getD i []) (M.getD t []))
theorem clrM_len {p : Int} {c t : Nat} {M : List (List Int)} : ∀ i, (clrM p c t M i).length = M.length
  | 0 => rfl
  | i + 1 => by
    unfold clrM
    split
    · exact clrM_len i
    · rw [List.length_set]; exact clrM_len i
/-- rows from i on are as they were, and so is row t -/
theorem clrM_at {p : Int} {c t : Nat} {M : List (List Int)} : ∀ (i j : Nat), (i ≤ j ∨ j = t) → (clrM p c t M i)[j]? = M[j]?
  | 0, _, _ => rfl
  | i + 1, j, h => by
    unfold clrM
    split
    · exact clrM_at i j (by omega)
    · rename_i hn
      rw [not_or] at hn
      rw [List.getElem?_set_ne (by omega)]
      exact clrM_at i j (by omega)
theorem clrM_row {p : Int} {c t : Nat} {M : List (List Int)} {i j : Nat} (h : i ≤ j ∨ j = t) : (clrM p c t M i).getD j [] = M.getD j [] := by
  rw [List.getD_eq_getElem?_getD, clrM_at i j h, ← List.getD_eq_getElem?_getD]
theorem clrM_gel {p : Int} {c t d : Nat} {M : List (List Int)} {i j : Nat} (h : i ≤ j ∨ j = t) : gel (clrM p c t M i) j d = gel M j d := by
  unfold gel
  rw [clrM_row h]
theorem clrM_ok {p : Int} {n c t : Nat} {M : List (List Int)} (hp : 0 < p) (h : Mok p n M) (ht : t < M.length) : ∀ i, i ≤ M.length → Mok p n (clrM p c t M i)
  | 0, _ => h
  | i + 1, hi => by
    unfold clrM
    split
    · exact clrM_ok hp h ht i (by omega)
    · have hl : (M.getD i []).length = (M.getD t []).length := by rw [h.len _ (getD_mem (by omega)), h.len _ (getD_mem ht)]
      have hc := clr_ok (f := gel M i c) hp hl
      exact (clrM_ok hp h ht i (by omega)).set (by rw [hc.1]; exact h.len _ (getD_mem (by omega))) hc.2
/-- one column -/
def gjS (p : Int) (c : Nat) (S : List (List Int) × List Nat) : List (List Int) × List Nat :=
  if S.2.length < S.1.length then
    if fnd S.1 c S.2.length < S.1.length then
      (clrM p c S.2.length ((swp S.1 S.2.length (fnd S.1 c S.2.length)).set S.2.length (scl p (invP p (gel (swp S.1 S.2.length (fnd S.1 c S.2.length)) S.2.length c)) ((swp S.1 S.2.length (fnd S.1 c S.2.length)).getD S.2.length []))) S.1.length, S.2 ++ [c])
    else S
  else S
def gjTo (p : Int) (M : List (List Int)) : Nat → List (List Int) × List Nat
  | 0 => (M, [])
  | c + 1 => gjS p c (gjTo p M c)
theorem gjTo_ok {p : Int} {n : Nat} {M : List (List Int)} (hp : 0 < p) (h : Mok p n M) : ∀ c, Mok p n (gjTo p M c).1 ∧ (gjTo p M c).1.length = M.length ∧ (gjTo p M c).2.length ≤ M.length ∧ (gjTo p M c).2.length ≤ c ∧ ∀ x ∈ (gjTo p M c).2, x < c
  | 0 => ⟨h, rfl, Nat.zero_le _, Nat.zero_le _, fun x hx => by simp [gjTo] at hx⟩
  | c + 1 => by
    obtain ⟨h1, h2, h3, h4, h5⟩ := gjTo_ok hp h c
    have h5' : ∀ x ∈ (gjTo p M c).2, x < c + 1 := fun x hx => Nat.lt_succ_of_lt (h5 x hx)
    unfold gjTo gjS
    split
    · rename_i ht
      split
      · rename_i hk
        have hs := h1.swp ht hk
        have hsl := scl_ok (p := p) (y := invP p (gel (swp (gjTo p M c).1 (gjTo p M c).2.length (fnd (gjTo p M c).1 c (gjTo p M c).2.length)) (gjTo p M c).2.length c)) hp (r := (swp (gjTo p M c).1 (gjTo p M c).2.length (fnd (gjTo p M c).1 c (gjTo p M c).2.length)).getD (gjTo p M c).2.length [])
        refine ⟨clrM_ok hp (hs.set ?_ hsl.2) (by rw [List.length_set, swp_len]; exact ht) _ (by rw [List.length_set, swp_len]; exact Nat.le_refl _), ?_, ?_, ?_, ?_⟩
        · rw [hsl.1]
          exact hs.len _ (getD_mem (by rw [swp_len]; exact ht))
        · rw [clrM_len, List.length_set, swp_len, h2]
        · rw [List.length_append]; simp only [List.length_cons, List.length_nil]; omega
        · rw [List.length_append]; simp only [List.length_cons, List.length_nil]; omega
        · intro x hx
          rcases List.mem_append.1 hx with hx | hx
          · exact h5' x hx
          · simp at hx; omega
      · exact ⟨h1, h2, h3, by omega, h5'⟩
    · exact ⟨h1, h2, h3, by omega, h5'⟩
/-- once every row has its leading one, nothing turns -/
theorem gjTo_full {p : Int} {M : List (List Int)} {c : Nat} (h : (gjTo p M c).1.length ≤ (gjTo p M c).2.length) : ∀ d, gjTo p M (c + d) = gjTo p M c
  | 0 => rfl
  | d + 1 => by
    show gjS p (c + d) (gjTo p M (c + d)) = _
    rw [gjTo_full h d]
    unfold gjS
    rw [if_neg (by omega)]
/-- the weights for a column without a leading one -/
def wgtTo (p : Int) (S : List (List Int) × List Nat) (n c : Nat) : Nat → List Int
  | 0 => (List.replicate n 0).set c 1
  | i + 1 => (wgtTo p S n c i).set (S.2.getD i 0) ((p - gel S.1 i c) % p)
def wgtOf (p : Int) (S : List (List Int) × List Nat) (n c : Nat) : List Int := wgtTo p S n c S.2.length
theorem wgtTo_len {p : Int} {S : List (List Int) × List Nat} {n c : Nat} : ∀ i, (wgtTo p S n c i).length = n
  | 0 => by simp [wgtTo]
  | i + 1 => by rw [wgtTo, List.length_set]; exact wgtTo_len i
theorem wgtTo_res {p : Int} (hp : 2 ≤ p) {S : List (List Int) × List Nat} {n c : Nat} : ∀ i, ∀ x ∈ wgtTo p S n c i, 0 ≤ x ∧ x < p
  | 0, x, hx => by
    rcases List.mem_or_eq_of_mem_set hx with h | h
    · have := List.eq_of_mem_replicate h; omega
    · omega
  | i + 1, x, hx => by
    rcases List.mem_or_eq_of_mem_set hx with h | h
    · exact wgtTo_res hp i x h
    · subst h
      exact ⟨Int.emod_nonneg _ (by omega), Int.emod_lt_of_pos _ (by omega)⟩
/-- the sum over a mask, of the first k -/
def sumW (m : Nat) (w : List Int) : Nat → Int
  | 0 => 0
  | k + 1 => if m.testBit k = true then sumW m w k + w.getD k 0 else sumW m w k
/-- the first weights found among columns from c on, d of them -/
def fwFrom (p : Int) (S : List (List Int) × List Nat) (n mask : Nat) : Nat → Nat → Option (List Int)
  | _, 0 => none
  | c, d + 1 => if c ∈ S.2 then fwFrom p S n mask (c + 1) d else if sumW mask (wgtOf p S n c) n % p ≠ 0 then some (wgtOf p S n c) else fwFrom p S n mask (c + 1) d
/-- a mask's bits -/
def bitR (n : Nat) (m : Nat) : List Int := (List.range n).map fun k => if m.testBit k = true then 1 else 0
theorem bitR_ok {p : Int} (hp : 2 ≤ p) {n : Nat} {A : List Nat} : Mok p n (A.map (bitR n)) := by
  refine ⟨fun r hr => ?_, fun r hr x hx => ?_⟩
  · obtain ⟨m, _, rfl⟩ := List.mem_map.1 hr
    simp [bitR]
  · obtain ⟨m, _, rfl⟩ := List.mem_map.1 hr
    obtain ⟨k, _, rfl⟩ := List.mem_map.1 hx
    split <;> omega
/-- weights that forbid a tiling -/
def fwM (p : Int) (n mask : Nat) (A : List Nat) : Option (List Int) := fwFrom p (gjTo p (A.map (bitR n)) n) n mask 0 n
end Go.Proofs.YtldggeldabaodaaGreat

namespace Go.Proofs.YtldggeldabaodaaGreat
open Go.RowKit

section
variable {w0 w : World} {L : List Res} {vs : List Value} {M : List (List Int)}
theorem rows_at {g m cap n i j : Nat} (H : Sep w0 w (Res.row (.slice (some ⟨g, 0, none⟩) m cap) 22 1 m vs :: Res.rows vs M :: L)) (hM : ∀ r ∈ M, r.length = n) (hm : m = M.length) (hi : i < m) (hj : j < n) :
    ∃ b cp, vs[i]? = some (.slice (some ⟨b, 0, none⟩) n cp) ∧ b < w.heap.size ∧ w.cell? ⟨g, i, none⟩ = some (.slice (some ⟨b, 0, none⟩) n cp) ∧ w.cell? ⟨b, j, none⟩ = some (.int .i64 (gel M i j)) ∧ w.frozen? ⟨b, j, none⟩ = false := by
  have hR : RowsAt w vs M := H.h1
  have hiM : i < M.length := by omega
  obtain ⟨u, hu⟩ : ∃ u, vs[i]? = some u := ⟨vs[i]'(by rw [hR.len]; exact hiM), List.getElem?_eq_getElem _⟩
  have hr : M[i]? = some M[i] := List.getElem?_eq_getElem hiM
  have hrl := hM _ (List.getElem_mem hiM)
  have ho := hR.own i u _ hu hr
  rw [hrl] at ho
  obtain ⟨b, off, cp, rfl, _, _, hb⟩ := own_shape ho (by omega)
  obtain ⟨rfl, _⟩ := own_blk ho
  have x0 := own_cell H.h0 hu
  have hel : gel M i j = M[i][j]'(by omega) := by
    unfold gel
    have e1 : M.getD i [] = M[i] := by rw [List.getD_eq_getElem?_getD, hr, Option.getD_some]
    rw [e1, List.getD_eq_getElem?_getD, List.getElem?_eq_getElem (by omega), Option.getD_some]
  have x1 := own_cell1 ho (j := j) (u := gel M i j) (by rw [hel]; exact List.getElem?_eq_getElem (by omega))
  have f1 := own_free ho j
  rw [Nat.zero_add] at x0 x1 f1
  exact ⟨b, cp, hu, hb, x0, x1, f1⟩
theorem Sep.rowsRe {vs' : List Value} {M' : List (List Int)} (h : Sep w0 w (Res.rows vs M :: L)) (σ : Nat → Nat) (hσ : ∀ i j, i ≠ j → σ i ≠ σ j) (hv : ∀ j, vs'[j]? = vs[σ j]?) (hm : ∀ j, M'[j]? = M[σ j]?) (hl : vs'.length = M'.length) : Sep w0 w (Res.rows vs' M' :: L) :=
  h.say (fun hR => ⟨hl, fun i u r hu hr => RowsAt.own hR (σ i) u r (by rw [← hv]; exact hu) (by rw [← hm]; exact hr), fun i j u u' hij hu hu' => RowsAt.apart hR (σ i) (σ j) u u' (hσ i j hij) (by rw [← hv]; exact hu) (by rw [← hv]; exact hu')⟩)
    (fun b ⟨u, hu, hb⟩ => by
      obtain ⟨j, hj⟩ := List.getElem?_of_mem hu
      rw [hv] at hj
      exact ⟨u, List.mem_of_getElem? hj, hb⟩)
def swI (t k j : Nat) : Nat := if j = k then t else if j = t then k else j
theorem swI_inj {t k i j : Nat} (h : i ≠ j) : swI t k i ≠ swI t k j := by unfold swI; split <;> split <;> (try split) <;> (try split) <;> omega
theorem set_swap {α : Type} {l : List α} {t k : Nat} {a b : α} (ha : l[t]? = some a) (hb : l[k]? = some b) (j : Nat) : ((l.set t b).set k a)[j]? = l[swI t k j]? := by
  have ht := (List.getElem?_eq_some_iff.1 ha).1
  have hk := (List.getElem?_eq_some_iff.1 hb).1
  unfold swI
  by_cases e : j = k
  · subst e
    rw [if_pos rfl, List.getElem?_set_self (by rw [List.length_set]; exact hk), ha]
  · rw [if_neg e, List.getElem?_set_ne (fun q => e q.symm)]
    by_cases e2 : j = t
    · subst e2
      rw [if_pos rfl, List.getElem?_set_self ht, hb]
    · rw [if_neg e2, List.getElem?_set_ne (fun q => e2 q.symm)]
theorem getD_get {t : Nat} (h : t < M.length) : M[t]? = some (M.getD t []) := by
  rw [List.getD_eq_getElem?_getD, List.getElem?_eq_getElem h]; rfl
/-- two rows change places -/
theorem Sep.rowsSwap {g m cap t k : Nat} {a b : Value} (H : Sep w0 w (Res.row (.slice (some ⟨g, 0, none⟩) m cap) 22 1 m vs :: Res.rows vs M :: L)) (hm : m = M.length) (ht : t < m) (hk : k < m) (ha : vs[t]? = some a) (hb : vs[k]? = some b) :
    Sep w0 ((w.setCell ⟨g, t, none⟩ b).setCell ⟨g, k, none⟩ a) (Res.row (.slice (some ⟨g, 0, none⟩) m cap) 22 1 m ((vs.set t b).set k a) :: Res.rows ((vs.set t b).set k a) (swp M t k) :: L) := by
  have hvl : vs.length = M.length := RowsAt.len H.h1
  have h1 := H.setRow (j := t) (by omega) b
  have h2 := h1.setRow (j := k) (by rw [List.length_set]; omega) a
  rw [Nat.zero_add, Nat.zero_add] at h2
  exact (h2.g1.rowsRe (swI t k) (fun _ _ => swI_inj) (set_swap ha hb) (by
    unfold swp
    exact set_swap (getD_get (by omega)) (getD_get (by omega))) (by simp [swp, hvl])).g1
end
end Go.Proofs.YtldggeldabaodaaGreat

namespace Go.Proofs.YtldggeldabaodaaGreat

theorem clr_none {p : Int} {a b : List Int} (hl : a.length = b.length) (ha : ∀ x ∈ a, 0 ≤ x ∧ x < p) : clr p 0 a b = a := by
  unfold clr
  refine List.ext_getElem (by simp [hl]) fun i h1 h2 => ?_
  rw [List.getElem_zipWith]
  exact clr_zero (ha _ (List.getElem_mem h2))
/-- one row of the reference's clearing: any row but t -/
theorem clrM_any {p : Int} {n c t i : Nat} {M : List (List Int)} (h : Mok p n M) (ht : t < M.length) (hi : i < M.length) (hit : i ≠ t) : (clrM p c t M i).set i (clr p (gel M i c) (M.getD i []) (M.getD t [])) = clrM p c t M (i + 1) := by
  by_cases hf : gel M i c = 0
  · have e1 : clrM p c t M (i + 1) = clrM p c t M i := by rw [clrM, if_pos (.inr hf)]
    rw [e1, hf, clr_none (by rw [h.len _ (getD_mem hi), h.len _ (getD_mem ht)]) (h.res _ (getD_mem hi))]
    obtain ⟨h1, h2⟩ := List.getElem?_eq_some_iff.1 (show (clrM p c t M i)[i]? = some (M.getD i []) by rw [clrM_at i i (.inl (Nat.le_refl _))]; exact getD_get hi)
    rw [← h2]
    exact List.set_getElem_self h1
  · rw [clrM, if_neg (by rw [not_or]; exact ⟨hit, hf⟩)]
/-- the reference looks for a row from the end: what it knows once rows behind z are seen -/
def SrchR (M : List (List Int)) (c m : Nat) (z t : Int) : Prop := (t = -1 ∧ ∀ j : Nat, z < j → j < m → gel M j c = 0) ∨ (∃ a : Nat, t = a ∧ z < a ∧ a < m ∧ gel M a c ≠ 0 ∧ ∀ j : Nat, z < j → j < a → gel M j c = 0)
theorem SrchR.start {M : List (List Int)} {c m : Nat} : SrchR M c m ((m : Int) - 1) (-1) := .inl ⟨rfl, fun j h1 h2 => by omega⟩
theorem SrchR.skip {M : List (List Int)} {c m q : Nat} {t : Int} (h : SrchR M c m q t) (h0 : gel M q c = 0) : SrchR M c m ((q : Int) - 1) t := by
  rcases h with ⟨h1, h2⟩ | ⟨a, h1, h2, h3, h4, h5⟩
  · refine .inl ⟨h1, fun j h3 h4 => ?_⟩
    by_cases e : j = q
    · rw [e]; exact h0
    · exact h2 j (by omega) h4
  · refine .inr ⟨a, h1, by omega, h3, h4, fun j h6 h7 => ?_⟩
    by_cases e : j = q
    · rw [e]; exact h0
    · exact h5 j (by omega) h7
theorem SrchR.take {M : List (List Int)} {c m q : Nat} (hq : q < m) (h0 : gel M q c ≠ 0) : SrchR M c m ((q : Int) - 1) q := .inr ⟨q, rfl, by omega, hq, h0, fun j h1 h2 => by omega⟩
theorem SrchR.none {M : List (List Int)} {c m k : Nat} {z t : Int} (h : SrchR M c m z t) (hz : z < k) (hm : m = M.length) (hk : k ≤ m) (ht : t < 0) : fnd M c k = m := by
  rcases h with ⟨h1, h2⟩ | ⟨a, h1, _⟩
  · exact fnd_is hk (by omega) (fun j h3 h4 => h2 j (by omega) h4) (fun h => by omega)
  · omega
theorem SrchR.some {M : List (List Int)} {c m k : Nat} {z t : Int} (h : SrchR M c m z t) (hz : z < k) (hz2 : (k : Int) ≤ z + 1) (hm : m = M.length) (ht : ¬ t < 0) : ∃ a : Nat, t = a ∧ k ≤ a ∧ a < m ∧ gel M a c ≠ 0 ∧ fnd M c k = a := by
  rcases h with ⟨h1, _⟩ | ⟨a, h1, h2, h3, h4, h5⟩
  · omega
  · exact ⟨a, h1, by omega, h3, h4, fnd_is (by omega) (by omega) (fun j h6 h7 => h5 j (by omega) h7) (fun _ => h4)⟩
theorem SrchR.lt {M : List (List Int)} {c m : Nat} {z t : Int} (h : SrchR M c m z t) : -1 ≤ t ∧ t < m := by
  rcases h with ⟨h1, _⟩ | ⟨a, h1, h2, h3, _⟩ <;> omega
end Go.Proofs.YtldggeldabaodaaGreat

namespace Go.Proofs.YtldggeldabaodaaGreat
open Go.RowKit

set_option maxRecDepth 100000 in
theorem infoIntE : (Tryz.prog.info? 3).map (fun i => (i.zero, i.size, i.bytes)) = some (some (.int .i64 0), 1, 8) := by kernel_rfl
theorem nle_append {l : List Nat} {c : Nat} : ic ((l ++ [c]).map fun x : Nat => (x : Int)) = ic (l.map fun x : Nat => (x : Int)) ++ [.int .i64 (c : Int)] := by rw [List.map_append, ic_append]; rfl
/-- what the reduction owns -/
def ecL (pv : Value) (v : Value) (m : Nat) (vs : List Value) (S : List (List Int) × List Nat) (k : Nat) (L : List Res) : List Res :=
  Res.row v 22 1 m vs :: Res.rows vs S.1 :: Res.row pv 3 1 k (ic (S.2.map fun x : Nat => (x : Int))) :: L
def EcPost (p : Int) (n m g cap : Nat) (M : List (List Int)) (w0 : World) (L : List Res) : Ending → World → Prop := fun e w' => ∃ pv vs' k, e = .returned pv ∧ k = (gjTo p M n).2.length ∧ Sep w0 w' (ecL pv (.slice (some ⟨g, 0, none⟩) m cap) m vs' (gjTo p M n) k L)
theorem EcPost.mk {p : Int} {n m g cap k : Nat} {M : List (List Int)} {w0 w' : World} {L : List Res} {pv : Value} {vs : List Value} {S : List (List Int) × List Nat} (hS : gjTo p M n = S) (hk : k = S.2.length) (h : Sep w0 w' (ecL pv (.slice (some ⟨g, 0, none⟩) m cap) m vs S k L)) : EcPost p n m g cap M w0 L (.returned pv) w' :=
  ⟨pv, vs, k, rfl, by rw [hS]; exact hk, by rw [hS]; exact h⟩
set_option maxRecDepth 100000 in
set_option maxHeartbeats 6400000 in
theorem echelon_c {w0 w : World} {p : Int} {n m g cap : Nat} {vs : List Value} {M : List (List Int)} {L : List Res} (hp : p = 2 ∨ p = 3 ∨ p = 5) (hn : n ≤ 36) (hml : m ≤ 1000000) (hm : m = M.length) (hM : Mok p n M)
    (H : Sep w0 w (Res.row (.slice (some ⟨g, 0, none⟩) m cap) 22 1 m vs :: Res.rows vs M :: L)) :
    Calls Tryz.prog 72 #[.slice (some ⟨g, 0, none⟩) m cap, .int .i64 n, .int .i64 p] w (EcPost p n m g cap M w0 L) := by
  obtain ⟨j0, hj, hz0, hz1, hz2⟩ := info_parts infoIntE
  have hp0 : 0 < p := by omega
  have hp5 : p ≤ 5 := by omega
  have HP := Lib.hid hp
  have HM := Lib.hid hm
  have HK := Lib.hid (fun c => gjTo_ok (n := n) hp0 hM c)
  have H0 : Sep w0 w (ecL (.slice none 0 0) (.slice (some ⟨g, 0, none⟩) m cap) m vs (M, []) 0 L) := (H.nil 3 1).g2.g2
  clear hp hm hM H
  go_enter Tryz.func72, Tryz.ntmps72
  go_wp2
  go_loopw [7, 8] (fun pv cv wx => ∃ (c k : Nat) (S : List (List Int) × List Nat) (vs : List Value) (pw : Value), c ≤ n ∧ pv = pw ∧ cv = .int .i64 c ∧ Hid (S = gjTo p M c) ∧ k ≤ m ∧ k ≤ 36 ∧ Hid (k = S.2.length) ∧ Sep w0 wx (ecL pw (.slice (some ⟨g, 0, none⟩) m cap) m vs S k L)) (fun _ cv _ => n - (intOf cv).toNat)
  case atStart => exact ⟨0, 0, (M, []), vs, _, Nat.zero_le _, rfl, rfl, Lib.hid rfl, Nat.zero_le _, by omega, Lib.hid rfl, H0⟩
  case round =>
    clear H0
    obtain ⟨c, k, S, vs, pw, hcn, rfl, rfl, HS, hkm, hk36, HKL, H⟩ := hrel
    obtain ⟨Ap, cp, rfl, _, _, _⟩ := Res.row_at H.h2
    by_cases hc : c < n
    · have hci : (c : Int) < (n : Int) := by omega
      by_cases hkl : k < m
      · have hkli : (k : Int) < (m : Int) := by omega
        have HML : Hid (m = S.1.length) := Lib.hid (by rw [HS.out, (HK.out c).2.1]; exact HM.out)
        have HMK : Hid (Mok p n S.1) := Lib.hid (by rw [HS.out]; exact (HK.out c).1)
        obtain ⟨wo, hwo⟩ : ∃ wo, wo = wr := ⟨_, rfl⟩
        subst hwo
        go_wp2
        go_loopw [10] (fun qv wx => ∃ q : Nat, k ≤ q ∧ q ≤ m ∧ qv = .int .i64 q ∧ Hid (∀ j, k ≤ j → j < q → gel S.1 j c = 0) ∧ wo = wx) (fun qv _ => m - (intOf qv).toNat)
        case atStart => exact ⟨k, Nat.le_refl _, hkm, rfl, Lib.hid (fun j h1 h2 => by omega), rfl⟩
        case round =>
          obtain ⟨q, hkq, hqm, rfl, HQ, rfl⟩ := hrel
          by_cases hq : q < m
          · have hqi : (q : Int) < (m : Int) := by omega
            obtain ⟨b, cb, hvq, hb, x0, x1, _⟩ := rows_at H HMK.out.len HML.out hq hc
            by_cases hz : gel S.1 q c = 0
            · have HQ2 : Hid (∀ j, k ≤ j → j < q + 1 → gel S.1 j c = 0) := Lib.hid fun j h1 h2 => by
                by_cases e : j = q
                · rw [e]; exact hz
                · exact HQ.out j h1 (by omega)
              rw [hz] at x1
              clear hz hvq
              go_wp2
              go_roundw
              case rel => exact ⟨q + 1, by omega, by omega, by go_num, HQ2, trivial⟩
              case measure => simp [intOf]; omega
            · have hzb : (gel S.1 q c == 0) = false := by simpa using hz
              have HF : Hid (fnd S.1 c k = q) := Lib.hid (fnd_is hkq (by rw [← HML.out]; omega) HQ.out (fun _ => hz))
              have HNZ := Lib.hid hz
              have hqm2 : ((q : Int) == (m : Int)) = false := by simp; omega
              obtain ⟨bk, ck, hvk, hbk, x2, _, _⟩ := rows_at H HMK.out.len HML.out hkl hc
              have HVQ := Lib.hid hvq
              have HVK := Lib.hid hvk
              have hgl : g < wo.heap.size := own_lt H.h0 g rfl
              clear hz hvq hvk
              go_upto_region 10 with fail
              clear x1
              have f2 : wo.frozen? ⟨g, k, none⟩ = false := by have := own_free H.h0 k; rwa [Nat.zero_add] at this
              have f0 : wo.frozen? ⟨g, q, none⟩ = false := by have := own_free H.h0 q; rwa [Nat.zero_add] at this
              have HS1 := H.setRow (j := k) (by have := RowsAt.len H.h1; have := HML.out; omega) (.slice (some ⟨b, 0, none⟩) n cb)
              rw [Nat.zero_add] at HS1
              obtain ⟨y, hy⟩ : ∃ y, (vs.set k (.slice (some ⟨b, 0, none⟩) n cb))[q]? = some y := ⟨_, List.getElem?_eq_getElem (by rw [List.length_set]; have := RowsAt.len H.h1; have := HML.out; omega)⟩
              have z3 : (wo.setCell ⟨g, k, none⟩ (.slice (some ⟨b, 0, none⟩) n cb)).cell? ⟨g, q, none⟩ = some y := by have := own_cell HS1.h0 hy; rwa [Nat.zero_add] at this
              have H3 := (H.rowsSwap HML.out hkl hq HVK.out HVQ.out).drew
              have HH := Lib.hid H3
              clear H HS1 hy H3
              go_region
              obtain ⟨M1, hM1⟩ : ∃ M1, M1 = swp S.1 k q := ⟨_, rfl⟩
              have H4 := HH.out
              rw [← hM1] at H4
              have HM1 := Lib.hid hM1
              have HML1 : Hid (m = M1.length) := Lib.hid (by rw [hM1, swp_len]; exact HML.out)
              have HMK1 : Hid (Mok p n M1) := Lib.hid (by rw [hM1]; exact HMK.out.swp (by rw [← HML.out]; exact hkl) (by rw [← HML.out]; exact hq))
              obtain ⟨x, hx⟩ : ∃ x, x = gel M1 k c := ⟨_, rfl⟩
              have hxq : x = gel S.1 q c := by rw [hx, hM1]; exact gel_swp (by rw [← HML.out]; exact hkl) (by rw [← HML.out]; exact hq)
              have hxr := HMK1.out.el (i := k) (c := c) (by rw [← HML1.out]; exact hkl) hc
              rw [← hx] at hxr
              have hx1 : 1 ≤ x := by have := HNZ.out; rw [← hxq] at this; omega
              have hxp := hxr.2
              have hinv := invP_is HP.out hx1 hxp
              obtain ⟨I, hI⟩ : ∃ I, I = invP p x := ⟨_, rfl⟩
              rw [← hI] at hinv
              have HINV := Lib.hid hinv
              have HI := Lib.hid hI
              have HX := Lib.hid hx
              have hI1 := hinv.1.1
              have hI5 := hinv.1.2
              obtain ⟨vs1, hvs1⟩ : ∃ v, v = ((vs.set k (.slice (some ⟨b, 0, none⟩) n cb)).set q (.slice (some ⟨bk, 0, none⟩) n ck)) := ⟨_, rfl⟩
              rw [← hvs1] at H4
              clear hM1 hx hxq hxr hinv hI hvs1 HH z3 f0 f2 x0 x2
              generalize (World.setCell (World.setCell _ _ _) _ _).drew = w4 at *
              obtain ⟨wo2, hwo2⟩ : ∃ wo, wo = w4 := ⟨_, rfl⟩
              subst hwo2
              go_wp2
              go_loopw [11] (fun yv wx => ∃ y : Int, 1 ≤ y ∧ y ≤ I ∧ yv = .int .i64 y ∧ wo2 = wx) (fun yv _ => (I - intOf yv).toNat)
              case atStart => exact ⟨1, by omega, by omega, rfl, rfl⟩
              case round =>
                obtain ⟨y, hy1, hyI, rfl, rfl⟩ := hrel
                obtain ⟨b1, d1, hv1, hb1, r0, r1, _⟩ := rows_at H4 HMK1.out.len HML1.out hkl hc
                rw [← HX.out] at r1
                have HV1 := Lib.hid hv1
                have hyx : 1 ≤ y * x ∧ y * x ≤ 16 := by
                  have hy : y = 1 ∨ y = 2 ∨ y = 3 ∨ y = 4 := by omega
                  have hx : x = 1 ∨ x = 2 ∨ x = 3 ∨ x = 4 := by omega
                  rcases hy with rfl | rfl | rfl | rfl <;> rcases hx with rfl | rfl | rfl | rfl <;> decide
                obtain ⟨z, hz⟩ : ∃ z, z = y * x := ⟨_, rfl⟩
                rw [← hz] at hyx
                obtain ⟨z1, z2⟩ := hyx
                have e0 : y * x = z := hz.symm
                have e1 : IntKind.i64.wrap (y * x) = z := by rw [e0]; exact IntWalk.i64_in _ (by omega)
                have hp2 : (p == 0) = false := by simp; omega
                obtain ⟨r, hr⟩ : ∃ r, r = z % p := ⟨_, rfl⟩
                have e2 : Int.tmod z p = r := by rw [hr]; exact Int.tmod_eq_emod_of_nonneg (by omega)
                have e3 : z % p = r := hr.symm
                by_cases hyI2 : y = I
                · have hrr : r = 1 := by rw [hr, hz, hyI2]; exact HINV.out.2.1
                  have hr1 : (r == 1) = true := by simpa using hrr
                  have hr2 : (r != 1) = false := by simpa using hrr
                  have HYI := Lib.hid hyI2
                  clear hv1 hz hr hrr hyI2
                  obtain ⟨r1', hr1'⟩ : ∃ r, r = M1.getD k [] := ⟨_, rfl⟩
                  have HR1 := Lib.hid hr1'
                  have HRN : Hid (r1'.length = n) := Lib.hid (by rw [hr1']; exact HMK1.out.len _ (getD_mem (by rw [← HML1.out]; exact hkl)))
                  have H5 : Sep w0 wo2 (ecL (.slice Ap k cp) (.slice (some ⟨g, 0, none⟩) m cap) m vs1 (M1.set k (sclTo p y r1' 0), S.2) k L) := by
                    have e : M1.set k (sclTo p y r1' 0) = M1 := by
                      rw [sclTo, hr1']
                      have := getD_get (M := M1) (t := k) (by rw [← HML1.out]; exact hkl)
                      obtain ⟨h1, h2⟩ := List.getElem?_eq_some_iff.1 this
                      rw [← h2]
                      exact List.set_getElem_self h1
                    rw [e]
                    exact H4
                  clear hr1' H4
                  go_wp2
                  clear r0 r1 e0 e1 e2 e3 hr1 hr2
                  go_loopw [84] (fun iv wx => ∃ j : Nat, j ≤ n ∧ iv = .int .i64 j ∧ Sep w0 wx (ecL (.slice Ap k cp) (.slice (some ⟨g, 0, none⟩) m cap) m vs1 (M1.set k (sclTo p y r1' j), S.2) k L)) (fun iv _ => n - (intOf iv).toNat)
                  case atStart => exact ⟨0, Nat.zero_le _, rfl, H5⟩
                  case round =>
                    clear H5
                    obtain ⟨j, hjn, rfl, H⟩ := hrel
                    by_cases hjl : j < n
                    · have hji : (j : Int) < (n : Int) := by omega
                      have HMS : Hid (∀ r ∈ M1.set k (sclTo p y r1' j), r.length = n) := Lib.hid fun r hr => (set_mem2 hr).elim (fun e => by rw [e, sclTo_len]; exact HRN.out) (HMK1.out.len r)
                      have hmls : m = (M1.set k (sclTo p y r1' j)).length := by rw [List.length_set]; exact HML1.out
                      obtain ⟨b2, d2, hv2, hb2, r0, r1, _⟩ := rows_at H HMS.out hmls hkl hjl
                      have hel : gel (M1.set k (sclTo p y r1' j)) k j = r1'.getD j 0 := by rw [gel_set (by rw [← HML1.out]; exact hkl), if_pos rfl, sclTo_next]
                      rw [hel] at r1
                      obtain ⟨a, ha⟩ : ∃ a, a = r1'.getD j 0 := ⟨_, rfl⟩
                      have har : 0 ≤ a ∧ a < p := by
                        have := HMK1.out.el (i := k) (c := j) (by rw [← HML1.out]; exact hkl) hjl
                        rw [ha, HR1.out]
                        exact this
                      rw [← ha] at r1
                      have hy5 : y < p := by have := HINV.out.1.2; have := HYI.out; omega
                      have hyx : 0 ≤ a * y ∧ a * y ≤ 16 := by
                        have hy : y = 1 ∨ y = 2 ∨ y = 3 ∨ y = 4 := by omega
                        have hx : a = 0 ∨ a = 1 ∨ a = 2 ∨ a = 3 ∨ a = 4 := by omega
                        rcases hy with rfl | rfl | rfl | rfl <;> rcases hx with rfl | rfl | rfl | rfl | rfl <;> decide
                      obtain ⟨z, hz⟩ : ∃ z, z = a * y := ⟨_, rfl⟩
                      rw [← hz] at hyx
                      obtain ⟨z1, z2⟩ := hyx
                      have e1 : IntKind.i64.wrap (a * y) = z := by rw [← hz]; exact IntWalk.i64_in _ (by omega)
                      have hp2 : (p == 0) = false := by simp; omega
                      obtain ⟨r, hr⟩ : ∃ r, r = z % p := ⟨_, rfl⟩
                      have hr0 : 0 ≤ r := by rw [hr]; exact Int.emod_nonneg _ (by omega)
                      have hr5 : r < p := by rw [hr]; exact Int.emod_lt_of_pos _ hp0
                      have e2 : IntKind.i64.wrap (Int.tmod z p) = r := by rw [hr, Int.tmod_eq_emod_of_nonneg (by omega)]; rw [← hr]; exact IntWalk.i64_in _ (by omega)
                      have e3 : Int.tmod z p = r := by rw [hr]; exact Int.tmod_eq_emod_of_nonneg (by omega)
                      have HRR : Hid (r = r1'.getD j 0 * y % p) := Lib.hid (by rw [hr, hz, ha])
                      have HV2 := Lib.hid hv2
                      have l0 := Later.cell r0 (own_lt H.h0 g rfl)
                      have l1 := Later.cell r1 hb2
                      have HH := Lib.hid H
                      clear hv2 hel ha har hz hr H r0 r1 hmls hy5
                      go_wp2_with fail
                      refine wp_region_lqtail 17 (by kernel_rfl) (by kernel_rfl) ?_
                      simp only [List.take_succ_cons, List.take_zero, List.drop_succ_cons, List.drop_zero]
                      repeat (go_big_quiet_step ((fail)))
                      refine wpQuiet_nil ?_
                      intro w3 hw3
                      obtain ⟨u3, hu3⟩ := hw3
                      subst hu3
                      have H3 := Sep.later HH.out u3
                      have q1 := l1 u3
                      clear l0 l1 HH e1 e2 e3
                      generalize u3.w = w3 at *
                      have f1 : w3.frozen? ⟨b2, j, none⟩ = false := by
                        obtain ⟨b3, d3, hv3, _, _, _, f3⟩ := rows_at H3 HMS.out (by rw [List.length_set]; exact HML1.out) hkl hjl
                        rw [HV2.out] at hv3
                        injection hv3 with hv3
                        injection hv3 with e1
                        injection e1 with e1
                        injection e1 with e1
                        rw [e1]; exact f3
                      have hrow : (M1.set k (sclTo p y r1' j))[k]? = some (sclTo p y r1' j) := List.getElem?_set_self (by rw [← HML1.out]; exact hkl)
                      have H4 := (H3.g1.rowsSet (j := j) HV2.out hrow r).g1
                      have hst : (M1.set k (sclTo p y r1' j)).set k ((sclTo p y r1' j).set j r) = M1.set k (sclTo p y r1' (j + 1)) := by rw [List.set_set, sclTo, HRR.out]
                      rw [hst] at H4
                      clear H3 hrow hst
                      go_wp2
                      go_roundw
                      case rel => exact ⟨j + 1, by omega, by go_num, H4⟩
                      case measure => simp [intOf]; omega
                    · obtain rfl : j = n := by omega
                      obtain ⟨M2, hM2⟩ : ∃ M2, M2 = M1.set k (scl p y r1') := ⟨_, rfl⟩
                      have H4 : Sep w0 wr (ecL (.slice Ap k cp) (.slice (some ⟨g, 0, none⟩) m cap) m vs1 (clrM p c k M2 0, S.2) k L) := by
                        rw [clrM, hM2, ← sclTo_end, HRN.out]
                        exact H
                      have HML2 : Hid (m = M2.length) := Lib.hid (by rw [hM2, List.length_set]; exact HML1.out)
                      have HMK2 : Hid (Mok p j M2) := Lib.hid (by rw [hM2]; exact HMK1.out.set (by rw [(scl_ok (y := y) hp0).1]; exact HRN.out) (scl_ok (y := y) hp0).2)
                      have HSN : Hid (gjTo p M (c + 1) = (clrM p c k M2 m, S.2 ++ [c])) := Lib.hid (by
                        show gjS p c (gjTo p M c) = _
                        rw [← HS.out]
                        unfold gjS
                        rw [← HKL.out, HF.out, ← HML.out, if_pos hkl, if_pos hq, ← HM1.out, ← HX.out, ← HI.out, ← HYI.out, ← HR1.out, hM2])
                      clear hM2 H
                      obtain ⟨wo3, hwo3⟩ : ∃ wo, wo = wr := ⟨_, rfl⟩
                      subst hwo3
                      go_wp2
                      go_loopw [107] (fun iv wx => ∃ i : Nat, i ≤ m ∧ iv = .int .i64 i ∧ Sep w0 wx (ecL (.slice Ap k cp) (.slice (some ⟨g, 0, none⟩) m cap) m vs1 (clrM p c k M2 i, S.2) k L)) (fun iv _ => m - (intOf iv).toNat)
                      case atStart => exact ⟨0, Nat.zero_le _, rfl, H4⟩
                      case round =>
                        clear H4
                        obtain ⟨i, him, rfl, H⟩ := hrel
                        by_cases hil : i < m
                        · have hili : (i : Int) < (m : Int) := by omega
                          have HMI : Hid (Mok p j (clrM p c k M2 i)) := Lib.hid (clrM_ok hp0 HMK2.out (by rw [← HML2.out]; exact hkl) i (by rw [← HML2.out]; exact him))
                          obtain ⟨bi, di, hvi, hbi, r0, r1, _⟩ := rows_at H HMI.out.len (by rw [clrM_len]; exact HML2.out) hil hc
                          have hel : gel (clrM p c k M2 i) i c = gel M2 i c := clrM_gel (.inl (Nat.le_refl _))
                          rw [hel] at r1
                          obtain ⟨f, hf⟩ : ∃ f, f = gel M2 i c := ⟨_, rfl⟩
                          rw [← hf] at r1
                          have hfr := HMK2.out.el (i := i) (c := c) (by rw [← HML2.out]; exact hil) hc
                          rw [← hf] at hfr
                          have HFF := Lib.hid hf
                          have HVI := Lib.hid hvi
                          obtain ⟨hf0, hfp⟩ := hfr
                          clear hel hf hvi
                          by_cases hik : i = k
                          · have hik1 : ((i : Int) == (k : Int)) = true := by simp; omega
                            have HCI : Hid (clrM p c k M2 (i + 1) = clrM p c k M2 i) := Lib.hid (by rw [clrM, if_pos (.inl hik)])
                            have HIK := Lib.hid hik
                            clear hik
                            go_wp2
                            go_roundw
                            case rel => exact ⟨i + 1, by omega, by go_num, by rw [HCI.out]; exact H⟩
                            case measure => simp [intOf]; omega
                          have hik1 : ((i : Int) == (k : Int)) = false := by simp; omega
                          by_cases hfz : f = 0
                          · have hf1 : (f == 0) = true := by simpa using hfz
                            have HCI : Hid (clrM p c k M2 (i + 1) = clrM p c k M2 i) := Lib.hid (by rw [clrM, if_pos (.inr (by rw [← HFF.out]; exact hfz))])
                            have HFZ := Lib.hid hfz
                            clear hfz
                            go_wp2
                            go_roundw
                            case rel => exact ⟨i + 1, by omega, by go_num, by rw [HCI.out]; exact H⟩
                            case measure => simp [intOf]; omega
                          · have hf1 : (f == 0) = false := by simpa using hfz
                            have HFZ := Lib.hid hfz
                            have HIK := Lib.hid hik
                            have hil2 : i < M2.length := by rw [← HML2.out]; exact hil
                            have hkl2 : k < M2.length := by rw [← HML2.out]; exact hkl
                            obtain ⟨ri, hri⟩ : ∃ r, r = M2.getD i [] := ⟨_, rfl⟩
                            obtain ⟨rk, hrk⟩ : ∃ r, r = M2.getD k [] := ⟨_, rfl⟩
                            have HRI : Hid (ri = M2.getD i [] ∧ rk = M2.getD k [] ∧ ri.length = j ∧ rk.length = j) := Lib.hid ⟨hri, hrk, by rw [hri]; exact HMK2.out.len _ (getD_mem hil2), by rw [hrk]; exact HMK2.out.len _ (getD_mem hkl2)⟩
                            obtain ⟨M3, hM3⟩ : ∃ M3, M3 = clrM p c k M2 i := ⟨_, rfl⟩
                            have HML3 : Hid (m = M3.length) := Lib.hid (by rw [hM3, clrM_len]; exact HML2.out)
                            have HMK3 : Hid (Mok p j M3) := Lib.hid (by rw [hM3]; exact HMI.out)
                            have HG3 : Hid (M3.getD i [] = ri ∧ M3.getD k [] = rk) := Lib.hid ⟨by rw [hM3, clrM_row (.inl (Nat.le_refl _)), hri], by rw [hM3, clrM_row (.inr rfl), hrk]⟩
                            have HCI : Hid (M3.set i (clr p f ri rk) = clrM p c k M2 (i + 1)) := Lib.hid (by
                              rw [clrM, if_neg (by rw [not_or, ← HFF.out]; exact ⟨hik, hfz⟩), ← hM3, ← HFF.out, ← hri, ← hrk])
                            have he3 : clrM p c k M2 i = M3.set i (clrTo p f ri rk 0) := by
                              rw [clrTo, ← HG3.out.1, ← hM3]
                              obtain ⟨h1, h2⟩ := List.getElem?_eq_some_iff.1 (getD_get (M := M3) (t := i) (by rw [← HML3.out]; exact hil))
                              rw [← h2]; exact (List.set_getElem_self h1).symm
                            rw [he3] at H
                            clear he3 hM3 hri hrk hil2 hkl2 hfz hik HMI
                            go_wp2
                            clear r0 r1
                            go_loopw [129] (fun dv wx => ∃ d : Nat, d ≤ j ∧ dv = .int .i64 d ∧ Sep w0 wx (ecL (.slice Ap k cp) (.slice (some ⟨g, 0, none⟩) m cap) m vs1 (M3.set i (clrTo p f ri rk d), S.2) k L)) (fun dv _ => j - (intOf dv).toNat)
                            case atStart => exact ⟨0, Nat.zero_le _, rfl, H⟩
                            case round =>
                              clear H
                              obtain ⟨d, hdj, rfl, H⟩ := hrel
                              by_cases hdl : d < j
                              · have hdi : (d : Int) < (j : Int) := by omega
                                have HMS : Hid (∀ r ∈ M3.set i (clrTo p f ri rk d), r.length = j) := Lib.hid fun r hr => (set_mem2 hr).elim (fun e => by rw [e, clrTo_len]; exact HRI.out.2.2.1) (HMK3.out.len r)
                                have hmls : m = (M3.set i (clrTo p f ri rk d)).length := by rw [List.length_set]; exact HML3.out
                                obtain ⟨b2, d2, hv2, hb2, s0, s1, _⟩ := rows_at H HMS.out hmls hil hdl
                                obtain ⟨b3, d3, hv3, hb3, t0, t1, _⟩ := rows_at H HMS.out hmls hkl hdl
                                have hel : gel (M3.set i (clrTo p f ri rk d)) i d = ri.getD d 0 := by rw [gel_set (by rw [← HML3.out]; exact hil), if_pos rfl, clrTo_next]
                                have hek : gel (M3.set i (clrTo p f ri rk d)) k d = rk.getD d 0 := by
                                  rw [gel_set (by rw [← HML3.out]; exact hil), if_neg (fun e => HIK.out e.symm), gel, HG3.out.2]
                                rw [hel] at s1
                                rw [hek] at t1
                                obtain ⟨a, ha⟩ : ∃ a, a = ri.getD d 0 := ⟨_, rfl⟩
                                obtain ⟨e, he⟩ : ∃ e, e = rk.getD d 0 := ⟨_, rfl⟩
                                have har : 0 ≤ a ∧ a < p := by
                                  have := HMK2.out.el (i := i) (c := d) (by rw [← HML2.out]; exact hil) hdl
                                  rw [ha, HRI.out.1]
                                  exact this
                                have her : 0 ≤ e ∧ e < p := by
                                  have := HMK2.out.el (i := k) (c := d) (by rw [← HML2.out]; exact hkl) hdl
                                  rw [he, HRI.out.2.1]
                                  exact this
                                rw [← ha] at s1
                                rw [← he] at t1
                                have hp5 : p ≤ 5 := by have := HP.out; omega
                                obtain ⟨v, hv⟩ : ∃ v, v = p - f := ⟨_, rfl⟩
                                have hv0 : 0 ≤ v ∧ v ≤ 5 := by omega
                                have hyx : 0 ≤ v * e ∧ v * e ≤ 20 := by
                                  have hy : v = 0 ∨ v = 1 ∨ v = 2 ∨ v = 3 ∨ v = 4 ∨ v = 5 := by omega
                                  have hx : e = 0 ∨ e = 1 ∨ e = 2 ∨ e = 3 ∨ e = 4 := by omega
                                  rcases hy with rfl | rfl | rfl | rfl | rfl | rfl <;> rcases hx with rfl | rfl | rfl | rfl | rfl <;> first | decide | omega
                                obtain ⟨z, hz⟩ : ∃ z, z = v * e := ⟨_, rfl⟩
                                rw [← hz] at hyx
                                obtain ⟨s, hs⟩ : ∃ s, s = a + z := ⟨_, rfl⟩
                                have hs0 : 0 ≤ s ∧ s ≤ 25 := by omega
                                have e0 : IntKind.i64.wrap (p - f) = v := by rw [← hv]; exact IntWalk.i64_in _ (by omega)
                                have e1 : IntKind.i64.wrap (v * e) = z := by rw [← hz]; exact IntWalk.i64_in _ (by omega)
                                have e2 : IntKind.i64.wrap (a + z) = s := by rw [← hs]; exact IntWalk.i64_in _ (by omega)
                                have hp2 : (p == 0) = false := by simp; omega
                                obtain ⟨r, hr⟩ : ∃ r, r = s % p := ⟨_, rfl⟩
                                have hr0 : 0 ≤ r := by rw [hr]; exact Int.emod_nonneg _ (by omega)
                                have hr5 : r < p := by rw [hr]; exact Int.emod_lt_of_pos _ hp0
                                have e3 : Int.tmod s p = r := by rw [hr]; exact Int.tmod_eq_emod_of_nonneg (by omega)
                                have e4 : IntKind.i64.wrap (Int.tmod s p) = r := by rw [e3]; exact IntWalk.i64_in _ (by omega)
                                have HRR : Hid (r = (ri.getD d 0 + (p - f) * rk.getD d 0) % p) := Lib.hid (by rw [hr, hs, hz, hv, ha, he])
                                have HV2 := Lib.hid hv2
                                have l0 := Later.cell s0 (own_lt H.h0 g rfl)
                                have l1 := Later.cell s1 hb2
                                have l2 := Later.cell t0 (own_lt H.h0 g rfl)
                                have l3 := Later.cell t1 hb3
                                have HH := Lib.hid H
                                clear hv2 hv3 hel hek ha he har her hyx hz hs hv hr H s0 s1 t0 t1 hmls
                                go_wp2_with fail
                                refine wp_region_lqtail 27 (by kernel_rfl) (by kernel_rfl) ?_
                                simp only [List.take_succ_cons, List.take_zero, List.drop_succ_cons, List.drop_zero]
                                repeat (go_big_quiet_step ((fail)))
                                refine wpQuiet_nil ?_
                                intro w3 hw3
                                obtain ⟨u3, hu3⟩ := hw3
                                subst hu3
                                have H3 := Sep.later HH.out u3
                                have qq := l1 u3
                                clear l0 l1 l2 l3 HH e0 e1 e2 e3 e4
                                generalize u3.w = w3 at *
                                have f1 : w3.frozen? ⟨b2, d, none⟩ = false := by
                                  obtain ⟨b4, d4, hv4, _, _, _, f3⟩ := rows_at H3 HMS.out (by rw [List.length_set]; exact HML3.out) hil hdl
                                  rw [HV2.out] at hv4
                                  injection hv4 with hv4
                                  injection hv4 with e1
                                  injection e1 with e1
                                  injection e1 with e1
                                  rw [e1]; exact f3
                                have hrow : (M3.set i (clrTo p f ri rk d))[i]? = some (clrTo p f ri rk d) := List.getElem?_set_self (by rw [← HML3.out]; exact hil)
                                have H4 := (H3.g1.rowsSet (j := d) HV2.out hrow r).g1
                                have hst : (M3.set i (clrTo p f ri rk d)).set i ((clrTo p f ri rk d).set d r) = M3.set i (clrTo p f ri rk (d + 1)) := by rw [List.set_set, clrTo, HRR.out]
                                rw [hst] at H4
                                clear H3 hrow hst
                                go_wp2
                                go_roundw
                                case rel => exact ⟨d + 1, by omega, by go_num, H4⟩
                                case measure => simp [intOf]; omega
                              · have hdd : d = j := by omega
                                have hnd : ¬ (d : Int) < (j : Int) := by omega
                                have HCE : Hid (clrTo p f ri rk d = clr p f ri rk) := Lib.hid (by
                                  have := clrTo_end (p := p) (f := f) (a := ri) (b := rk) (by rw [HRI.out.2.2.1, HRI.out.2.2.2])
                                  rw [HRI.out.2.2.1] at this
                                  rw [hdd]; exact this)
                                clear hdd
                                go_wp2
                                go_roundw
                                case rel => exact ⟨i + 1, by omega, by go_num, by rw [← HCI.out, ← HCE.out]; exact H⟩
                                case measure => simp [intOf]; omega
                        · obtain rfl : i = m := by omega
                          have HPV : Hid (ic ((S.2 ++ [c]).map fun x : Nat => (x : Int)) = ic (S.2.map fun x : Nat => (x : Int)) ++ [.int .i64 (c : Int)]) := Lib.hid nle_append
                          have HKK : Hid (k + 1 = (clrM p c k M2 i, S.2 ++ [c]).2.length) := Lib.hid (by rw [List.length_append, ← HKL.out]; rfl)
                          have HKB : Hid (k + 1 ≤ 36) := Lib.hid (by
                            have h1 := (HK.out (c + 1)).2.2.2.1
                            rw [HSN.out, ← HKK.out] at h1
                            omega)
                          have hkb := HKB.out
                          go_wp2_with (at_builtin; refine wpList_app rfl _ _ 22 rfl 3 j0 _ 1 8 Tryz.underlying22 hj hz0 hz1 hz2 rfl (by decide) _ _ _ rfl ((Sep.g2 H).alloc _) _ _ _ [.int .i64 (c : Int)] rfl (Rd.fresh _ _ #[.int .i64 (c : Int)] 1 1 rfl) oc1 (by unfold maxLen; omega) (by omega) ?_; intro v9 w9 H9; clear H)
                          rw [← HPV.out] at H9
                          go_roundw
                          case rel => exact ⟨c + 1, k + 1, _, vs1, _, by omega, rfl, by go_num, Lib.hid HSN.out.symm, by omega, by omega, HKK, H9.p2⟩
                          case measure => simp [intOf]; omega
                · have hr1 : (r == 1) = false := by
                    have := HINV.out.2.2 y hy1 (by omega)
                    rw [← hz, ← hr] at this
                    simpa using this
                  have hr2 : (r != 1) = true := by simpa using hr1
                  clear hv1 hz hr
                  go_wp2
                  go_roundw
                  case rel => exact ⟨y + 1, by omega, by omega, by go_num, trivial⟩
                  case measure => simp [intOf]; omega
          · obtain rfl : q = m := by omega
            have HSN : Hid (S = gjTo p M (c + 1)) := Lib.hid (by
              have hf : fnd S.1 c k = q := fnd_is hkq (by rw [← HML.out]; exact Nat.le_refl _) HQ.out (fun h => by rw [← HML.out] at h; omega)
              show S = gjS p c (gjTo p M c)
              rw [← HS.out]
              unfold gjS
              rw [← HKL.out, hf, ← HML.out, if_pos hkl, if_neg (Nat.lt_irrefl _)])
            go_wp2
            go_roundw
            case rel => exact ⟨c + 1, k, S, vs, _, by omega, rfl, by go_num, HSN, hkm, hk36, HKL, H⟩
            case measure => simp [intOf]; omega
      · have hkli : ¬ (k : Int) < (m : Int) := by omega
        have HE : Hid (gjTo p M n = S) := Lib.hid (by
          have := gjTo_full (p := p) (M := M) (c := c) (by rw [← HS.out, ← HKL.out]; have := (HK.out c).2.1; rw [← HS.out] at this; rw [this, ← HM.out]; omega) (n - c)
          rw [show c + (n - c) = n by omega] at this
          rw [this, HS.out])
        go_wp2
        go_ret
        exact EcPost.mk HE.out HKL.out H
    · obtain rfl : c = n := by omega
      go_wp2
      go_ret
      exact EcPost.mk HS.out.symm HKL.out H
end Go.Proofs.YtldggeldabaodaaGreat

namespace Go.Proofs.YtldggeldabaodaaGreat
open Go.RowKit

set_option maxRecDepth 100000 in
theorem inverse_c {w : World} {p x : Int} (hp : p = 2 ∨ p = 3 ∨ p = 5) (h0 : 1 ≤ x) (h1 : x < p) :
    Calls Tryz.prog 102 #[.int .i64 x, .int .i64 p] w (fun e w' => w' = w ∧ e = .returned (.int .i64 (invP p x))) := by
  have hinv := invP_is hp h0 h1
  have hp0 : 0 < p := by omega
  have hp5 : p ≤ 5 := by omega
  have hpp : p = 2 ∨ p = 3 ∨ p = 5 := hp
  obtain ⟨I, hI⟩ : ∃ I, I = invP p x := ⟨_, rfl⟩
  rw [← hI] at hinv ⊢
  have HINV := Lib.hid hinv
  have hI1 := hinv.1.1
  have hI5 := hinv.1.2
  clear hI hinv hp hpp
  go_enter Tryz.func102, Tryz.ntmps102
  go_wp2
  obtain ⟨wo2, hwo2⟩ : ∃ wo, wo = w := ⟨_, rfl⟩
  go_loopw [5] (fun yv wx => ∃ y : Int, 1 ≤ y ∧ y ≤ I ∧ yv = .int .i64 y ∧ wo2 = wx) (fun yv _ => (I - intOf yv).toNat)
  case atStart => exact ⟨1, by omega, by omega, rfl, hwo2⟩
  case round =>
    obtain ⟨y, hy1, hyI, rfl, rfl⟩ := hrel
    have hyx : 1 ≤ x * y ∧ x * y ≤ 16 := by
      have hy : y = 1 ∨ y = 2 ∨ y = 3 ∨ y = 4 := by omega
      have hx : x = 1 ∨ x = 2 ∨ x = 3 ∨ x = 4 := by omega
      rcases hy with rfl | rfl | rfl | rfl <;> rcases hx with rfl | rfl | rfl | rfl <;> decide
    obtain ⟨z, hz⟩ : ∃ z, z = x * y := ⟨_, rfl⟩
    rw [← hz] at hyx
    obtain ⟨z1, z2⟩ := hyx
    have e1 : IntKind.i64.wrap (x * y) = z := by rw [← hz]; exact IntWalk.i64_in _ (by omega)
    have hp2 : (p == 0) = false := by simp; omega
    obtain ⟨r, hr⟩ : ∃ r, r = z % p := ⟨_, rfl⟩
    have e3 : Int.tmod z p = r := by rw [hr]; exact Int.tmod_eq_emod_of_nonneg (by omega)
    have hr0 : 0 ≤ r := by rw [hr]; exact Int.emod_nonneg _ (by omega)
    have hr5 : r < p := by rw [hr]; exact Int.emod_lt_of_pos _ hp0
    have e2 : IntKind.i64.wrap (Int.tmod z p) = r := by rw [e3]; exact IntWalk.i64_in _ (by omega)
    by_cases hyI2 : y = I
    · have hrr : r = 1 := by rw [hr, hz, hyI2, Int.mul_comm]; exact HINV.out.2.1
      have hr1 : (r == 1) = true := by simpa using hrr
      have hr2 : (r != 1) = false := by simpa using hrr
      have HYI := Lib.hid hyI2
      have HWO := Lib.hid hwo2
      clear hz hr hrr hyI2 hwo2
      go_wp2
      go_ret
      exact ⟨HWO.out, by rw [HYI.out]; rfl⟩
    · have hrn : r ≠ 1 := by
        have := HINV.out.2.2 y hy1 (by omega)
        rw [Int.mul_comm, ← hz, ← hr] at this
        exact this
      have hr1 : (r == 1) = false := by simpa using hrn
      have hr2 : (r != 1) = true := by simpa using hrn
      have HWO := Lib.hid hwo2
      clear hz hr hwo2
      go_wp2
      go_roundw
      case rel => exact ⟨y + 1, by omega, by omega, by go_num, trivial⟩
      case measure => simp [intOf]; omega
set_option maxRecDepth 100000 in
theorem infoIntS : (Tryz.prog.info? 3).map (fun i => (i.zero, i.size, i.bytes)) = some (some (.int .i64 0), 1, 8) := by kernel_rfl
def bitI (m k : Nat) : Int := if m.testBit k = true then 1 else 0
theorem bitI_is {m k : Nat} (hm : m < 9223372036854775808) : bits .and .i64 ((m : Int) / 2 ^ k) 1 = bitI m k := by
  have h0 := bit_test (x := k) hm
  have hd : m / 2 ^ k < 9223372036854775808 := Nat.lt_of_le_of_lt (Nat.div_le_self _ _) hm
  have e1 : ((m : Int) / 2 ^ k) = ((m / 2 ^ k : Nat) : Int) := by simp
  rw [e1, show (1 : Int) = ((1 : Nat) : Int) from rfl, i64_and_nat _ 1 hd (by decide), nat_mask1] at h0 ⊢
  have := Nat.mod_lt (m / 2 ^ k) (show 0 < 2 by decide)
  unfold bitI
  rw [← h0]
  generalize (m / 2 ^ k) % 2 = t at *
  have h2 : t = 0 ∨ t = 1 := by omega
  rcases h2 with rfl | rfl <;> rfl
theorem bitR_len {n m : Nat} : (bitR n m).length = n := by simp [bitR]
theorem bitR_succ {n m : Nat} : bitR (n + 1) m = bitR n m ++ [bitI m n] := by simp [bitR, bitI, List.range_succ]
set_option maxRecDepth 100000 in
set_option maxHeartbeats 1600000 in
theorem bits_c {w0 w : World} {m n : Nat} {L : List Res} (hm : m < 2 ^ 36) (hn : n ≤ 36) (H : Sep w0 w L) :
    Calls Tryz.prog 64 #[.int .i64 m, .int .i64 n] w (fun e w' => ∃ v, e = .returned v ∧ Sep w0 w' (Res.row v 3 1 n (ic (bitR n m)) :: L)) := by
  obtain ⟨i0, hi, hz0, hz1, hz2⟩ := info_parts infoIntS
  have hm2 : m < 9223372036854775808 := by omega
  have H0 := H.rowBox 3 #[] 1 0 rfl (by decide)
  clear H
  go_enter Tryz.func64, Tryz.ntmps64
  go_wp2
  go_loopw [5, 6] (fun ov kv wx => ∃ k : Nat, k ≤ n ∧ kv = .int .i64 k ∧ Sep w0 wx (Res.row ov 3 1 k (ic (bitR k m)) :: L)) (fun _ kv _ => n - (intOf kv).toNat)
  case atStart => exact ⟨0, Nat.zero_le _, rfl, H0⟩
  case round =>
    clear H0
    obtain ⟨k, hk, rfl, H⟩ := hrel
    by_cases hlt : k < n
    · have hlti : (k : Int) < (n : Int) := by omega
      have hbi := bitI_is (k := k) hm2
      obtain ⟨x, hx⟩ : ∃ x, x = bitI m k := ⟨_, rfl⟩
      rw [← hx] at hbi
      have HST : Hid (ic (bitR (k + 1) m) = ic (bitR k m) ++ [.int .i64 x]) := Lib.hid (by rw [bitR_succ, ic_append, hx]; rfl)
      clear hx
      go_wp2_with (at_builtin; refine wpList_app rfl _ _ 22 rfl 3 i0 _ 1 8 Tryz.underlying22 hi hz0 hz1 hz2 rfl (by decide) _ _ _ rfl (H.alloc _) _ _ _ [.int .i64 x] rfl (Rd.fresh _ 3 #[.int .i64 x] 1 1 rfl) oc1 (by unfold maxLen; omega) (by omega) ?_; intro v4 w4 H4)
      rw [← HST.out] at H4
      clear H
      go_wp2
      go_roundw
      case rel => exact ⟨k + 1, by omega, by go_num, H4⟩
      case measure => simp [intOf]; omega
    · obtain rfl : k = n := by omega
      go_wp2
      go_ret
      exact ⟨_, rfl, H⟩
end Go.Proofs.YtldggeldabaodaaGreat
