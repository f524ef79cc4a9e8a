
/-
  Motions of a grid: a mask carried by a motion (plain).
-/
import Derived.Test.YtoccedebiacbiaaDoorRmoC
namespace Go.Proofs.YtoccedebiacbiaaDoor

/-- the number of the carried cell -/
def mvI (W h m : Nat) (c : Cell) : Nat := ((mvC W h m c.x c.y).y * W + (mvC W h m c.x c.y).x).toNat
/-- the carried cells as a mask -/
def carN (W h m : Nat) (C : List Cell) : Nat := C.foldl (fun a c => a ||| 2 ^ mvI W h m c) 0

theorem carN_snoc {W h m : Nat} {C : List Cell} {c : Cell} : carN W h m (C ++ [c]) = carN W h m C ||| 2 ^ mvI W h m c := by
  simp [carN]
theorem carN_take {W h m : Nat} {C : List Cell} {i : Nat} {c : Cell} (e : C[i]? = some c) : carN W h m (C.take (i + 1)) = carN W h m (C.take i) ||| 2 ^ mvI W h m c := by
  rw [List.take_add_one, e]
  exact carN_snoc
theorem carF_bit {W h m : Nat} {j : Nat} : ∀ (C : List Cell) (a : Nat), (C.foldl (fun a c => a ||| 2 ^ mvI W h m c) a).testBit j = true → a.testBit j = true ∨ ∃ c ∈ C, mvI W h m c = j
  | [], a, e => .inl e
  | c :: C, a, e => by
    rcases carF_bit C _ e with e1 | ⟨d, hd, e1⟩
    · rw [Nat.testBit_or, Bool.or_eq_true] at e1
      rcases e1 with e1 | e1
      · exact .inl e1
      · rw [Nat.testBit_two_pow] at e1
        exact .inr ⟨c, List.mem_cons_self .., by simpa using e1⟩
    · exact .inr ⟨d, List.mem_cons_of_mem _ hd, e1⟩
theorem carN_bit {W h m j : Nat} {C : List Cell} (e : (carN W h m C).testBit j = true) : ∃ c ∈ C, mvI W h m c = j := by
  rcases carF_bit C 0 e with e1 | e1
  · simp at e1
  · exact e1

/-- the cell lies in the grid -/
def inG (W h : Nat) (c : Cell) : Prop := 0 ≤ c.x ∧ c.x < W ∧ 0 ≤ c.y ∧ c.y < h
theorem mvI_inj {W h m : Nat} {c d : Cell} (hW : W ≤ 6) (hh : h ≤ 6) (hok : m % 2 = 0 ∨ W = h) (hc : inG W h c) (hd : inG W h d) (e : mvI W h m c = mvI W h m d) : c.x = d.x ∧ c.y = d.y := by
  have hok' : m % 2 = 0 ∨ (W : Int) = (h : Int) := hok.imp id (fun e => by omega)
  obtain ⟨c1, c2, c3, c4⟩ := hc
  obtain ⟨d1, d2, d3, d4⟩ := hd
  obtain ⟨p1, p2, p3, p4⟩ := mvC_place (m := m) (show GPl.ok ⟨W, h, c.x, c.y⟩ from ⟨c1, c2, c3, c4, by simp only; omega, by simp only; omega⟩) hok'
  obtain ⟨q1, q2, q3, q4⟩ := mvC_place (m := m) (show GPl.ok ⟨W, h, d.x, d.y⟩ from ⟨d1, d2, d3, d4, by simp only; omega, by simp only; omega⟩) hok'
  unfold mvI at e
  have n1 := Int.mul_nonneg p3 (Int.natCast_nonneg W)
  have n2 := Int.mul_nonneg q3 (Int.natCast_nonneg W)
  have e2 : (mvC W h m c.x c.y).y * W + (mvC W h m c.x c.y).x = (mvC W h m d.x d.y).y * W + (mvC W h m d.x d.y).x := by omega
  obtain ⟨e3, e4⟩ := rowNo_inj p1 p2 q1 q2 e2
  obtain ⟨s1, s2⟩ := mvC_sides W h c.x c.y m
  obtain ⟨t1, t2⟩ := mvC_sides W h d.x d.y m
  refine mvC_inj (m := m) (w := W) (h := h) ?_
  generalize mvC W h m c.x c.y = p at e3 e4 s1 s2 ⊢
  generalize mvC W h m d.x d.y = q at e3 e4 t1 t2 ⊢
  obtain ⟨a1, a2, a3, a4⟩ := p
  obtain ⟨b1, b2, b3, b4⟩ := q
  simp only at e3 e4 s1 s2 t1 t2
  rw [e3, e4, s1, s2, t1, t2]
theorem carN_free {W h m : Nat} {C : List Cell} {c : Cell} (hW : W ≤ 6) (hh : h ≤ 6) (hok : m % 2 = 0 ∨ W = h) (hC : ∀ d ∈ C, inG W h d) (hc : inG W h c) (hn : c ∉ C) : (carN W h m C).testBit (mvI W h m c) = false := by
  cases e : (carN W h m C).testBit (mvI W h m c) with
  | false => rfl
  | true =>
    obtain ⟨d, hd, e1⟩ := carN_bit e
    obtain ⟨e2, e3⟩ := mvI_inj hW hh hok (hC d hd) hc e1
    have e4 : d = c := by
      obtain ⟨dx, dy⟩ := d
      obtain ⟨cx, cy⟩ := c
      simp only at e2 e3
      rw [e2, e3]
    exact absurd (e4 ▸ hd) hn
theorem or_free {a k : Nat} (h : a.testBit k = false) : a ||| 2 ^ k = a + 2 ^ k := by
  have e : a &&& 2 ^ k = 0 := by
    apply Nat.eq_of_testBit_eq
    intro j
    rw [Nat.testBit_and, Nat.testBit_two_pow, Nat.zero_testBit]
    by_cases ej : k = j
    · subst ej; rw [h]; rfl
    · simp [ej]
  have e2 := Nat.two_pow_add_eq_or_of_lt (i := k) (b := a % 2 ^ k) (Nat.mod_lt _ (Nat.two_pow_pos k)) (a / 2 ^ k + 1)
  have hd : (a / 2 ^ k) % 2 = 0 := by
    have := h
    rw [Nat.testBit_eq_decide_div_mod_eq] at this
    have := of_decide_eq_false this
    omega
  have e3 := Nat.two_pow_add_eq_or_of_lt (i := k) (b := a % 2 ^ k) (Nat.mod_lt _ (Nat.two_pow_pos k)) (a / 2 ^ k)
  have e4 := Nat.div_add_mod a (2 ^ k)
  apply Nat.eq_of_testBit_eq
  intro j
  have e5 : a + 2 ^ k = 2 ^ k * (a / 2 ^ k + 1) + a % 2 ^ k := by rw [Nat.mul_add, Nat.mul_one]; omega
  rw [e5, e2, Nat.testBit_or, Nat.testBit_or, Nat.testBit_two_pow]
  have e6 : a.testBit j = (2 ^ k * (a / 2 ^ k) ||| a % 2 ^ k).testBit j := by rw [← e3, e4]
  rw [e6, Nat.testBit_or, Nat.testBit_two_pow_mul, Nat.testBit_two_pow_mul]
  by_cases hj : k ≤ j
  · obtain ⟨i, rfl⟩ := Nat.exists_eq_add_of_le hj
    have e7 : (a % 2 ^ k).testBit (k + i) = false := Nat.testBit_lt_two_pow (Nat.lt_of_lt_of_le (Nat.mod_lt _ (Nat.two_pow_pos k)) (Nat.pow_le_pow_right (by omega) (by omega)))
    rw [e7]
    cases i with
    | zero =>
      simp only [Nat.add_zero, Nat.sub_self, Nat.testBit_zero]
      have : (a / 2 ^ k + 1) % 2 = 1 := by omega
      simp [this]
    | succ i =>
      have e8 : k + (i + 1) - k = i + 1 := by omega
      rw [e8, Nat.testBit_succ, Nat.testBit_succ]
      have : (a / 2 ^ k + 1) / 2 = a / 2 ^ k / 2 := by omega
      rw [this]
      simp
  · have : ¬ j ≥ k := hj
    have h2 : ¬ k = j := by omega
    simp [this, h2]
theorem mvI_lt {W h m : Nat} {c : Cell} (hW : W ≤ 6) (hh : h ≤ 6) (hok : m % 2 = 0 ∨ W = h) (hc : inG W h c) : mvI W h m c < W * h := by
  have hok' : m % 2 = 0 ∨ (W : Int) = (h : Int) := hok.imp id (fun e => by omega)
  obtain ⟨c1, c2, c3, c4⟩ := hc
  obtain ⟨p1, p2, p3, p4⟩ := mvC_place (m := m) (show GPl.ok ⟨W, h, c.x, c.y⟩ from ⟨c1, c2, c3, c4, by simp only; omega, by simp only; omega⟩) hok'
  unfold mvI
  generalize mvC W h m c.x c.y = p at p1 p2 p3 p4 ⊢
  obtain ⟨a1, a2, a3, a4⟩ := p
  simp only at p1 p2 p3 p4 ⊢
  have e1 : a4 * (W : Int) ≤ ((h : Int) - 1) * (W : Int) := Int.mul_le_mul_of_nonneg_right (by omega) (Int.natCast_nonneg W)
  have e2 : ((h : Int) - 1) * (W : Int) = ((W * h : Nat) : Int) - W := by rw [Int.sub_mul, Int.natCast_mul, Int.mul_comm (h : Int)]; omega
  have e3 := Int.mul_nonneg p3 (Int.natCast_nonneg W)
  omega
theorem carF_lt {W h m : Nat} (hW : W ≤ 6) (hh : h ≤ 6) (hok : m % 2 = 0 ∨ W = h) : ∀ (C : List Cell) (a : Nat), a < 2 ^ (W * h) → (∀ d ∈ C, inG W h d) → C.foldl (fun a c => a ||| 2 ^ mvI W h m c) a < 2 ^ (W * h)
  | [], _, ha, _ => ha
  | c :: C, a, ha, hC => by
    refine carF_lt hW hh hok C _ (Nat.or_lt_two_pow ha ?_) (fun d hd => hC d (List.mem_cons_of_mem _ hd))
    exact Nat.pow_lt_pow_right (by omega) (mvI_lt hW hh hok (hC c (List.mem_cons_self ..)))
theorem carN_lt {W h m : Nat} {C : List Cell} (hW : W ≤ 6) (hh : h ≤ 6) (hok : m % 2 = 0 ∨ W = h) (hC : ∀ d ∈ C, inG W h d) : carN W h m C < 2 ^ (W * h) := carF_lt hW hh hok C 0 (Nat.two_pow_pos _) hC
/-- the reference adds where the program joins -/
theorem carN_add {W h m : Nat} {C : List Cell} {i : Nat} {c : Cell} (hW : W ≤ 6) (hh : h ≤ 6) (hok : m % 2 = 0 ∨ W = h) (hC : ∀ d ∈ C, inG W h d) (hn : C.Nodup) (e : C[i]? = some c) :
    carN W h m (C.take (i + 1)) = carN W h m (C.take i) + 2 ^ mvI W h m c := by
  rw [carN_take e]
  refine or_free (carN_free hW hh hok (fun d hd => hC d (List.mem_of_mem_take hd)) (hC c (List.mem_of_getElem? e)) ?_)
  intro hm
  obtain ⟨j, hj, e2⟩ := List.mem_take_iff_getElem.1 hm
  obtain ⟨hi, e3⟩ := List.getElem?_eq_some_iff.1 e
  have hji : j < i := by omega
  have e4 := (List.pairwise_iff_getElem.1 hn) j i (by omega) hi hji
  apply e4
  rw [e2, e3]
end Go.Proofs.YtoccedebiacbiaaDoor
