
/-
  A right region cannot have both ways. A right region has one of both ways. What a spanning way is, in plain words. A pivotal cell lies on every way.
-/
import Derived.Test.YtjmeplchabehfaaBfs2
import Derived.Test.YtjmeplchabehfaaHex
import Derived.Test.YtjmeplchabehfaaDrawReg
import Derived.Test.YtjmeplchabehfaaPivotW
namespace Go.Proofs.Ytjmeplchabehfaa

theorem roundsL_mem {a b : Cell} : b ∈ roundsL a ↔ (kingB a b ∧ b ≠ a) := by
  have e : roundsL a = [⟨a.x + (0 - 1), a.y + (0 - 1)⟩, ⟨a.x + (1 - 1), a.y + (0 - 1)⟩, ⟨a.x + (2 - 1), a.y + (0 - 1)⟩, ⟨a.x + (0 - 1), a.y + (1 - 1)⟩, ⟨a.x + (2 - 1), a.y + (1 - 1)⟩, ⟨a.x + (0 - 1), a.y + (2 - 1)⟩, ⟨a.x + (1 - 1), a.y + (2 - 1)⟩, ⟨a.x + (2 - 1), a.y + (2 - 1)⟩] := rfl
  rw [e]
  obtain ⟨ax, ay⟩ := a
  obtain ⟨bx, by'⟩ := b
  simp only [List.mem_cons, List.not_mem_nil, or_false, kingB, ne_eq, Cell.mk.injEq]
  omega
theorem sidesL_mem {a b : Cell} : b ∈ sidesL a ↔ sideB a b := by
  obtain ⟨ax, ay⟩ := a
  obtain ⟨bx, by'⟩ := b
  simp only [sidesL, List.mem_cons, List.not_mem_nil, or_false, sideB, Cell.mk.injEq]
  omega
theorem linked_kings : ∀ {l : List Cell}, linked roundsL l → kings l
  | [], _ => trivial
  | [_], _ => trivial
  | _ :: _ :: _, h => ⟨(roundsL_mem.1 h.1).1, linked_kings h.2⟩
theorem linked_sides : ∀ {l : List Cell}, linked sidesL l → sidesP l
  | [], _ => trivial
  | [_], _ => trivial
  | _ :: _ :: _, h => ⟨sidesL_mem.1 h.1, linked_sides h.2⟩
theorem lastOf_of : ∀ {l : List Cell} {z : Cell}, l.getLast? = some z → lastOf l = z
  | [], _, h => by simp at h
  | [a], z, h => by simpa [lastOf] using h
  | a :: b :: l, z, h => by
    rw [List.getLast?_cons_cons] at h
    exact lastOf_of (l := b :: l) h
theorem not_both {r : Reg} (h1 : r.spanWay.isSome = true) (h2 : r.blockWay.isSome = true) : False := by
  obtain ⟨P, hP⟩ := Option.isSome_iff_exists.1 h1
  obtain ⟨Q, hQ⟩ := Option.isSome_iff_exists.1 h2
  unfold Reg.spanWay at hP
  unfold Reg.blockWay at hQ
  cases hv : r.valid
  · rw [hv] at hP; simp at hP
  · rw [hv] at hP hQ
    simp only [if_true] at hP hQ
    have hnd1 : (colTo r.rows.length).Nodup := startC_nd (rows := false)
    have hB1 := roots_inv (opn := r.opn) hnd1 _ (Nat.le_refl _)
    have hB2 := roots_inv (opn := opnC r false) (startC_nd (rows := true) (n := r.w.toNat)) _ (Nat.le_refl _)
    rw [List.take_length] at hB1 hB2
    obtain ⟨a, u, z, rfl, ha, hl, ho, hz, hdz⟩ := bfs_some (l := colTo r.rows.length) (fun c hc => by have := sidesL_mem.1 hc; unfold sideB at this; omega) _ _ _ _ hB1 From.roots hP
    obtain ⟨b, t, y, rfl, hb, hk, hob, hy, hdy⟩ := bfs_some (l := startC true r.w.toNat) (fun c hc => (roundsL_mem.1 hc).2 rfl) _ _ _ _ hB2 From.roots hQ
    have hin : ∀ q ∈ b :: t, 0 ≤ q.x ∧ q.x < r.w ∧ 0 ≤ q.y ∧ q.y < r.rows.length ∧ r.has q.x q.y = false := by
      intro q hq
      have := hob q hq
      simp only [opnC, inB, Bool.and_eq_true, beq_iff_eq, decide_eq_true_eq] at this
      exact ⟨by omega, by omega, by omega, by omega, this.2⟩
    refine hex_one (w := r.w) (h := r.rows.length) (P := a :: u) (Q := b :: t) (by simp) (linked_sides hl) (by simp) (linked_kings hk) ?_ ?_ ?_ ?_ ?_ ?_ ?_
    · intro p hp
      have := ho p hp
      simp only [Reg.opn, Reg.has, Bool.and_eq_true, decide_eq_true_eq] at this
      omega
    · intro q hq
      have := hin q hq
      omega
    · intro p hp q hq e
      subst e
      have := ho q hp
      rw [Reg.opn, (hin q hq).2.2.2.2] at this
      simp at this
    · obtain ⟨j, _, rfl⟩ := List.mem_map.1 ha
      rfl
    · rw [lastOf_of hz]
      simpa [Reg.far] using hdz
    · obtain ⟨j, _, rfl⟩ := List.mem_map.1 hb
      rfl
    · rw [lastOf_of hy]
      simpa [doneC] using hdy
end Go.Proofs.Ytjmeplchabehfaa

namespace Go.Proofs.Ytjmeplchabehfaa

def inK (K : List Cell) : Bool → Nat → Nat → Bool
  | e, 0, _ => e
  | _, i + 1, y => decide ((⟨(i : Int), (y : Int)⟩ : Cell) ∈ K)
def hasK (r : Reg) : Nat → Nat → Bool
  | 0, _ => true
  | i + 1, y => r.has i y
theorem not_neither {r : Reg} (hV : r.Valid) (h1 : r.spanWay = none) (h2 : r.blockWay = none) : False := by
  unfold Reg.spanWay at h1
  unfold Reg.blockWay at h2
  rw [Reg.valid_iff.2 hV] at h1 h2
  simp only [if_true] at h1 h2
  have hw1 := hV.1
  have hw2 := hV.2.1
  have hr1 := hV.2.2.1
  obtain ⟨K1, a1, a2, a3, a4⟩ := bfs_shut (G := gridC r) (startC_nd (rows := false)) (fun c h => gridC_mem (by simp only [Reg.opn, Reg.has, Bool.and_eq_true, decide_eq_true_eq] at h; simp only [inB, decide_eq_true_eq]; exact h.1)) (by have := gridC_length hV; omega) h1
  obtain ⟨K2, b1, b2, b3, b4⟩ := bfs_shut (G := gridC r) (startC_nd (rows := true)) (fun c h => gridC_mem (by rw [opnC] at h; simp only [Bool.and_eq_true] at h; exact h.1)) (by have := gridC_length hV; omega) h2
  have c1 : ∀ c ∈ K1, r.has c.x c.y = true := a1
  have c2 : ∀ c ∈ K2, r.has c.x c.y = false := fun c hc => by have := b1 c hc; simp only [opnC, Bool.and_eq_true, beq_iff_eq] at this; exact this.2
  have o2 : ∀ (i y : Nat), (i : Int) < r.w → y < r.rows.length → r.has i y = false → opnC r false ⟨i, y⟩ = true := by
    intro i y hi hy h
    simp only [opnC, inB, Bool.and_eq_true, beq_iff_eq, decide_eq_true_eq]
    exact ⟨by omega, h⟩
  have s1 : ∀ c ∈ K1, ∀ (i y : Nat), sideB c ⟨i, y⟩ → r.has i y = true → (⟨(i : Int), (y : Int)⟩ : Cell) ∈ K1 := fun c hc i y hs ho => a4 c hc _ (sidesL_mem.2 hs) ho
  have s2 : ∀ c ∈ K2, ∀ (i y : Nat), (i : Int) < r.w → y < r.rows.length → kingB c ⟨i, y⟩ → r.has i y = false → (⟨(i : Int), (y : Int)⟩ : Cell) ∈ K2 := by
    intro c hc i y hi hy hk ho
    by_cases e : (⟨(i : Int), (y : Int)⟩ : Cell) = c
    · rw [e]; exact hc
    · exact b4 c hc _ (roundsL_mem.2 ⟨hk, e⟩) (o2 i y hi hy ho)
  have sq : ∀ (i y i' y' : Nat), i ≤ i' + 1 → i' ≤ i + 1 → y ≤ y' + 1 → y' ≤ y + 1 → (i' : Int) ≤ r.w → y' < r.rows.length → inK K2 false i y = true → ((hasK r i' y' || inK K1 true i' y') || inK K2 false i' y') = true := by
    intro i y i' y' e1 e2 e3 e4 e5 e6 hb
    cases i' with
    | zero => simp [hasK]
    | succ i' =>
      cases i with
      | zero => simp [inK] at hb
      | succ i =>
        simp only [inK, decide_eq_true_eq] at hb
        cases hh : r.has i' y'
        · have := s2 _ hb i' y' (by omega) e6 (by simp only [kingB]; omega) hh
          simp [inK, this]
        · simp [hasK, hh]
  refine hex_two (w := r.w.toNat) (h := r.rows.length) (A := inK K1 true) (B := inK K2 false) (C := hasK r) (by omega) ⟨?_, ?_, ?_, ?_, ?_, ?_, ?_, ?_, ?_⟩
  · intro y; exact ⟨rfl, rfl, rfl⟩
  · intro i y _ _ ha hb
    cases i with
    | zero => simp [inK] at hb
    | succ i =>
      simp only [inK, decide_eq_true_eq] at ha hb
      have := c1 _ ha
      rw [c2 _ hb] at this
      simp at this
  · intro i y _ _ hb hc
    cases i with
    | zero => simp [inK] at hb
    | succ i =>
      simp only [inK, hasK, decide_eq_true_eq] at hb hc
      have := c2 _ hb
      rw [hc] at this
      simp at this
  · intro i y hi hy
    cases i with
    | zero =>
      refine ⟨fun _ hc => ?_, fun _ _ => rfl⟩
      simp only [inK, hasK, decide_eq_true_eq] at hc ⊢
      exact a2 _ (List.mem_map.2 ⟨y, List.mem_range.2 hy, rfl⟩) hc
    | succ i =>
      simp only [inK, hasK, decide_eq_true_eq]
      exact ⟨fun ha hc => s1 _ ha (i + 1) y (.inl ⟨rfl, .inr (by simp)⟩) hc, fun ha hc => s1 _ ha i y (.inl ⟨rfl, .inl (by simp)⟩) hc⟩
  · intro i y hi hy
    cases i with
    | zero => exact ⟨fun _ _ => rfl, fun _ _ => rfl⟩
    | succ i =>
      simp only [inK, hasK, decide_eq_true_eq]
      exact ⟨fun ha hc => s1 _ ha i (y + 1) (.inr ⟨rfl, .inr (by simp)⟩) hc, fun ha hc => s1 _ ha i y (.inr ⟨rfl, .inl (by simp)⟩) hc⟩
  · intro i y hi hy hb
    simp only [Bool.or_eq_true] at hb
    rcases hb with ((hb | hb) | hb) | hb <;> exact ⟨sq _ _ _ _ (by omega) (by omega) (by omega) (by omega) (by omega) (by omega) hb, sq _ _ _ _ (by omega) (by omega) (by omega) (by omega) (by omega) (by omega) hb, sq _ _ _ _ (by omega) (by omega) (by omega) (by omega) (by omega) (by omega) hb, sq _ _ _ _ (by omega) (by omega) (by omega) (by omega) (by omega) (by omega) hb⟩
  · intro i hi hc
    cases i with
    | zero => simp [hasK] at hc
    | succ i =>
      simp only [inK, decide_eq_true_eq]
      exact b2 _ (List.mem_map.2 ⟨i, List.mem_range.2 (by omega), rfl⟩) (o2 i 0 (by omega) (by omega) hc)
  · intro y hy
    obtain ⟨n, hn⟩ : ∃ n, r.w.toNat = n + 1 := ⟨r.w.toNat - 1, by omega⟩
    rw [hn]
    simp only [inK, decide_eq_false_iff_not]
    intro hm
    have := a3 _ hm
    simp only [Reg.far, beq_eq_false_iff_ne] at this
    omega
  · intro i hi
    cases i with
    | zero => rfl
    | succ i =>
      simp only [inK, decide_eq_false_iff_not]
      intro hm
      have := b3 _ hm
      simp only [doneC, if_true, beq_eq_false_iff_ne] at this
      omega
theorem one_way {r : Reg} (hV : r.Valid) : r.spanWay.isSome = !r.blockWay.isSome := by
  cases h1 : r.spanWay.isSome <;> cases h2 : r.blockWay.isSome
  · exact (not_neither hV (by simpa using h1) (by simpa using h2)).elim
  · rfl
  · rfl
  · exact (not_both h1 h2).elim
end Go.Proofs.Ytjmeplchabehfaa

namespace Go.Proofs.Ytjmeplchabehfaa

theorem span_facts {r : Reg} {P : List Cell} (h : r.spanWay = some P) : r.Valid ∧ (∃ (a : Cell) (u : List Cell) (z : Cell), P = a :: u ∧ a.x = 0 ∧ sidesP P ∧ P.getLast? = some z ∧ z.x = r.w - 1) ∧ ∀ x ∈ P, r.opn x = true := by
  unfold Reg.spanWay at h
  cases hv : r.valid
  · rw [hv] at h; simp at h
  · rw [hv] at h
    simp only [if_true] at h
    have hB1 := roots_inv (opn := r.opn) (startC_nd (rows := false) (n := r.rows.length)) _ (Nat.le_refl _)
    rw [List.take_length] at hB1
    obtain ⟨a, u, z, rfl, ha, hl, ho, hz, hdz⟩ := bfs_some (l := colTo r.rows.length) (fun c hc => by have := sidesL_mem.1 hc; unfold sideB at this; omega) _ _ _ _ hB1 From.roots h
    refine ⟨Reg.valid_iff.1 hv, ⟨a, u, z, rfl, ?_, linked_sides hl, hz, by simpa [Reg.far] using hdz⟩, ho⟩
    obtain ⟨j, _, rfl⟩ := List.mem_map.1 ha
    rfl
/-- a side-way of open cells from edge to edge: the region spans -/
theorem path_spans {r : Reg} (hV : r.Valid) {a z : Cell} {u : List Cell} (ha : a.x = 0) (hs : sidesP (a :: u)) (hz : (a :: u).getLast? = some z) (hzx : z.x = r.w - 1) (ho : ∀ x ∈ a :: u, r.opn x = true) : r.spanWay.isSome = true := by
  rw [one_way hV]
  cases hb : r.blockWay with
  | none => rfl
  | some Q =>
    exfalso
    unfold Reg.blockWay at hb
    rw [Reg.valid_iff.2 hV] at hb
    simp only [if_true] at hb
    have hB2 := roots_inv (opn := opnC r false) (startC_nd (rows := true) (n := r.w.toNat)) _ (Nat.le_refl _)
    rw [List.take_length] at hB2
    obtain ⟨b, t, y, rfl, hb, hk, hob, hy, hdy⟩ := bfs_some (l := startC true r.w.toNat) (fun c hc => (roundsL_mem.1 hc).2 rfl) _ _ _ _ hB2 From.roots hb
    have hin : ∀ q ∈ b :: t, 0 ≤ q.x ∧ q.x < r.w ∧ 0 ≤ q.y ∧ q.y < r.rows.length ∧ r.has q.x q.y = false := by
      intro q hq
      have := hob q hq
      simp only [opnC, inB, Bool.and_eq_true, beq_iff_eq, decide_eq_true_eq] at this
      exact ⟨by omega, by omega, by omega, by omega, this.2⟩
    refine hex_one (w := r.w) (h := r.rows.length) (P := a :: u) (Q := b :: t) (by simp) hs (by simp) (linked_kings hk) ?_ ?_ ?_ ha ?_ ?_ ?_
    · intro p hp
      have := ho p hp
      simp only [Reg.opn, Reg.has, Bool.and_eq_true, decide_eq_true_eq] at this
      omega
    · intro q hq
      have := hin q hq
      omega
    · intro p hp q hq e
      subst e
      have := ho q hp
      rw [Reg.opn, (hin q hq).2.2.2.2] at this
      simp at this
    · rw [lastOf_of hz]
      exact hzx
    · obtain ⟨j, _, rfl⟩ := List.mem_map.1 hb
      rfl
    · rw [lastOf_of hy]
      simpa [doneC] using hdy
end Go.Proofs.Ytjmeplchabehfaa

namespace Go.Proofs.Ytjmeplchabehfaa

theorem flip_has {r : Reg} {x y : Nat} {i j : Int} (h : r.has i j = true) (hne : ¬ (i = x ∧ j = y)) : (r.flip x y).has i j = true := by
  simp only [Reg.has, Bool.and_eq_true, decide_eq_true_eq] at h ⊢
  obtain ⟨⟨h1, h2, h3, h4⟩, h5⟩ := h
  refine ⟨⟨h1, h2, h3, by rw [Reg.flip_len]; exact h4⟩, ?_⟩
  simp only [Reg.row, Reg.flip] at h5 ⊢
  by_cases hj : y = j.toNat
  · subst hj
    have hi : ¬ x = i.toNat := fun e => hne ⟨by omega, by omega⟩
    rw [List.getD_eq_getElem?_getD, List.getElem?_set_self (by omega)]
    simp only [Option.getD_some, Int.toNat_natCast, Nat.testBit_xor, Nat.testBit_two_pow]
    rw [h5]
    simp [hi]
  · rw [List.getD_eq_getElem?_getD, List.getElem?_set_ne hj, ← List.getD_eq_getElem?_getD]
    exact h5
theorem pivot_on {r : Reg} {P : List Cell} (h : r.spanWay = some P) {c : Cell} (hc : c ∈ r.pivots) : c ∈ P := by
  obtain ⟨hV, ⟨a, u, z, rfl, ha, hs, hz, hzx⟩, ho⟩ := span_facts h
  apply Classical.byContradiction
  intro hn
  unfold Reg.pivots at hc
  rw [h] at hc
  simp only [Option.isSome_some, if_true] at hc
  obtain ⟨_, hp⟩ := List.mem_filter.1 hc
  unfold Reg.pivotal at hp
  have hv := Reg.less_valid hV (x := c.x) (y := c.y)
  rw [path_spans hv.1 ha hs hz (by rw [hv.2]; exact hzx) ?_] at hp
  · simp at hp
  · intro x hx
    have h1 := ho x hx
    unfold Reg.opn at h1 ⊢
    unfold Reg.less
    split
    · rename_i hin
      have hin2 : r.has c.x c.y = true := by
        simp only [Reg.isIn, Bool.and_eq_true] at hin
        exact hin.2
      simp only [Reg.has, Bool.and_eq_true, decide_eq_true_eq] at hin2
      refine flip_has h1 ?_
      rintro ⟨e1, e2⟩
      apply hn
      have : x = c := by
        obtain ⟨cx, cy⟩ := c
        obtain ⟨xx, xy⟩ := x
        simp only at e1 e2 hin2
        simp only [Cell.mk.injEq]
        omega
      rw [← this]
      exact hx
    · exact h1
end Go.Proofs.Ytjmeplchabehfaa
