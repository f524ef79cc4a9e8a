
/-
  A tiling repaired, in plain Lean: what kept masks leave; masks in the order of their least bits. No program in sight. Masks in the order of their least bits: plain, and the reference's walk. What a repaired tiling is, plain: kept masks, then a tiling of the rest, in the order of their least bits.
-/
import Derived.Test.YtelneohlpljblaaGreatDoorFtX
import Derived.Test.YtelneohlpljblaaGreatDoorPlcSX
import Derived.Test.YtelneohlpljblaaGreatDoorSrcS
import Derived.Test.YtelneohlpljblaaGreatDoorDivPX
namespace Go.Proofs.YtelneohlpljblaaGreatDoor
open Go.RowKit

/-! placements are masks of cells of the region, and not 0 -/
theorem maskTo_bit {r : Reg} (h : r.Valid) : ∀ (k y x : Nat), y < k → x < r.w.toNat → (r.maskTo k).testBit (y * r.w.toNat + x) = (r.row y).testBit x
  | 0, y, x, hy, _ => absurd hy (Nat.not_lt_zero y)
  | k + 1, y, x, hy, hx => by
    rw [← Reg.maskTo_or h k, Nat.testBit_or]
    by_cases e : y = k
    · subst e
      have h1 : (r.maskTo y).testBit (y * r.w.toNat + x) = false := Nat.testBit_lt_two_pow (Nat.lt_of_lt_of_le (Reg.maskTo_lt h y) (Nat.pow_le_pow_right (by decide) (Nat.le_add_right _ _)))
      rw [h1, Nat.mul_comm (r.row y), Nat.testBit_two_pow_mul, Bool.false_or]
      have : y * r.w.toNat + x - y * r.w.toNat = x := by omega
      rw [this, decide_eq_true (Nat.le_add_right _ _), Bool.true_and]
    · have hyk : y < k := by omega
      rw [maskTo_bit h k y x hyk hx]
      have hlt : y * r.w.toNat + x < k * r.w.toNat := by
        have h2 : (y + 1) * r.w.toNat ≤ k * r.w.toNat := Nat.mul_le_mul_right _ hyk
        rw [Nat.add_mul] at h2
        omega
      rw [Nat.mul_comm (r.row k), Nat.testBit_two_pow_mul, decide_eq_false (by omega), Bool.false_and, Bool.or_false]
theorem has_bit {r : Reg} (h : r.Valid) {c : Cell} (hc : r.has c.x c.y = true) : r.mask.testBit (bitOf r c) = true := by
  obtain ⟨h1, h2, h3, h4⟩ := has_in hc
  unfold Reg.mask bitOf
  rw [maskTo_bit h _ _ _ (by omega) (by omega)]
  unfold Reg.has at hc
  exact (Bool.and_eq_true_iff.1 hc).2
theorem or_and_sub {n b M : Nat} (hn : n &&& M = n) (hb : M.testBit b = true) : (n ||| 2 ^ b) &&& M = n ||| 2 ^ b := by
  apply Nat.eq_of_testBit_eq
  intro i
  rw [Nat.testBit_and, Nat.testBit_or, Nat.testBit_two_pow]
  have h1 : (n.testBit i && M.testBit i) = n.testBit i := by rw [← Nat.testBit_and, hn]
  by_cases e : b = i
  · subst e; rw [hb]; simp
  · rw [decide_eq_false e, Bool.or_false, h1]
theorem maskFrom_sub {r : Reg} (hv : r.Valid) : ∀ {s : List Cell} {n m : Nat}, n &&& r.mask = n → maskFrom r n s = some m → m &&& r.mask = m ∧ n ≤ m ∧ (s ≠ [] → 0 < m)
  | [], n, m, hn, h => by injection h with h; subst h; exact ⟨hn, Nat.le_refl _, fun h => absurd rfl h⟩
  | c :: s, n, m, hn, h => by
    unfold maskFrom at h
    split at h
    · rename_i hc
      have h1 := maskFrom_sub hv (n := n + 2 ^ bitOf r c) (by rw [add_bit hc.2]; exact or_and_sub hn (has_bit hv hc.1)) h
      have := Nat.pow_pos (a := 2) (n := bitOf r c) (by decide)
      exact ⟨h1.1, by omega, fun _ => by omega⟩
    · cases h
theorem moveS_ne {s : List Cell} {x y : Int} (h : s ≠ []) : moveS s x y ≠ [] := by
  intro e
  have := congrArg List.length e
  unfold moveS at this
  simp at this
  exact h this
theorem allP_sub {r : Reg} (hv : r.Valid) {ps : List (List Cell)} (hp : arePcs ps = true) {n : Int} (h : n ∈ allP r ps) : n.toNat &&& r.mask = n.toNat ∧ 0 < n.toNat := by
  unfold allP at h
  rw [mem_srtU] at h
  obtain ⟨s, hs, h⟩ := List.mem_flatMap.1 h
  unfold plc at h
  rw [mem_srtU] at h
  unfold plcRaw rawT at h
  obtain ⟨t, ht, h⟩ := List.mem_flatMap.1 h
  obtain ⟨y, _, h⟩ := List.mem_flatMap.1 h
  obtain ⟨x, _, h⟩ := List.mem_flatMap.1 h
  unfold optI at h
  cases hm : maskS r (moveS t x y) with
  | none => rw [hm] at h; simp at h
  | some m =>
    rw [hm] at h
    simp at h
    subst h
    have h1 := maskFrom_sub hv (Nat.zero_and _) hm
    have hsh := (arePcs_on hp).1 s hs
    obtain ⟨k, _, rfl⟩ := orients_row 8 t ht
    have hne : turnS k s ≠ [] := by
      have := shp_len hsh
      intro e
      have h2 : 0 < (sortC (s.map (carryC k))).length := sortC_pos (by rw [List.length_map]; omega)
      have h3 := congrArg List.length e
      unfold turnS corner at h3
      rw [shift_length, List.length_nil] at h3
      omega
    have := h1.2.2 (moveS_ne hne)
    exact ⟨by simpa using h1.1, by simpa using this⟩
theorem allN_sub {r : Reg} (hv : r.Valid) {ps : List (List Cell)} (hp : arePcs ps = true) : ∀ m ∈ allN r ps, m &&& r.mask = m ∧ 0 < m := by
  intro m hm
  obtain ⟨a, ha, rfl⟩ := List.mem_map.1 hm
  exact allP_sub hv hp ha
/-! what is left -/
theorem sub_free {M u m : Nat} (hM : M < 2 ^ 64) (hu : u &&& M = u) (hm : m &&& M = m) : m &&& (M - u) = m ↔ u &&& m = 0 := by
  constructor
  · intro h
    apply Nat.eq_of_testBit_eq
    intro i
    rw [Nat.testBit_and, Nat.zero_testBit]
    have h1 : (m.testBit i && (M - u).testBit i) = m.testBit i := by rw [← Nat.testBit_and, h]
    rw [sub_test hu hM] at h1
    revert h1
    cases u.testBit i <;> cases m.testBit i <;> cases M.testBit i <;> simp
  · intro h
    apply Nat.eq_of_testBit_eq
    intro i
    rw [Nat.testBit_and, sub_test hu hM]
    have h1 : (u.testBit i && m.testBit i) = false := by rw [← Nat.testBit_and, h, Nat.zero_testBit]
    have h2 : (m.testBit i && M.testBit i) = m.testBit i := by rw [← Nat.testBit_and, hm]
    revert h1 h2
    cases u.testBit i <;> cases m.testBit i <;> cases M.testBit i <;> simp
theorem or_sub {M u m : Nat} (hu : u &&& M = u) (hm : m &&& M = m) : (u ||| m) &&& M = u ||| m := by
  apply Nat.eq_of_testBit_eq
  intro i
  have h1 : (u.testBit i && M.testBit i) = u.testBit i := by rw [← Nat.testBit_and, hu]
  have h2 : (m.testBit i && M.testBit i) = m.testBit i := by rw [← Nat.testBit_and, hm]
  rw [Nat.testBit_and, Nat.testBit_or]
  revert h1 h2
  cases u.testBit i <;> cases m.testBit i <;> cases M.testBit i <;> simp
/-- the mask of what is kept, if it may be kept -/
def keptU (A : List Nat) : Nat → List Int → Option Nat
  | u, [] => some u
  | u, m :: l => if (0 ≤ m ∧ m.toNat ∈ A) ∧ u &&& m.toNat = 0 then keptU A (u ||| m.toNat) l else none
theorem keptU_snoc {A : List Nat} {m : Int} : ∀ {l : List Int} {u : Nat}, keptU A u (l ++ [m]) = (keptU A u l).bind fun u' => if (0 ≤ m ∧ m.toNat ∈ A) ∧ u' &&& m.toNat = 0 then some (u' ||| m.toNat) else none
  | [], u => by
    show keptU A u [m] = _
    simp only [keptU, Option.bind_some]
  | a :: l, u => by
    show keptU A u (a :: (l ++ [m])) = _
    unfold keptU
    split
    · exact keptU_snoc
    · rfl
theorem keptU_app {A : List Nat} : ∀ {l k : List Int} {u : Nat}, keptU A u l = none → keptU A u (l ++ k) = none
  | [], _, u, h => by cases h
  | a :: l, k, u, h => by
    show keptU A u (a :: (l ++ k)) = none
    unfold keptU at h ⊢
    split at h
    · rename_i hc; rw [if_pos hc]; exact keptU_app h
    · rename_i hc; rw [if_neg hc]
/-- what kept masks are, that may be kept -/
theorem keptU_some {A : List Nat} {M : Nat} (hA : ∀ m ∈ A, m &&& M = m ∧ 0 < m) : ∀ {l : List Int} {u u' : Nat}, u &&& M = u → keptU A u l = some u' → u' &&& M = u' ∧ u &&& u' = u ∧ (∀ a ∈ l, 0 ≤ a ∧ a.toNat ∈ A ∧ u &&& a.toNat = 0 ∧ a.toNat &&& u' = a.toNat) ∧ l.Pairwise fun a b => a.toNat &&& b.toNat = 0
  | [], u, u', hu, h => by injection h with h; subst h; exact ⟨hu, Nat.and_self _, fun a ha => absurd ha (by simp), List.Pairwise.nil⟩
  | m :: l, u, u', hu, h => by
    unfold keptU at h
    split at h
    · rename_i hc
      obtain ⟨⟨h0, hmA⟩, hum⟩ := hc
      obtain ⟨i1, i2, i3, i4⟩ := keptU_some hA (or_sub hu (hA _ hmA).1) h
      have k1 : u &&& u' = u := by
        apply Nat.eq_of_testBit_eq
        intro i
        have : ((u ||| m.toNat).testBit i && u'.testBit i) = (u ||| m.toNat).testBit i := by rw [← Nat.testBit_and, i2]
        rw [Nat.testBit_or] at this
        rw [Nat.testBit_and]
        revert this
        cases u.testBit i <;> cases m.toNat.testBit i <;> cases u'.testBit i <;> simp
      have k2 : m.toNat &&& u' = m.toNat := by
        apply Nat.eq_of_testBit_eq
        intro i
        have : ((u ||| m.toNat).testBit i && u'.testBit i) = (u ||| m.toNat).testBit i := by rw [← Nat.testBit_and, i2]
        rw [Nat.testBit_or] at this
        rw [Nat.testBit_and]
        revert this
        cases u.testBit i <;> cases m.toNat.testBit i <;> cases u'.testBit i <;> simp
      have k3 : ∀ a ∈ l, u &&& a.toNat = 0 ∧ m.toNat &&& a.toNat = 0 := fun a ha => by
        have h3 := (i3 a ha).2.2.1
        constructor
        · apply Nat.eq_of_testBit_eq
          intro i
          have : ((u ||| m.toNat).testBit i && a.toNat.testBit i) = false := by rw [← Nat.testBit_and, h3, Nat.zero_testBit]
          rw [Nat.testBit_or] at this
          rw [Nat.testBit_and, Nat.zero_testBit]
          revert this
          cases u.testBit i <;> cases m.toNat.testBit i <;> cases a.toNat.testBit i <;> simp
        · apply Nat.eq_of_testBit_eq
          intro i
          have : ((u ||| m.toNat).testBit i && a.toNat.testBit i) = false := by rw [← Nat.testBit_and, h3, Nat.zero_testBit]
          rw [Nat.testBit_or] at this
          rw [Nat.testBit_and, Nat.zero_testBit]
          revert this
          cases u.testBit i <;> cases m.toNat.testBit i <;> cases a.toNat.testBit i <;> simp
      refine ⟨i1, k1, fun a ha => ?_, List.pairwise_cons.2 ⟨fun a ha => (k3 a ha).2, i4⟩⟩
      rcases List.mem_cons.1 ha with rfl | ha
      · exact ⟨h0, hmA, hum, k2⟩
      · obtain ⟨j1, j2, _, j4⟩ := i3 a ha
        exact ⟨j1, j2, (k3 a ha).1, j4⟩
    · cases h
end Go.Proofs.YtelneohlpljblaaGreatDoor

namespace Go.Proofs.YtelneohlpljblaaGreatDoor
open Go.RowKit

def lowI (a : Int) : Nat := lowB a.toNat
def SrtL (l : List Int) : Prop := l.Pairwise fun a b => lowI a < lowI b
/-- no two have the same least bit -/
def DifL (l : List Int) : Prop := l.Pairwise fun a b => lowI a ≠ lowI b
def insL (x : Int) (l : List Int) : List Int := l.filter (fun d => decide (lowI d < lowI x)) ++ x :: l.filter (fun d => decide (lowI x < lowI d))
def srtL (L : List Int) : List Int := L.foldl (fun a x => insL x a) []
theorem filter_all {α : Type} {p : α → Bool} {l : List α} (h : ∀ a ∈ l, p a = true) : l.filter p = l := List.filter_eq_self.2 h
theorem filter_none {α : Type} {p : α → Bool} {l : List α} (h : ∀ a ∈ l, p a = false) : l.filter p = [] := List.filter_eq_nil_iff.2 fun a ha => by rw [h a ha]; exact Bool.false_ne_true
theorem insL_put {x : Int} {l : List Int} {k : Nat} (h1 : ∀ d ∈ l.take k, lowI d < lowI x) (h2 : ∀ d ∈ l.drop k, lowI x < lowI d) : insL x l = l.take k ++ x :: l.drop k := by
  unfold insL
  have e1 : l.filter (fun d => decide (lowI d < lowI x)) = l.take k := by
    conv => lhs; rw [← List.take_append_drop k l]
    rw [List.filter_append, filter_all (fun a ha => decide_eq_true (h1 a ha)), filter_none (fun a ha => decide_eq_false (by have := h2 a ha; omega)), List.append_nil]
  have e2 : l.filter (fun d => decide (lowI x < lowI d)) = l.drop k := by
    conv => lhs; rw [← List.take_append_drop k l]
    rw [List.filter_append, filter_none (fun a ha => decide_eq_false (by have := h1 a ha; omega)), filter_all (fun a ha => decide_eq_true (h2 a ha)), List.nil_append]
  rw [e1, e2]
theorem mem_insL {x d : Int} {l : List Int} (h : ∀ a ∈ l, lowI a ≠ lowI x) : d ∈ insL x l ↔ d = x ∨ d ∈ l := by
  unfold insL
  rw [List.mem_append, List.mem_cons, List.mem_filter, List.mem_filter, decide_eq_true_iff, decide_eq_true_iff]
  constructor
  · rintro (h | h | h)
    · exact .inr h.1
    · exact .inl h
    · exact .inr h.1
  · rintro (h1 | h1)
    · exact .inr (.inl h1)
    · have := h d h1
      rcases Nat.lt_or_gt_of_ne this with h2 | h2
      · exact .inl ⟨h1, h2⟩
      · exact .inr (.inr ⟨h1, h2⟩)
theorem srt_insL {x : Int} {l : List Int} (h : SrtL l) : SrtL (insL x l) := by
  unfold insL SrtL
  rw [List.pairwise_append, List.pairwise_cons]
  refine ⟨h.filter _, ⟨fun d hd => of_decide_eq_true (List.mem_filter.1 hd).2, h.filter _⟩, fun a ha b hb => ?_⟩
  have h1 : lowI a < lowI x := of_decide_eq_true (List.mem_filter.1 ha).2
  rcases List.mem_cons.1 hb with rfl | hb
  · exact h1
  · have : lowI x < lowI b := of_decide_eq_true (List.mem_filter.1 hb).2
    omega
theorem srtL_snoc {L : List Int} {x : Int} : srtL (L ++ [x]) = insL x (srtL L) := by simp [srtL]
theorem srt_srtL (L : List Int) : ∀ a : List Int, SrtL a → SrtL (L.foldl (fun a x => insL x a) a) := by
  induction L with
  | nil => intro a h; exact h
  | cons x L ih => intro a h; exact ih _ (srt_insL h)
theorem mem_foldL (L : List Int) : ∀ a : List Int, DifL (a ++ L) → ∀ d, d ∈ L.foldl (fun a x => insL x a) a ↔ d ∈ a ∨ d ∈ L := by
  induction L with
  | nil => intro a _ d; simp
  | cons x L ih =>
    intro a h d
    have h0 : ∀ b ∈ a, lowI b ≠ lowI x := fun b hb => (List.pairwise_append.1 h).2.2 b hb x List.mem_cons_self
    have hd : DifL (insL x a ++ L) := by
      unfold DifL at h ⊢
      rw [List.pairwise_append] at h ⊢
      obtain ⟨p1, p2, p3⟩ := h
      rw [List.pairwise_cons] at p2
      refine ⟨?_, p2.2, fun b hb c hc => ?_⟩
      · unfold insL
        rw [List.pairwise_append, List.pairwise_cons]
        refine ⟨p1.filter _, ⟨fun d hd => ?_, p1.filter _⟩, fun b hb c hc => ?_⟩
        · have : lowI x < lowI d := of_decide_eq_true (List.mem_filter.1 hd).2
          omega
        · have h1 : lowI b < lowI x := of_decide_eq_true (List.mem_filter.1 hb).2
          rcases List.mem_cons.1 hc with rfl | hc
          · omega
          · have : lowI x < lowI c := of_decide_eq_true (List.mem_filter.1 hc).2
            omega
      · rcases (mem_insL h0).1 hb with rfl | hb
        · exact p2.1 c hc
        · exact p3 b hb c (List.mem_cons_of_mem _ hc)
    show d ∈ L.foldl (fun a x => insL x a) (insL x a) ↔ _
    rw [ih _ hd, mem_insL h0, List.mem_cons]
    constructor
    · rintro ((h | h) | h)
      · exact .inr (.inl h)
      · exact .inl h
      · exact .inr (.inr h)
    · rintro (h | h | h)
      · exact .inl (.inr h)
      · exact .inl (.inl h)
      · exact .inr h
theorem mem_srtL {L : List Int} (h : DifL L) {d : Int} : d ∈ srtL L ↔ d ∈ L := by
  unfold srtL
  rw [mem_foldL L [] (by rw [List.nil_append]; exact h)]
  simp
theorem srtL_srt (L : List Int) : SrtL (srtL L) := srt_srtL L [] List.Pairwise.nil
/-- a sorted list of the same numbers is this one -/
theorem srtL_is {L S : List Int} (h : DifL L) (hs : SrtL S) (hm : ∀ d, d ∈ S ↔ d ∈ L) : S = srtL L :=
  pw_ext (r := fun a b => lowI a < lowI b) (fun a h => Nat.lt_irrefl _ h) (fun a b h1 h2 => absurd h2 (Nat.lt_asymm h1)) hs (srtL_srt L) fun d => by rw [hm, mem_srtL h]
theorem insL_len {x : Int} {l : List Int} (h : ∀ a ∈ l, lowI a ≠ lowI x) : (insL x l).length = l.length + 1 := by
  unfold insL
  rw [List.length_append, List.length_cons]
  have : (l.filter fun d => decide (lowI d < lowI x)).length + (l.filter fun d => decide (lowI x < lowI d)).length = l.length := by
    induction l with
    | nil => rfl
    | cons a l ih =>
      have h1 := ih fun b hb => h b (List.mem_cons_of_mem _ hb)
      have h2 := h a List.mem_cons_self
      rw [List.filter_cons, List.filter_cons, List.length_cons]
      rcases Nat.lt_or_gt_of_ne h2 with h3 | h3
      · rw [if_pos (decide_eq_true h3), if_neg (by rw [decide_eq_false (by omega)]; exact Bool.false_ne_true), List.length_cons]; omega
      · rw [if_neg (by rw [decide_eq_false (by omega)]; exact Bool.false_ne_true), if_pos (decide_eq_true h3), List.length_cons]; omega
  omega
theorem srtL_len {L : List Int} (h : DifL L) (k : Nat) : (srtL (L.take k)).length = (L.take k).length := by
  induction k with
  | zero => rfl
  | succ k ih =>
    cases hk : L[k]? with
    | none =>
      rw [List.take_of_length_le (by have := List.getElem?_eq_none_iff.1 hk; omega)]
      rw [List.take_of_length_le (by have := List.getElem?_eq_none_iff.1 hk; omega)] at ih
      exact ih
    | some x =>
      have e : L.take (k + 1) = L.take k ++ [x] := by rw [List.take_add_one, hk]; rfl
      have hd : DifL (L.take k ++ [x]) := by rw [← e]; exact h.sublist (List.take_sublist _ _)
      have h0 : ∀ a ∈ srtL (L.take k), lowI a ≠ lowI x := fun a ha => by
        have := (mem_srtL ((List.pairwise_append.1 hd).1)).1 ha
        exact (List.pairwise_append.1 hd).2.2 a this x (by simp)
      rw [e, srtL_snoc, insL_len h0, ih, List.length_append]; rfl
end Go.Proofs.YtelneohlpljblaaGreatDoor

namespace Go.Proofs.YtelneohlpljblaaGreatDoor
open Go.RowKit

theorem sub_in {M u x : Nat} (hM : M < 2 ^ 64) (hu : u &&& M = u) (hx : x &&& (M - u) = x) : x &&& M = x ∧ u &&& x = 0 := by
  have h1 : x &&& M = x := by
    apply Nat.eq_of_testBit_eq
    intro i
    have h := congrArg (fun n => n.testBit i) hx
    simp only [Nat.testBit_and, sub_test hu hM] at h
    rw [Nat.testBit_and]
    revert h
    cases x.testBit i <;> cases M.testBit i <;> cases u.testBit i <;> simp
  exact ⟨h1, (sub_free hM hu h1).1 hx⟩
theorem til_in {A : List Nat} : ∀ (free : Nat), free < 2 ^ 36 → ∀ t ∈ til A free, (∀ m ∈ t, m ∈ A ∧ m &&& free = m ∧ 0 < m) ∧ t.Pairwise fun a b => a &&& b = 0 := by
  intro free
  induction free using Nat.strongRecOn with
  | _ free ih =>
    intro hf t ht
    by_cases h0 : free = 0
    · subst h0
      rw [til_zero] at ht
      simp at ht
      subst ht
      exact ⟨fun m hm => absurd hm (by simp), List.Pairwise.nil⟩
    · rw [til_pos h0] at ht
      obtain ⟨m, hm, ht⟩ := List.mem_flatMap.1 ht
      unfold tilAt at ht
      cases hfit : fitB free m
      · rw [hfit] at ht; simp at ht
      · rw [hfit] at ht
        simp at ht
        obtain ⟨t', ht', rfl⟩ := ht
        have h1 := ih (free - m) (fit_lt hfit) (by omega) t' ht'
        have h2 := fit_and hfit
        have h3 : ∀ x ∈ t', x &&& free = x ∧ m &&& x = 0 := fun x hx => sub_in (by omega) h2 (h1.1 x hx).2.1
        refine ⟨fun x hx => ?_, List.pairwise_cons.2 ⟨fun x hx => (h3 x hx).2, h1.2⟩⟩
        rcases List.mem_cons.1 hx with rfl | hx
        · exact ⟨hm, h2, Nat.pos_of_ne_zero (fitB_pos hfit)⟩
        · exact ⟨(h1.1 x hx).1, (h3 x hx).1, (h1.1 x hx).2.2⟩
theorem lowB_ne {a b : Nat} (ha : 0 < a) (ha2 : a < 2 ^ 36) (hb : 0 < b) (hb2 : b < 2 ^ 36) (h : a &&& b = 0) : lowB a ≠ lowB b := by
  intro e
  have h1 := (lowB_bits (by omega) ha2).1
  have h2 := (lowB_bits (by omega) hb2).1
  rw [e] at h1
  have h3 : (a &&& b).testBit (lowB b) = true := by rw [Nat.testBit_and, h1, h2]; rfl
  rw [h, Nat.zero_testBit] at h3
  cases h3
theorem ascL_len : ∀ (l : List Int) (lo : Nat), (l.Pairwise fun a b => lowI a < lowI b) → (∀ a ∈ l, lo ≤ lowI a ∧ lowI a < 64) → l.length ≤ 64 - lo
  | [], _, _, _ => Nat.zero_le _
  | a :: l, lo, h, hb => by
    rw [List.pairwise_cons] at h
    have h1 := ascL_len l (lowI a + 1) h.2 fun b hb' => ⟨h.1 b hb', (hb b (List.mem_cons_of_mem _ hb')).2⟩
    have h2 := hb a List.mem_cons_self
    rw [List.length_cons]
    omega
theorem difL_len {l : List Int} (h : DifL l) (hb : ∀ a ∈ l, 0 < a ∧ a.toNat < 2 ^ 36) : l.length ≤ 64 := by
  have h1 := srtL_len h l.length
  rw [List.take_length] at h1
  rw [← h1]
  exact ascL_len _ 0 (srtL_srt l) fun a ha => ⟨Nat.zero_le _, lowB_lt (hb a ((mem_srtL h).1 ha)).2⟩
def repO (A : List Nat) (M : Nat) (k : List Int) : Option (List Int) :=
  (keptU A 0 k).bind fun u => if ordB A (M - u) 0 = true then some (srtL (k ++ nl (ordR A (M - u) 0))) else none
def repX (r : Reg) (ps : List (List Cell)) (k : List Int) : Option (List Int) := if (r.valid && arePcs ps) = true then repO (allN r ps) r.mask k else none
def repL (r : Reg) (ps : List (List Cell)) (k : List Int) : List Int := (repX r ps k).getD []
def repB (r : Reg) (ps : List (List Cell)) (k : List Int) : Bool := (repX r ps k).isSome
theorem rep_bad {r : Reg} {ps : List (List Cell)} {k : List Int} (h : (r.valid && arePcs ps) = false) : repB r ps k = false ∧ repL r ps k = [] := by
  unfold repB repL repX
  rw [h]
  exact ⟨rfl, rfl⟩
theorem rep_out {r : Reg} {ps : List (List Cell)} {k : List Int} (h : keptU (allN r ps) 0 k = none) : repB r ps k = false ∧ repL r ps k = [] := by
  unfold repB repL repX repO
  rw [h]
  split <;> exact ⟨rfl, rfl⟩
theorem rep_no {r : Reg} {ps : List (List Cell)} {k : List Int} {u : Nat} (h : keptU (allN r ps) 0 k = some u) (ho : ordB (allN r ps) (r.mask - u) 0 = false) : repB r ps k = false ∧ repL r ps k = [] := by
  unfold repB repL repX repO
  rw [h]
  simp only [Option.bind_some, ho]
  split <;> exact ⟨rfl, rfl⟩
theorem rep_yes {r : Reg} {ps : List (List Cell)} {k : List Int} {u : Nat} (hv : (r.valid && arePcs ps) = true) (h : keptU (allN r ps) 0 k = some u) (ho : ordB (allN r ps) (r.mask - u) 0 = true) : repB r ps k = true ∧ repL r ps k = srtL (k ++ nl (ordR (allN r ps) (r.mask - u) 0)) := by
  unfold repB repL repX repO
  rw [h]
  simp only [Option.bind_some, ho, hv, if_true]
  exact ⟨rfl, rfl⟩
theorem mem_nl {t : List Nat} {a : Int} (h : a ∈ nl t) : ∃ m ∈ t, a = (m : Int) := by
  unfold nl at h
  obtain ⟨m, hm, rfl⟩ := List.mem_map.1 h
  exact ⟨m, hm, rfl⟩
theorem mem_nl_iff {A : List Nat} {x : Int} : x ∈ nl A ↔ 0 ≤ x ∧ x.toNat ∈ A := by
  constructor
  · intro h
    obtain ⟨m, hm, rfl⟩ := mem_nl h
    exact ⟨by omega, by simpa using hm⟩
  · rintro ⟨h1, h2⟩
    unfold nl
    exact List.mem_map.2 ⟨x.toNat, h2, by omega⟩
theorem keptU_go {A : List Nat} {k : List Int} {i u : Nat} {x : Int} (h : keptU A 0 (k.take i) = some u) (hx : k[i]? = some x) (hc : (0 ≤ x ∧ x.toNat ∈ A) ∧ u &&& x.toNat = 0) : keptU A 0 (k.take (i + 1)) = some (u ||| x.toNat) := by
  have e : k.take (i + 1) = k.take i ++ [x] := by rw [List.take_add_one, hx]; rfl
  rw [e, keptU_snoc, h]
  simp only [Option.bind_some, if_pos hc]
theorem keptU_stop {A : List Nat} {k : List Int} {i u : Nat} {x : Int} (h : keptU A 0 (k.take i) = some u) (hx : k[i]? = some x) (hn : ¬ ((0 ≤ x ∧ x.toNat ∈ A) ∧ u &&& x.toNat = 0)) : keptU A 0 k = none := by
  have e : k.take (i + 1) = k.take i ++ [x] := by rw [List.take_add_one, hx]; rfl
  rw [← List.take_append_drop (i + 1) k]
  refine keptU_app ?_
  rw [e, keptU_snoc, h]
  simp only [Option.bind_some, if_neg hn]
/-- what is free gets less by a kept mask -/
theorem free_go {M u m : Nat} (hM : M < 2 ^ 36) (hu : u &&& M = u) (hm : m &&& (M - u) = m) : M - (u ||| m) = M - u - m ∧ m ≤ M - u := by
  have h1 := sub_in (by omega) hu hm
  have h2 : m ≤ M - u := by rw [← hm]; exact Nat.and_le_right
  have h3 : u ≤ M := by rw [← hu]; exact Nat.and_le_right
  rw [or_add (by omega) (by omega) h1.2]
  omega
/-- what the parts of a repaired tiling are -/
theorem rep_parts {A : List Nat} {M u : Nat} {k : List Int} (hM : M < 2 ^ 36) (hA : ∀ m ∈ A, m &&& M = m ∧ 0 < m) (hk : keptU A 0 k = some u) :
    u &&& M = u ∧ DifL (k ++ nl (ordR A (M - u) 0)) ∧ ∀ a ∈ k ++ nl (ordR A (M - u) 0), 0 < a ∧ a.toNat < 2 ^ 36 := by
  obtain ⟨h1, _, h3, h4⟩ := keptU_some hA (Nat.zero_and _) hk
  have hlt : ∀ m ∈ A, m < 2 ^ 36 := fun m hm => by have := (hA m hm).1; rw [← this]; exact Nat.lt_of_le_of_lt Nat.and_le_right hM
  have hkp : ∀ a ∈ k, 0 < a ∧ a.toNat < 2 ^ 36 ∧ a.toNat &&& u = a.toNat ∧ a.toNat ∈ A := fun a ha => by
    obtain ⟨j1, j2, _, j4⟩ := h3 a ha
    have := (hA _ j2).2
    exact ⟨by omega, hlt _ j2, j4, j2⟩
  have hT : (∀ m ∈ ordR A (M - u) 0, m ∈ A ∧ m &&& (M - u) = m ∧ 0 < m) ∧ (ordR A (M - u) 0).Pairwise fun a b => a &&& b = 0 := by
    unfold ordR
    cases ht : (til A (M - u))[0]? with
    | none => exact ⟨fun m hm => absurd hm (by simp), List.Pairwise.nil⟩
    | some t => exact til_in (M - u) (by omega) t (List.mem_of_getElem? ht)
  generalize ordR A (M - u) 0 = T at hT ⊢
  have htp : ∀ m ∈ T, 0 < m ∧ m < 2 ^ 36 ∧ u &&& m = 0 := fun m hm => ⟨(hT.1 m hm).2.2, hlt _ (hT.1 m hm).1, (sub_in (by omega) h1 (hT.1 m hm).2.1).2⟩
  refine ⟨h1, ?_, fun a ha => ?_⟩
  · unfold DifL
    rw [List.pairwise_append]
    refine ⟨?_, ?_, ?_⟩
    · refine h4.imp_of_mem ?_
      intro a b ha hb h
      exact lowB_ne (by have := (hkp a ha).1; omega) (hkp a ha).2.1 (by have := (hkp b hb).1; omega) (hkp b hb).2.1 h
    · unfold nl
      rw [List.pairwise_map]
      refine hT.2.imp_of_mem ?_
      intro a b ha hb h
      exact lowB_ne (htp a ha).1 (htp a ha).2.1 (htp b hb).1 (htp b hb).2.1 h
    · intro a ha b hb
      obtain ⟨m, hm, rfl⟩ := mem_nl hb
      refine lowB_ne (by have := (hkp a ha).1; omega) (hkp a ha).2.1 (htp m hm).1 (htp m hm).2.1 ?_
      apply Nat.eq_of_testBit_eq
      intro i
      have e1 := congrArg (fun n => n.testBit i) (hkp a ha).2.2.1
      have e2 := congrArg (fun n => n.testBit i) (htp m hm).2.2
      simp only [Nat.testBit_and, Nat.zero_testBit] at e1 e2
      simp only [Nat.testBit_and, Nat.zero_testBit, Int.toNat_natCast]
      revert e1 e2
      cases a.toNat.testBit i <;> cases m.testBit i <;> cases u.testBit i <;> simp
  · rcases List.mem_append.1 ha with ha | ha
    · exact ⟨(hkp a ha).1, (hkp a ha).2.1⟩
    · obtain ⟨m, hm, rfl⟩ := mem_nl ha
      have := htp m hm
      exact ⟨by omega, by simpa using this.2.1⟩
end Go.Proofs.YtelneohlpljblaaGreatDoor
