
/-
  The walks over edits: the law's helpers. The walks of 'UndoEdits': the program's and the reference's. Have two regions the same grid? Plain, and the program's walk. The walk of the program's 'EditsBetween'. Edits, plain: what is undone leads back, edits between regions lead there.
-/
import Derived.Test.YtoccedebiacbiaaDoorProg
import Derived.Test.YtoccedebiacbiaaDoorKinds
import Derived.Test.YtoccedebiacbiaaDoorRegX
import Derived.Test.YtoccedebiacbiaaDoorCellX
import Derived.Test.YtoccedebiacbiaaDoorFlipX
namespace Go.Proofs.YtoccedebiacbiaaDoor
open Go.RowKit

end Go.Proofs.YtoccedebiacbiaaDoor

namespace Go.Proofs.YtoccedebiacbiaaDoor
open Go.RowKit

def undo (l : List Ed) : List Ed := (l.map fun e => ⟨!e.add, e.x, e.y⟩).reverse
theorem undo_length {l : List Ed} : (undo l).length = l.length := by simp [undo]
theorem undo_step {l : List Ed} {k : Nat} {a : Ed} (hk : k < l.length) (ha : l[l.length - 1 - k]? = some a) : (undo l).take (k + 1) = (undo l).take k ++ [⟨!a.add, a.x, a.y⟩] := by
  have hk' : k < (undo l).length := by rw [undo_length]; exact hk
  rw [List.take_succ_eq_append_getElem hk']
  congr 1
  rw [List.getElem?_eq_some_iff] at ha
  obtain ⟨h1, h2⟩ := ha
  simp [undo, List.getElem_reverse, h2]

end Go.Proofs.YtoccedebiacbiaaDoor

namespace Go.Proofs.YtoccedebiacbiaaDoor
open Go.RowKit

def sameGrid (a b : Reg) : Bool := a.valid && b.valid && decide (a.w = b.w) && decide (a.rows.length = b.rows.length)
end Go.Proofs.YtoccedebiacbiaaDoor

namespace Go.Proofs.YtoccedebiacbiaaDoor
open Go.RowKit

def betw1 (ad : Bool) (b : Reg) (l : List Cell) : List Ed := (l.filter fun c => !b.has c.x c.y).map fun c => ⟨ad, c.x, c.y⟩
def betw (a b : Reg) : List Ed := if sameGrid a b = true then betw1 false b a.cells ++ betw1 true a b.cells else []
theorem betw1_take {ad : Bool} {b : Reg} {l : List Cell} {k : Nat} {c : Cell} (h : l[k]? = some c) : betw1 ad b (l.take (k + 1)) = betw1 ad b (l.take k) ++ if b.has c.x c.y = true then [] else [⟨ad, c.x, c.y⟩] := by
  unfold betw1
  have hk := (List.getElem?_eq_some_iff.1 h).1
  have e : l[k] = c := (List.getElem?_eq_some_iff.1 h).2
  rw [List.take_succ_eq_append_getElem hk, List.filter_append, List.map_append, e]
  congr 1
  cases hq : b.has c.x c.y <;> simp [hq]
theorem betw1_le {ad : Bool} {b : Reg} {l : List Cell} {k : Nat} : (betw1 ad b (l.take k)).length ≤ k := by
  unfold betw1
  rw [List.length_map]
  exact Nat.le_trans (List.length_filter_le _ _) (List.length_take_le _ _)
theorem betw1_all {ad : Bool} {b : Reg} {l : List Cell} : (betw1 ad b l).length ≤ l.length := by
  unfold betw1
  rw [List.length_map]
  exact List.length_filter_le _ _
theorem betw_length {a b : Reg} : (betw a b).length ≤ 72 := by
  unfold betw
  split
  · rename_i h
    simp only [sameGrid, Bool.and_eq_true] at h
    have h1 := Reg.cells_le (Reg.valid_iff.1 h.1.1.1)
    have h2 := Reg.cells_le (Reg.valid_iff.1 h.1.1.2)
    have h3 := betw1_all (ad := false) (b := b) (l := a.cells)
    have h4 := betw1_all (ad := true) (b := a) (l := b.cells)
    rw [List.length_append]; omega
  · simp

end Go.Proofs.YtoccedebiacbiaaDoor

namespace Go.Proofs.YtoccedebiacbiaaDoor
open Go.RowKit

theorem reg_ext {a b : Reg} (ha : a.Valid) (hb : b.Valid) (hw : a.w = b.w) (hl : a.rows.length = b.rows.length) (h : ∀ x y : Nat, (x : Int) < a.w → y < a.rows.length → a.has x y = b.has x y) : a = b := by
  obtain ⟨aw, ar⟩ := a
  obtain ⟨bw, br⟩ := b
  simp only at hw hl
  subst hw
  congr 1
  refine List.ext_getElem hl fun y h1 h2 => ?_
  have r1 := Reg.row_lt ha y
  have r2 := Reg.row_lt hb y
  have p1 := ha.2.2.2.2 _ (List.getElem_mem h1)
  have p2 := hb.2.2.2.2 _ (List.getElem_mem h2)
  have q : Reg.row ⟨aw, ar⟩ y = Reg.row ⟨aw, br⟩ y := by
    apply Nat.eq_of_testBit_eq
    intro x
    by_cases hx : (x : Int) < aw
    · have := h x y hx h1
      rw [Reg.has_eq (r := ⟨aw, ar⟩) hx h1, Reg.has_eq (r := ⟨aw, br⟩) hx h2] at this
      exact this
    · simp only at r1 r2
      rw [Nat.testBit_lt_two_pow (Nat.lt_of_lt_of_le r1 (Nat.pow_le_pow_right (by decide) (by omega))), Nat.testBit_lt_two_pow (Nat.lt_of_lt_of_le r2 (Nat.pow_le_pow_right (by decide) (by omega)))]
  unfold Reg.row at q
  simp only [List.getD_eq_getElem?_getD, List.getElem?_eq_getElem h1, List.getElem?_eq_getElem h2, Option.getD_some] at q
  omega
theorem hasE_in {r : Reg} {x y : Int} (h : r.has x y = true) : 0 ≤ x ∧ x < r.w ∧ 0 ≤ y ∧ y < r.rows.length := by
  unfold Reg.has at h
  rw [Bool.and_eq_true] at h
  exact of_decide_eq_true h.1
theorem flip_row {r : Reg} {x y y' : Nat} (hy : y < r.rows.length) : (r.flip x y).row y' = if y' = y then r.row y ^^^ 2 ^ x else r.row y' := by
  unfold Reg.flip Reg.row
  simp only [List.getD_eq_getElem?_getD]
  split
  · rename_i h
    subst h
    rw [List.getElem?_set_self hy]
    simp
  · rename_i h
    rw [List.getElem?_set_ne (fun e => h e.symm)]
theorem flip_has {r : Reg} {x y : Nat} (hx : (x : Int) < r.w) (hy : y < r.rows.length) (a b : Int) : (r.flip x y).has a b = xor (r.has a b) (decide ((x : Int) = a) && decide ((y : Int) = b)) := by
  by_cases hin : 0 ≤ a ∧ a < r.w ∧ 0 ≤ b ∧ b < r.rows.length
  · obtain ⟨i, rfl⟩ := Int.eq_ofNat_of_zero_le hin.1
    obtain ⟨j, rfl⟩ := Int.eq_ofNat_of_zero_le hin.2.2.1
    have hj : j < r.rows.length := by omega
    rw [Reg.has_eq (r := r.flip x y) hin.2.1 (by rw [Reg.flip_len]; exact hj), Reg.has_eq hin.2.1 hj, flip_row hy]
    split
    · rename_i h
      subst h
      rw [Nat.testBit_xor, Nat.testBit_two_pow]
      congr 1
      simp
      omega
    · rename_i h
      have e : decide ((y : Int) = (j : Int)) = false := by simp; omega
      rw [e, Bool.and_false, Bool.xor_false]
  · rw [Reg.has_out hin, Reg.has_out (r := r.flip x y) (by rw [Reg.flip_len]; exact hin)]
    have e : (decide ((x : Int) = a) && decide ((y : Int) = b)) = false := by
      rw [Bool.and_eq_false_iff]
      by_cases h : (x : Int) = a
      · right; simp; omega
      · left; simp [h]
    rw [e]
    rfl
theorem flip_flip {r : Reg} (hv : r.Valid) {x y : Nat} (hx : (x : Int) < r.w) (hy : y < r.rows.length) : (r.flip x y).flip x y = r := by
  have h1 := Reg.flip_valid (y := y) hv hx
  refine reg_ext (Reg.flip_valid (r := r.flip x y) h1 hx) hv rfl (by rw [Reg.flip_len, Reg.flip_len]) fun a b ha hb => ?_
  rw [flip_has (r := r.flip x y) hx (by rw [Reg.flip_len]; exact hy), flip_has hx hy]
  cases r.has a b <;> cases (decide ((x : Int) = (a : Int)) && decide ((y : Int) = (b : Int))) <;> rfl
theorem inn_iff {r : Reg} {x y : Int} : r.inn x y = true ↔ 0 ≤ x ∧ x < r.w ∧ 0 ≤ y ∧ y < r.rows.length := by simp [Reg.inn]
theorem apply1_some {r : Reg} {e : Ed} (h1 : r.inn e.x e.y = true) (h2 : r.has e.x e.y = !e.add) : r.apply1 e = some (r.flip e.x.toNat e.y.toNat) := by
  unfold Reg.apply1
  rw [h1, h2]
  cases e.add <;> rfl
theorem apply1_is {r r' : Reg} {e : Ed} (h : r.apply1 e = some r') : r.inn e.x e.y = true ∧ r.has e.x e.y = !e.add ∧ r' = r.flip e.x.toNat e.y.toNat := by
  unfold Reg.apply1 at h
  split at h
  · rename_i hc
    injection h with h
    rw [Bool.and_eq_true] at hc
    refine ⟨hc.1, ?_, h.symm⟩
    have := hc.2
    revert this
    cases r.has e.x e.y <;> cases e.add <;> simp
  · cases h
theorem apply1_undo {r r' : Reg} {e : Ed} (hv : r.Valid) (h : r.apply1 e = some r') : r'.apply1 ⟨!e.add, e.x, e.y⟩ = some r := by
  obtain ⟨h1, h2, rfl⟩ := apply1_is h
  have hi := inn_iff.1 h1
  have hx : ((e.x.toNat : Nat) : Int) < r.w := by omega
  have hy : e.y.toNat < r.rows.length := by omega
  rw [apply1_some, flip_flip hv hx hy]
  · rw [inn_iff, Reg.flip_len]; exact hi
  · rw [flip_has hx hy, h2]
    have e1 : decide (((e.x.toNat : Nat) : Int) = e.x) = true := by simp; omega
    have e2 : decide (((e.y.toNat : Nat) : Int) = e.y) = true := by simp; omega
    simp only [e1, e2]
    cases e.add <;> rfl
theorem applyTo_cons {r : Reg} {e : Ed} {l : List Ed} : r.applyTo (e :: l) = (r.apply1 e).bind fun r' => r'.applyTo l := by
  unfold Reg.applyTo
  rw [List.foldlM_cons]
  rfl
theorem applyTo_app {r : Reg} {a b : List Ed} : r.applyTo (a ++ b) = (r.applyTo a).bind fun r' => r'.applyTo b := by
  unfold Reg.applyTo
  rw [List.foldlM_append]
  rfl
theorem undo_cons {e : Ed} {l : List Ed} : undo (e :: l) = undo l ++ [⟨!e.add, e.x, e.y⟩] := by simp [undo]
theorem undo_len {l : List Ed} : (undo l).length = l.length := by simp [undo]
theorem applyTo_undo : ∀ (l : List Ed) (r y : Reg), r.Valid → r.applyTo l = some y → y.applyTo (undo l) = some r ∧ y.Valid ∧ y.rows.length = r.rows.length
  | [], r, y, hv, h => by injection h with h; subst h; exact ⟨rfl, hv, rfl⟩
  | e :: l, r, y, hv, h => by
    rw [applyTo_cons] at h
    cases ha : r.apply1 e with
    | none => rw [ha] at h; cases h
    | some r' =>
      rw [ha] at h
      have hr' := Reg.apply1_valid hv ha
      obtain ⟨h1, h2, h3⟩ := applyTo_undo l r' y hr'.1 h
      refine ⟨?_, h2, h3.trans hr'.2.2⟩
      rw [undo_cons, applyTo_app, h1]
      show r'.applyTo [_] = some r
      rw [applyTo_cons, apply1_undo hv ha]
      rfl
/-- edits that are undone lead back -/
theorem applyEds_undo {r y : Reg} {l : List Ed} (h : r.applyEds l = some y) : y.applyEds (undo l) = some r ∧ y.rows.length ≤ 6 := by
  unfold Reg.applyEds at h
  split at h
  · rename_i hc
    rw [Bool.and_eq_true] at hc
    have hv := Reg.valid_iff.1 hc.1
    obtain ⟨h1, h2, h3⟩ := applyTo_undo l r y hv h
    refine ⟨?_, h2.2.2.2.1⟩
    unfold Reg.applyEds
    rw [Reg.valid_iff.2 h2, undo_len, hc.2, h1]
    rfl
  · cases h
def atE (x y : Int) (e : Ed) : Bool := decide (e.x = x) && decide (e.y = y)
theorem atE_iff {x y : Int} {e : Ed} : atE x y e = true ↔ e.x = x ∧ e.y = y := by simp [atE]
theorem applyTo_fit : ∀ (L : List Ed) (r : Reg), r.Valid → (∀ e ∈ L, r.inn e.x e.y = true ∧ r.has e.x e.y = !e.add) → L.Pairwise (fun a b => ¬ (a.x = b.x ∧ a.y = b.y)) →
    ∃ c, r.applyTo L = some c ∧ c.Valid ∧ c.w = r.w ∧ c.rows.length = r.rows.length ∧ ∀ x y : Int, c.has x y = xor (r.has x y) (L.any (atE x y))
  | [], r, hv, _, _ => ⟨r, rfl, hv, rfl, rfl, fun x y => by simp⟩
  | e :: L, r, hv, h, hp => by
    rw [List.pairwise_cons] at hp
    obtain ⟨h1, h2⟩ := h e (List.mem_cons_self ..)
    have hi := inn_iff.1 h1
    have hx : ((e.x.toNat : Nat) : Int) < r.w := by omega
    have hy : e.y.toNat < r.rows.length := by omega
    have hfl : ∀ x y : Int, (r.flip e.x.toNat e.y.toNat).has x y = xor (r.has x y) (atE x y e) := fun x y => by
      rw [flip_has hx hy]
      unfold atE
      rw [Int.toNat_of_nonneg hi.1, Int.toNat_of_nonneg hi.2.2.1]
    have ha := apply1_some h1 h2
    obtain ⟨hv1, hw1, hl1⟩ := Reg.apply1_valid hv ha
    obtain ⟨c, c1, c2, c3, c4, c5⟩ := applyTo_fit L (r.flip e.x.toNat e.y.toNat) hv1 (fun e' he' => by
      obtain ⟨g1, g2⟩ := h e' (List.mem_cons_of_mem _ he')
      refine ⟨?_, ?_⟩
      · rw [inn_iff, hw1, hl1]; exact inn_iff.1 g1
      · rw [hfl, g2]
        have : atE e'.x e'.y e = false := by
          cases hq : atE e'.x e'.y e
          · rfl
          · exact absurd (atE_iff.1 hq) (hp.1 e' he')
        rw [this, Bool.xor_false]) hp.2
    refine ⟨c, by rw [applyTo_cons, ha]; exact c1, c2, c3.trans hw1, c4.trans hl1, fun x y => ?_⟩
    rw [c5, hfl, List.any_cons]
    cases hq : atE x y e
    · simp
    · have : L.any (atE x y) = false := by
        rw [List.any_eq_false]
        intro e' he' hq'
        have q1 := atE_iff.1 hq
        have q2 := atE_iff.1 hq'
        exact hp.1 e' he' ⟨q1.1.trans q2.1.symm, q1.2.trans q2.2.symm⟩
      rw [this]
      cases r.has x y <;> rfl
theorem cells_nodup {r : Reg} : r.cells.Nodup := by
  unfold Reg.cells Reg.cellsTo
  unfold List.Nodup
  rw [List.pairwise_flatMap]
  refine ⟨fun y _ => ?_, ?_⟩
  · unfold Reg.rowTo
    refine List.Pairwise.map _ ?_ (List.nodup_range.sublist List.filter_sublist)
    intro a b hab h
    injection h with h1 h2
    exact hab (by omega)
  · refine List.nodup_range.imp_of_mem ?_
    intro a b _ _ hab
    intro c hc d hd e
    unfold Reg.rowTo at hc hd
    obtain ⟨i, _, rfl⟩ := List.mem_map.1 hc
    obtain ⟨j, _, rfl⟩ := List.mem_map.1 hd
    injection e with e1 e2
    exact hab (by omega)
def grid36 : List Cell := (List.range 6).flatMap fun y : Nat => (List.range 6).map fun x : Nat => ⟨(x : Int), (y : Int)⟩
theorem mem_grid36 {c : Cell} (h1 : 0 ≤ c.x ∧ c.x < 6) (h2 : 0 ≤ c.y ∧ c.y < 6) : c ∈ grid36 := by
  unfold grid36
  refine List.mem_flatMap.2 ⟨c.y.toNat, List.mem_range.2 (by omega), List.mem_map.2 ⟨c.x.toNat, List.mem_range.2 (by omega), ?_⟩⟩
  rw [Int.toNat_of_nonneg h1.1, Int.toNat_of_nonneg h2.1]
theorem mem_betw1 {ad : Bool} {b : Reg} {l : List Cell} {e : Ed} : e ∈ betw1 ad b l ↔ e.add = ad ∧ (⟨e.x, e.y⟩ : Cell) ∈ l ∧ b.has e.x e.y = false := by
  unfold betw1
  rw [List.mem_map]
  constructor
  · rintro ⟨c, hc, rfl⟩
    rw [List.mem_filter] at hc
    exact ⟨rfl, hc.1, by simpa using hc.2⟩
  · rintro ⟨h1, h2, h3⟩
    refine ⟨⟨e.x, e.y⟩, List.mem_filter.2 ⟨h2, by simpa using h3⟩, ?_⟩
    rw [← h1]
theorem betw1_pw {ad : Bool} {b r : Reg} : (betw1 ad b r.cells).Pairwise fun a b => ¬ (a.x = b.x ∧ a.y = b.y) := by
  unfold betw1
  refine List.Pairwise.map _ ?_ (cells_nodup.sublist List.filter_sublist)
  intro a b hab h
  obtain ⟨x, y⟩ := a
  obtain ⟨x', y'⟩ := b
  exact hab (by simp only at h; rw [h.1, h.2])
theorem sameGrid_is {a b : Reg} (h : sameGrid a b = true) : a.Valid ∧ b.Valid ∧ a.w = b.w ∧ a.rows.length = b.rows.length := by
  simp only [sameGrid, Bool.and_eq_true, decide_eq_true_eq, Reg.valid_iff] at h
  obtain ⟨⟨⟨h1, h2⟩, h3⟩, h4⟩ := h
  exact ⟨h1, h2, h3, h4⟩
/-- edits between regions lead there -/
theorem betw_leads {a b : Reg} (h : sameGrid a b = true) : a.applyEds (betw a b) = some b := by
  obtain ⟨va, vb, hw, hl⟩ := sameGrid_is h
  have hb : betw a b = betw1 false b a.cells ++ betw1 true a b.cells := by unfold betw; rw [if_pos h]
  have hfit : ∀ e ∈ betw a b, a.inn e.x e.y = true ∧ a.has e.x e.y = !e.add := fun e he => by
    rw [hb] at he
    rcases List.mem_append.1 he with he | he
    · obtain ⟨h1, h2, h3⟩ := mem_betw1.1 he
      have h4 := Reg.cells_mem.1 h2
      exact ⟨inn_iff.2 (hasE_in h4), by rw [h1]; exact h4⟩
    · obtain ⟨h1, h2, h3⟩ := mem_betw1.1 he
      have h4 := hasE_in (Reg.cells_mem.1 h2)
      exact ⟨inn_iff.2 (by rw [hw, hl]; exact h4), by rw [h1]; exact h3⟩
  have hpw : (betw a b).Pairwise fun a b => ¬ (a.x = b.x ∧ a.y = b.y) := by
    rw [hb, List.pairwise_append]
    refine ⟨betw1_pw, betw1_pw, fun e he e' he' hq => ?_⟩
    have h4 := Reg.cells_mem.1 (mem_betw1.1 he).2.1
    have h5 := (mem_betw1.1 he').2.2
    simp only at h4
    rw [hq.1, hq.2, h5] at h4
    cases h4
  have hlen : (betw a b).length ≤ 40 := by
    have h1 : ((betw a b).map fun e => (⟨e.x, e.y⟩ : Cell)).Nodup := by
      refine List.Pairwise.map _ ?_ hpw
      intro p q hpq he
      injection he with e1 e2
      exact hpq ⟨e1, e2⟩
    have h2 := nodup_len (G := grid36) h1 fun c hc => by
      obtain ⟨e, he, rfl⟩ := List.mem_map.1 hc
      have hi := inn_iff.1 (hfit e he).1
      obtain ⟨v1, v2, v3, v4, _⟩ := va
      exact mem_grid36 (c := ⟨e.x, e.y⟩) (by simp only; omega) (by simp only; omega)
    have h3 : grid36.length = 36 := by rfl
    rw [List.length_map] at h2
    omega
  obtain ⟨c, c1, c2, c3, c4, c5⟩ := applyTo_fit (betw a b) a va hfit hpw
  have hc : c = b := reg_ext c2 vb (c3.trans hw) (c4.trans hl) fun x y _ _ => by
    rw [c5]
    have hany : (betw a b).any (atE (x : Int) (y : Int)) = xor (a.has x y) (b.has x y) := by
      rw [Bool.eq_iff_iff, List.any_eq_true]
      constructor
      · rintro ⟨e, he, hq⟩
        obtain ⟨q1, q2⟩ := atE_iff.1 hq
        rw [hb] at he
        rw [← q1, ← q2]
        rcases List.mem_append.1 he with he | he
        · have h4 := Reg.cells_mem.1 (mem_betw1.1 he).2.1
          rw [h4, (mem_betw1.1 he).2.2]; rfl
        · have h4 := Reg.cells_mem.1 (mem_betw1.1 he).2.1
          rw [h4, (mem_betw1.1 he).2.2]; rfl
      · intro hx
        cases h1 : a.has x y <;> cases h2 : b.has x y
        · rw [h1, h2] at hx; cases hx
        · exact ⟨⟨true, x, y⟩, by rw [hb]; exact List.mem_append_right _ (mem_betw1.2 ⟨rfl, Reg.cells_mem.2 h2, h1⟩), atE_iff.2 ⟨rfl, rfl⟩⟩
        · exact ⟨⟨false, x, y⟩, by rw [hb]; exact List.mem_append_left _ (mem_betw1.2 ⟨rfl, Reg.cells_mem.2 h1, h2⟩), atE_iff.2 ⟨rfl, rfl⟩⟩
        · rw [h1, h2] at hx; cases hx
    rw [hany]
    cases a.has x y <;> cases b.has x y <;> rfl
  unfold Reg.applyEds
  rw [Reg.valid_iff.2 va, decide_eq_true hlen, c1, hc]
  rfl
end Go.Proofs.YtoccedebiacbiaaDoor
