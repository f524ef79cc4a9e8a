/-
  The walks of 'UndoEdits': the program's and the reference's.
-/
import Derived.Test.YtlncpkdkdhnfeaaLawEds
namespace Go.Proofs.Ytlncpkdkdhnfeaa
open Go.RowKit

def undo (l : List Ed) : List Ed := (l.map fun e => ⟨!e.add, e.x, e.y⟩).reverse
theorem undo_length {l : List Ed} : (undo l).length = l.length := by simp [undo]
theorem undo_step {l : List Ed} {k : Nat} {a : Ed} (hk : k < l.length) (ha : l[l.length - 1 - k]? = some a) : (undo l).take (k + 1) = (undo l).take k ++ [⟨!a.add, a.x, a.y⟩] := by
  have hk' : k < (undo l).length := by rw [undo_length]; exact hk
  rw [List.take_succ_eq_append_getElem hk']
  congr 1
  rw [List.getElem?_eq_some_iff] at ha
  obtain ⟨h1, h2⟩ := ha
  simp [undo, List.getElem_reverse, h2]

set_option maxHeartbeats 800000 in
theorem impl_undo (A : Option Addr) (n c : Nat) (l : List Ed) (w : World) (hn : n ≤ 1048576) (hr : Rd w 0 w.heap.size 3 A n (edc l)) :
    Calls Try.prog 14 #[.slice A n c] w fun e w' => ∃ v, e = .returned v ∧ w'.ownsRow w.heap.size 53 3 v n (edc (undo l)) ∧ Below w.heap.size w w' := by
  obtain ⟨i0, hi, hz0, hz1, hz2⟩ := info_parts infoEdit
  have hll : l.length = n := by have := hr.1; rw [edc_length] at this; omega
  have Hll := Lib.hid hll
  clear hll
  go_enter Try.func14, Try.ntmps14
  go_wp2
  go_loopw [3, 4] (fun v i wr => ∃ k : Nat, k ≤ n ∧ i = .int .i64 ((n : Int) - 1 - (k : Int)) ∧ wr.ownsRow w.heap.size 53 3 v k (edc ((undo l).take k)) ∧ Below w.heap.size w wr) (fun _ i _ => (intOf i + 1).toNat)
  case atStart =>
    exact ⟨0, Nat.zero_le _, by go_num, World.ownsRow_nil _ _ _ _, Below.refl _ _⟩
  case round =>
    obtain ⟨k, hk, rfl, hown, hbel⟩ := hrel
    by_cases hlt : k < n
    · obtain ⟨b, off, a, rfl, _, hb, hla, q1, q2, q3⟩ := (hr.below hbel (Nat.le_refl _)).at3 (k := n - 1 - k) (by omega)
      have Hla := Lib.hid hla
      clear hr hla
      have e1 : (0 : Int) ≤ (n : Int) - 1 - (k : Int) := by omega
      obtain ⟨m, hm⟩ : ∃ m : Nat, m = n - 1 - k := ⟨_, rfl⟩
      rw [← hm] at q1 q2 q3
      have e2 : (n : Int) - 1 - (k : Int) = (m : Int) := by omega
      rw [e2] at e1
      have HM := Lib.hid hm
      rw [e2]
      have HE := Lib.hid e2
      have hmn : m < n := by omega
      clear e2 hm
      go_wp2_with fail
      have hne : u3.ownBlock ≠ some b := fun e => by have := own_ge hown b e; omega
      have hbr : b < wr.heap.size := by have := hbel.size; omega
      have hsz := hbel.size
      go_region_held3 (fun w' => w'.cell? ⟨b, off + m * 3, none⟩ = some (.bool a.add) ∧ w'.cell? ⟨b, off + m * 3 + 1, none⟩ = some (.int .i64 a.x) ∧ w'.cell? ⟨b, off + m * 3 + 2, none⟩ = some (.int .i64 a.y))
        (first
          | go_keep
          | (go_split_ands
             refine ⟨?_, ?_, ?_⟩ <;> (rw [grown_cell hgrow (by simp; omega) hne]; assumption)))
        ((refine step_append_own rfl _ _ 26 (by rfl) w.heap.size 53 i0 _ 3 24 Try.underlying26 hi hz0 hz1 hz2 rfl (by decide) _ _ _ (by rfl) ((hown.alloc _).drew) ⟨wr.heap.size, 0, none⟩ 1 1 [.bool !a.add, .int .i64 a.x, .int .i64 a.y] (by rfl) (by rfl) (fun j u h => news_alloc wr #[.bool !a.add, .int .i64 a.x, .int .i64 a.y] _ j u h) (by intro u hu; simp at hu; rcases hu with rfl | rfl | rfl <;> rfl) (by unfold maxLen; omega) (by omega) (by simp; omega) ?_; intro v' w1 hown1 hgrow _))
      have hown3 : w1.ownsRow w.heap.size 53 3 v' (k + 1) (edc ((undo l).take (k + 1))) := by
        rw [undo_step (a := a) (by rw [Hll.out]; omega) (by rw [Hll.out]; exact Hla.out), edc_append]
        exact hown1
      have hbel3 : Below w.heap.size w w1 := (below_drew (hbel.alloc (by omega) _)).grown hgrow (by simp; omega) (own_ge hown)
      clear hown1 hgrow hown
      go_wp2
      go_roundw
      case rel => exact ⟨k + 1, by omega, by have := HE.out; go_num, hown3, hbel3⟩
      case measure => simp [intOf]
    · go_wp2
      go_ret
      have hkn : k = n := by omega
      subst hkn
      exact ⟨_, rfl, by rw [List.take_of_length_le (by rw [undo_length, Hll.out]; exact Nat.le_refl _)] at hown; exact hown, hbel⟩

theorem impl_undo_c {v : Value} {x : List Ed} (w : World) (h : EdsRd w 0 w.heap.size v x) (hn : x.length ≤ 1048576) :
    Calls Try.prog 14 #[v] w fun e w' => ∃ v', e = .returned v' ∧ EdsIn w' w.heap.size w'.heap.size v' (undo x) ∧ Below w.heap.size w w' := by
  obtain ⟨A, c, rfl, hm, hr⟩ := h
  refine (impl_undo A _ c x w hn hr).mono ?_
  rintro e w' ⟨v', rfl, ho, hb⟩
  exact ⟨v', rfl, EdsIn.mk ho undo_length.symm rfl, hb⟩
set_option maxHeartbeats 800000 in
theorem spec_undo (A : Option Addr) (n c : Nat) (l : List Ed) (w : World) (hn : n ≤ 1048576) (hr : Rd w 0 w.heap.size 3 A n (edc l)) :
    Calls Try.prog 12 #[.slice A n c] w fun e w' => ∃ v, e = .returned v ∧ w'.ownsRow w.heap.size 53 3 v n (edc (undo l)) ∧ Below w.heap.size w w' := by
  obtain ⟨i0, hi, hz0, hz1, hz2⟩ := info_parts infoEdit
  have hll : l.length = n := by have := hr.1; rw [edc_length] at this; omega
  have Hll := Lib.hid hll
  clear hll
  go_enter Try.func12, Try.ntmps12
  go_wp2
  go_loopw [3, 4] (fun v i wr => ∃ k : Nat, k ≤ n ∧ i = .int .i64 ((n : Int) - 1 - (k : Int)) ∧ wr.ownsRow w.heap.size 53 3 v k (edc ((undo l).take k)) ∧ Below w.heap.size w wr) (fun _ i _ => (intOf i + 1).toNat)
  case atStart =>
    exact ⟨0, Nat.zero_le _, by go_num, own_zero (Blk.new _ _ _) (Nat.le_refl _), (Below.refl _ _).alloc (Nat.le_refl _) _⟩
  case round =>
    obtain ⟨k, hk, rfl, hown, hbel⟩ := hrel
    by_cases hlt : k < n
    · obtain ⟨b, off, a, rfl, _, hb, hla, q1, q2, q3⟩ := (hr.below hbel (Nat.le_refl _)).at3 (k := n - 1 - k) (by omega)
      have Hla := Lib.hid hla
      clear hr hla
      have e1 : (0 : Int) ≤ (n : Int) - 1 - (k : Int) := by omega
      obtain ⟨m, hm⟩ : ∃ m : Nat, m = n - 1 - k := ⟨_, rfl⟩
      rw [← hm] at q1 q2 q3
      have e2 : (n : Int) - 1 - (k : Int) = (m : Int) := by omega
      rw [e2] at e1
      have HM := Lib.hid hm
      rw [e2]
      have HE := Lib.hid e2
      have hmn : m < n := by omega
      clear e2 hm
      go_wp2_with fail
      have hne : u3.ownBlock ≠ some b := fun e => by have := own_ge hown b e; omega
      have hbr : b < wr.heap.size := by have := hbel.size; omega
      have hsz := hbel.size
      go_region_held3 (fun w' => w'.cell? ⟨b, off + m * 3, none⟩ = some (.bool a.add) ∧ w'.cell? ⟨b, off + m * 3 + 1, none⟩ = some (.int .i64 a.x) ∧ w'.cell? ⟨b, off + m * 3 + 2, none⟩ = some (.int .i64 a.y))
        (first
          | go_keep
          | (go_split_ands
             refine ⟨?_, ?_, ?_⟩ <;> (rw [grown_cell hgrow (by simp; omega) hne]; assumption)))
        ((refine step_append_own rfl _ _ 26 (by rfl) w.heap.size 53 i0 _ 3 24 Try.underlying26 hi hz0 hz1 hz2 rfl (by decide) _ _ _ (by rfl) ((hown.alloc _).drew) ⟨wr.heap.size, 0, none⟩ 1 1 [.bool !a.add, .int .i64 a.x, .int .i64 a.y] (by rfl) (by rfl) (fun j u h => news_alloc wr #[.bool !a.add, .int .i64 a.x, .int .i64 a.y] _ j u h) (by intro u hu; simp at hu; rcases hu with rfl | rfl | rfl <;> rfl) (by unfold maxLen; omega) (by omega) (by simp; omega) ?_; intro v' w1 hown1 hgrow _))
      have hown3 : w1.ownsRow w.heap.size 53 3 v' (k + 1) (edc ((undo l).take (k + 1))) := by
        rw [undo_step (a := a) (by rw [Hll.out]; omega) (by rw [Hll.out]; exact Hla.out), edc_append]
        exact hown1
      have hbel3 : Below w.heap.size w w1 := (below_drew (hbel.alloc (by omega) _)).grown hgrow (by simp; omega) (own_ge hown)
      clear hown1 hgrow hown
      go_wp2
      go_roundw
      case rel => exact ⟨k + 1, by omega, by have := HE.out; go_num, hown3, hbel3⟩
      case measure => simp [intOf]
    · go_wp2
      go_ret
      have hkn : k = n := by omega
      subst hkn
      exact ⟨_, rfl, by rw [List.take_of_length_le (by rw [undo_length, Hll.out]; exact Nat.le_refl _)] at hown; exact hown, hbel⟩

theorem spec_undo_c {v : Value} {x : List Ed} (w : World) (h : EdsRd w 0 w.heap.size v x) (hn : x.length ≤ 1048576) :
    Calls Try.prog 12 #[v] w fun e w' => ∃ v', e = .returned v' ∧ EdsIn w' w.heap.size w'.heap.size v' (undo x) ∧ Below w.heap.size w w' := by
  obtain ⟨A, c, rfl, hm, hr⟩ := h
  refine (spec_undo A _ c x w hn hr).mono ?_
  rintro e w' ⟨v', rfl, ho, hb⟩
  exact ⟨v', rfl, EdsIn.mk ho undo_length.symm rfl, hb⟩
end Go.Proofs.Ytlncpkdkdhnfeaa
