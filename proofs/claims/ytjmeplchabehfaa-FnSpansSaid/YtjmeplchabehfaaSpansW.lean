
/-
  The helpers of the law FnSpans: lists compared, cells looked for.
-/
import Derived.Test.YtjmeplchabehfaaWayP
import Derived.Test.YtjmeplchabehfaaDraw
namespace Go.Proofs.Ytjmeplchabehfaa
open Go.RowKit

set_option maxRecDepth 100000 in
theorem big_no {v : Value} {l : List UInt8} (w : World) (h : BytesRd w 0 w.heap.size v l) (hl : l.length ≤ 1048576) :
    Calls Try.prog 25 #[v] w fun e w' => e = .returned (.bool false) ∧ w = w' := by
  obtain ⟨A, c, rfl, hm, hr⟩ := h
  have hd : decide ((1048576 : Int) < (l.length : Int)) = false := by simp; omega
  clear hr
  go_enter Try.func25, Try.ntmps25
  go_wp2
  go_ret
  exact ⟨rfl, rfl⟩
set_option maxRecDepth 100000 in
theorem big_yes {v : Value} {l : List UInt8} (w : World) (h : BytesRd w 0 w.heap.size v l) (hl : 1048576 < l.length) :
    Calls Try.prog 25 #[v] w fun e w' => e = .returned (.bool true) ∧ w = w' := by
  obtain ⟨A, c, rfl, hm, hr⟩ := h
  have hd : decide ((1048576 : Int) < (l.length : Int)) = true := by simp; omega
  clear hr
  go_enter Try.func25, Try.ntmps25
  go_wp2
  go_ret
  exact ⟨rfl, rfl⟩

set_option maxRecDepth 100000 in
set_option maxHeartbeats 800000 in
theorem spec_eqShapes_same {v v' : Value} {l : List Cell} (w : World) (h : CellsRd w 0 w.heap.size v l) (h' : CellsRd w 0 w.heap.size v' l) :
    Calls Try.prog 36 #[v, v'] w fun e w' => e = .returned (.bool true) ∧ Below w.heap.size w w' := by
  obtain ⟨A, c, rfl, hm, hr⟩ := h
  obtain ⟨A', c', rfl, hm', hr'⟩ := h'
  unfold maxLen at hm
  clear hm'
  go_enter Try.func36, Try.ntmps36
  go_wp2
  go_loopw [5] (fun i wr => ∃ k : Nat, k ≤ l.length ∧ i = .int .i64 k ∧ Below w.heap.size w wr) (fun i _ => l.length - (intOf i).toNat)
  case atStart => exact ⟨0, Nat.zero_le _, rfl, Below.refl _ _⟩
  case round =>
    obtain ⟨k, hk, rfl, hbel⟩ := hrel
    by_cases hlt : k < l.length
    · obtain ⟨b, off, a, rfl, _, hb, hla, q1, q2⟩ := (hr.below hbel (Nat.le_refl _)).at2 hlt
      obtain ⟨b', off', a', rfl, _, hb', hla', q1', q2'⟩ := (hr'.below hbel (Nat.le_refl _)).at2 hlt
      obtain rfl : a = a' := by rw [hla] at hla'; injection hla'
      have heq : ∀ n, (Op.equal 62 (.agg #[.int .i64 a.x, .int .i64 a.y]) (.agg #[.int .i64 a.x, .int .i64 a.y])).run Try.prog (wr.drewN n) = .ok true (wr.drewN n) := fun n => by have := run_equal_cell (wr.drewN n) a a; rw [decide_eq_true rfl] at this; exact this
      clear hr hr' hla hla'
      go_wp2_with fail
      go_quiet (fail)
      have hbel2 := below_drewN hbel nq
      generalize wr.drewN nq = w2 at *
      clear heq q1 q2 q1' q2'
      go_wp2
      go_roundw
      case rel => exact ⟨k + 1, by omega, by go_num, hbel2⟩
      case measure => simp [intOf]; omega
    · go_wp2
      go_ret
      exact ⟨rfl, hbel⟩

set_option maxRecDepth 100000 in
set_option maxHeartbeats 800000 in
theorem laws_sameInts_same {v v' : Value} {l : List Int} (w : World) (h : IntsRd w 0 w.heap.size v l) (h' : IntsRd w 0 w.heap.size v' l) :
    Calls Try.prog 43 #[v, v'] w fun e w' => e = .returned (.bool true) ∧ Below w.heap.size w w' := by
  obtain ⟨A, c, rfl, hm, hr⟩ := h
  obtain ⟨A', c', rfl, hm', hr'⟩ := h'
  unfold maxLen at hm
  clear hm'
  go_enter Try.func43, Try.ntmps43
  go_wp2
  go_loopw [5] (fun i wr => ∃ k : Nat, k ≤ l.length ∧ i = .int .i64 k ∧ Below w.heap.size w wr) (fun i _ => l.length - (intOf i).toNat)
  case atStart => exact ⟨0, Nat.zero_le _, rfl, Below.refl _ _⟩
  case round =>
    obtain ⟨k, hk, rfl, hbel⟩ := hrel
    by_cases hlt : k < l.length
    · obtain ⟨b, off, a, rfl, _, hb, hla, q1⟩ := Rd.at1 (f := fun n : Int => .int .i64 n) (hr.below hbel (Nat.le_refl _)) hlt
      obtain ⟨b', off', a', rfl, _, hb', hla', q1'⟩ := Rd.at1 (f := fun n : Int => .int .i64 n) (hr'.below hbel (Nat.le_refl _)) hlt
      obtain rfl : a = a' := by rw [hla] at hla'; injection hla'
      clear hr hr' hla hla'
      go_wp2_with fail
      go_quiet (fail)
      have hbel2 := below_drewN hbel nq
      generalize wr.drewN nq = w2 at *
      clear q1 q1'
      go_wp2
      go_roundw
      case rel => exact ⟨k + 1, by omega, by go_num, hbel2⟩
      case measure => simp [intOf]; omega
    · go_wp2
      go_ret
      exact ⟨rfl, hbel⟩

set_option maxRecDepth 100000 in
set_option maxHeartbeats 1600000 in
theorem impl_hasCell_c {v : Value} {l : List Cell} (x y : Int) (w : World) (h : CellsRd w 0 w.heap.size v l) (hl : l.length ≤ 1048576) :
    Calls Try.prog 40 #[v, .int .i64 x, .int .i64 y] w fun e w' => e = .returned (.bool (decide ((⟨x, y⟩ : Cell) ∈ l))) ∧ Below w.heap.size w w' := by
  obtain ⟨A, c, rfl, hm, hr⟩ := h
  obtain ⟨R, hR⟩ : ∃ R, R = decide ((⟨x, y⟩ : Cell) ∈ l) := ⟨_, rfl⟩
  rw [← hR]
  have hyes : ∀ (k : Nat) (d : Cell), l[k]? = some d → d.x = x → d.y = y → R = true := fun k d hd h1 h2 => by
    rw [hR]
    exact decide_eq_true (by rw [← h1, ← h2]; exact List.mem_of_getElem? hd)
  have hno : (∀ (k : Nat) (d : Cell), k < l.length → l[k]? = some d → ¬ (d.x = x ∧ d.y = y)) → R = false := fun h => by
    rw [hR]
    refine decide_eq_false fun hm => ?_
    obtain ⟨k, hk, e⟩ := List.getElem_of_mem hm
    exact h k ⟨x, y⟩ hk (by rw [List.getElem?_eq_getElem hk, e]) ⟨rfl, rfl⟩
  have HY := Lib.hid hyes
  have HN := Lib.hid hno
  clear hR hyes hno
  go_enter Try.func40, Try.ntmps40
  go_wp2
  go_loopw [11] (fun i wr => ∃ k : Nat, k ≤ l.length ∧ i = .int .i64 k ∧ Below w.heap.size w wr ∧ Hid (∀ (j : Nat) (d : Cell), j < k → l[j]? = some d → ¬ (d.x = x ∧ d.y = y))) (fun i _ => l.length - (intOf i).toNat)
  case atStart => exact ⟨0, Nat.zero_le _, rfl, Below.refl _ _, Lib.hid fun j d h => absurd h (by omega)⟩
  case round =>
    obtain ⟨k, hk, rfl, hbel, HA⟩ := hrel
    by_cases hlt : k < l.length
    · obtain ⟨b, off, d, rfl, _, hb, hd, q1, q2⟩ := (hr.below hbel (Nat.le_refl _)).at2 hlt
      have HD := Lib.hid hd
      have hb2 : Below w.heap.size w (wr.alloc (.cells #[.int .i64 d.x, .int .i64 d.y] 62)) := hbel.trans (((Below.refl _ _).alloc (Nat.le_refl _) _).mono hbel.size)
      clear hr hd
      by_cases hx : d.x = x
      · by_cases hy : d.y = y
        · have := HY.out k d HD.out hx hy
          subst this
          subst hx
          subst hy
          go_wp2
          go_ret
          exact ⟨rfl, hb2⟩
        · subst hx
          go_wp2
          go_roundw
          case rel => exact ⟨k + 1, by omega, by go_num, hb2, Lib.hid fun j d' hj hd' => by
            by_cases e : j = k
            · subst e; rw [HD.out] at hd'; injection hd' with hd'; subst hd'; exact fun h => hy h.2
            · exact HA.out j d' (by omega) hd'⟩
          case measure => simp [intOf]; omega
      · go_wp2
        go_roundw
        case rel => exact ⟨k + 1, by omega, by go_num, hb2, Lib.hid fun j d' hj hd' => by
          by_cases e : j = k
          · subst e; rw [HD.out] at hd'; injection hd' with hd'; subst hd'; exact fun h => hx h.1
          · exact HA.out j d' (by omega) hd'⟩
        case measure => simp [intOf]; omega
    · have hkn : k = l.length := by omega
      subst hkn
      have := HN.out HA.out
      subst this
      go_wp2
      go_ret
      exact ⟨rfl, hbel⟩
end Go.Proofs.Ytjmeplchabehfaa
