
/-
  The law's own search across the board: its helpers.
-/
import Derived.Test.YtjmeplchabehfaaWayB
namespace Go.Proofs.Ytjmeplchabehfaa
open Go.RowKit

set_option maxRecDepth 100000 in
set_option maxHeartbeats 1600000 in
theorem hasCell_c {v : Value} {l : List Cell} (x y : Int) (w : World) (h : CellsRd w 0 w.heap.size v l) (hl : l.length ≤ 1000000) :
    Calls Try.prog 108 #[v, .int .i64 x, .int .i64 y] w fun e w' => e = .returned (.bool (decide ((⟨x, y⟩ : Cell) ∈ l))) ∧ Below w.heap.size w w' := by
  obtain ⟨A, c, rfl, hm, hr⟩ := h
  obtain ⟨R, hR⟩ : ∃ R, R = decide ((⟨x, y⟩ : Cell) ∈ l) := ⟨_, rfl⟩
  rw [← hR]
  have hyes : ∀ (k : Nat) (d : Cell), l[k]? = some d → d.x = x → d.y = y → R = true := fun k d hd h1 h2 => by
    rw [hR]
    exact decide_eq_true (by rw [← h1, ← h2]; exact List.mem_of_getElem? hd)
  have hno : (∀ (k : Nat) (d : Cell), k < l.length → l[k]? = some d → ¬ (d.x = x ∧ d.y = y)) → R = false := fun h => by
    rw [hR]
    refine decide_eq_false fun hm => ?_
    obtain ⟨k, hk, e⟩ := List.getElem_of_mem hm
    exact h k ⟨x, y⟩ hk (by rw [List.getElem?_eq_getElem hk, e]) ⟨rfl, rfl⟩
  have HY := Lib.hid hyes
  have HN := Lib.hid hno
  clear hR hyes hno
  go_enter Try.func108, Try.ntmps108
  go_wp2
  go_loopw [7] (fun i wr => ∃ k : Nat, k ≤ l.length ∧ i = .int .i64 k ∧ wr = w ∧ Hid (∀ (j : Nat) (d : Cell), j < k → l[j]? = some d → ¬ (d.x = x ∧ d.y = y))) (fun i _ => l.length - (intOf i).toNat)
  case atStart => exact ⟨0, Nat.zero_le _, rfl, rfl, Lib.hid fun j d h => absurd h (by omega)⟩
  case round =>
    obtain ⟨k, hk, rfl, rfl, HA⟩ := hrel
    by_cases hlt : k < l.length
    · obtain ⟨b, off, d, rfl, _, hb, hd, q1, q2⟩ := hr.at2 hlt
      have HD := Lib.hid hd
      clear hr hd
      by_cases hx : d.x = x
      · by_cases hy : d.y = y
        · have := HY.out k d HD.out hx hy
          subst this
          subst hx
          subst hy
          go_wp2
          go_ret
          exact ⟨rfl, Below.refl _ _⟩
        · subst hx
          go_wp2
          go_roundw
          case rel => exact ⟨k + 1, by omega, by go_num, trivial, Lib.hid fun j d' hj hd' => by
            by_cases e : j = k
            · subst e; rw [HD.out] at hd'; injection hd' with hd'; subst hd'; exact fun h => hy h.2
            · exact HA.out j d' (by omega) hd'⟩
          case measure => simp [intOf]; omega
      · go_wp2
        go_roundw
        case rel => exact ⟨k + 1, by omega, by go_num, trivial, Lib.hid fun j d' hj hd' => by
          by_cases e : j = k
          · subst e; rw [HD.out] at hd'; injection hd' with hd'; subst hd'; exact fun h => hx h.1
          · exact HA.out j d' (by omega) hd'⟩
        case measure => simp [intOf]; omega
    · have hkn : k = l.length := by omega
      subst hkn
      have := HN.out HA.out
      subst this
      go_wp2
      go_ret
      exact ⟨rfl, Below.refl _ _⟩

def nearB (a b : Cell) : Bool := (a.x - b.x) * (a.x - b.x) + (a.y - b.y) * (a.y - b.y) == 1
set_option maxRecDepth 100000 in
set_option maxHeartbeats 800000 in
theorem near_c (a b : Cell) (w : World) (hx1 : -1 ≤ a.x - b.x) (hx2 : a.x - b.x ≤ 1) (hy1 : -1 ≤ a.y - b.y) (hy2 : a.y - b.y ≤ 1) :
    Calls Try.prog 107 #[cv a, cv b] w fun e w' => e = .returned (.bool (nearB a b)) ∧ Below w.heap.size w w' := by
  obtain ⟨R, hR⟩ : ∃ R, R = nearB a b := ⟨_, rfl⟩
  rw [← hR]
  unfold nearB at hR
  obtain ⟨ax, ay⟩ := a
  obtain ⟨bx, bY⟩ := b
  simp only at hx1 hx2 hy1 hy2 hR
  unfold cv
  have hbel : Below w.heap.size w ((w.alloc (.cells #[.int .i64 ax, .int .i64 ay] 62)).alloc (.cells #[.int .i64 bx, .int .i64 bY] 62)) := ((Below.refl _ _).alloc (Nat.le_refl _) _).alloc (by simp) _
  have d1 : (ax - bx) * (ax - bx) ≤ 1 := by
    have : ax - bx = -1 ∨ ax - bx = 0 ∨ ax - bx = 1 := by omega
    rcases this with e | e | e <;> rw [e] <;> decide
  have d2 : (ay - bY) * (ay - bY) ≤ 1 := by
    have : ay - bY = -1 ∨ ay - bY = 0 ∨ ay - bY = 1 := by omega
    rcases this with e | e | e <;> rw [e] <;> decide
  have d3 : 0 ≤ (ax - bx) * (ax - bx) := by
    have : ax - bx = -1 ∨ ax - bx = 0 ∨ ax - bx = 1 := by omega
    rcases this with e | e | e <;> rw [e] <;> decide
  have d4 : 0 ≤ (ay - bY) * (ay - bY) := by
    have : ay - bY = -1 ∨ ay - bY = 0 ∨ ay - bY = 1 := by omega
    rcases this with e | e | e <;> rw [e] <;> decide
  have HR := Lib.hid hR
  clear hR
  go_enter Try.func107, Try.ntmps107
  go_wp2
  go_ret
  exact ⟨by rw [HR.out]; rfl, hbel⟩
end Go.Proofs.Ytjmeplchabehfaa
