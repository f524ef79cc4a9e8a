
/-
  Wang tiles: what is valid, what fits. The walks of both 'AreWang' and of both tests of fitting.
-/
import Derived.Test.YtjoglffhdoneoaaGreatDoorEqV
import Derived.Test.YtjoglffhdoneoaaGreatDoorCwWalks
import Derived.IntWalk
namespace Go.Proofs.YtjoglffhdoneoaaGreatDoor
open Go.RowKit

def inW (a b c : Int) : Bool := decide (b ≤ a) && decide (a ≤ c)
theorem inW_iff {a b c : Int} : inW a b c = true ↔ b ≤ a ∧ a ≤ c := by simp [inW]
set_option maxRecDepth 100000 in
theorem between_w (a b c : Int) (w : World) : Calls Tryz.prog 88 #[.int .i64 a, .int .i64 b, .int .i64 c] w fun e w' => e = .returned (.bool (inW a b c)) ∧ w = w' := between_any a b c w
set_option maxRecDepth 100000 in
theorem l1In_w (a b c : Int) (w : World) : Calls Tryz.prog 83 #[.int .i64 a, .int .i64 b, .int .i64 c] w fun e w' => e = .returned (.bool (inW a b c)) ∧ w = w' := l1In_any a b c w
def okT (t : Wg) : Bool := inW t.top 0 3 && inW t.right 0 3 && inW t.bottom 0 3 && inW t.left 0 3
def areW (l : List Wg) : Bool := l.all okT && inW l.length 1 6
theorem areW_no {l : List Wg} {k : Nat} {t : Wg} (h : l[k]? = some t) (ho : okT t = false) : areW l = false := by
  unfold areW
  have : l.all okT = false := by
    rw [List.all_eq_false]
    exact ⟨t, List.mem_of_getElem? h, by simp [ho]⟩
  rw [this, Bool.false_and]
theorem areW_end {l : List Wg} (h : ∀ (k : Nat) (t : Wg), k < l.length → l[k]? = some t → okT t = true) : areW l = inW l.length 1 6 := by
  unfold areW
  have : l.all okT = true := by
    rw [List.all_eq_true]
    intro t ht
    obtain ⟨k, hk, rfl⟩ := List.getElem_of_mem ht
    exact h k _ hk (List.getElem?_eq_getElem hk)
  rw [this, Bool.true_and]
theorem upto_succ {α : Type} {l : List α} {k : Nat} {t : α} {P : α → Prop} (h : ∀ (j : Nat) (t : α), j < k → l[j]? = some t → P t) (hk : l[k]? = some t) (ht : P t) : ∀ (j : Nat) (t : α), j < k + 1 → l[j]? = some t → P t := by
  intro j u hj hu
  by_cases e : j = k
  · subst e; rw [hk] at hu; injection hu with hu; subst hu; exact ht
  · exact h j u (by omega) hu

set_option maxRecDepth 100000 in
theorem l18Color_c (c : Int) (w : World) : Calls Tryz.prog 110 #[.int .i64 c] w fun e w' => e = .returned (.bool (inW c 0 3)) ∧ w = w' := by
  go_enter Tryz.func110, Tryz.ntmps110
  go_wp2_with fail
  refine (l1In_w c 0 3 w).mono ?_
  rintro e w' ⟨rfl, rfl⟩
  go_wp2
  go_ret
  exact ⟨rfl, rfl⟩

set_option maxRecDepth 100000 in
set_option maxHeartbeats 1600000 in
theorem spec_areW_c {v : Value} {l : List Wg} (w : World) (h : WangsRd w 0 w.heap.size v l) :
    Calls Tryz.prog 84 #[v] w fun e w' => e = .returned (.bool (areW l)) ∧ Below w.heap.size w w' := by
  obtain ⟨A, c, rfl, hm, hr⟩ := h
  unfold maxLen at hm
  obtain ⟨R, hR⟩ : ∃ R, R = areW l := ⟨_, rfl⟩
  rw [← hR]
  have HNO := Lib.hid (show ∀ (k : Nat) (t : Wg), l[k]? = some t → okT t = false → R = false from fun k t h1 h2 => by rw [hR]; exact areW_no h1 h2)
  have HEN := Lib.hid (show (∀ (k : Nat) (t : Wg), k < l.length → l[k]? = some t → okT t = true) → R = inW l.length 1 6 from fun h => by rw [hR]; exact areW_end h)
  clear hR
  go_enter Tryz.func84, Tryz.ntmps84
  go_wp2
  go_loopw [3] (fun i wr => ∃ k : Nat, k ≤ l.length ∧ i = .int .i64 k ∧ Hid (∀ (j : Nat) (t : Wg), j < k → l[j]? = some t → okT t = true) ∧ wr = w) (fun i _ => l.length - (intOf i).toNat)
  case atStart => exact ⟨0, Nat.zero_le _, rfl, Lib.hid (fun j _ h => absurd h (by omega)), rfl⟩
  case round =>
    obtain ⟨k, hk, rfl, HK, rfl⟩ := hrel
    by_cases hlt : k < l.length
    · obtain ⟨b, off, t, rfl, _, hb, hla, q1, q2, q3, q4⟩ := hr.at4 hlt
      have HLA := Lib.hid hla
      clear hr hla
      cases h1 : inW t.top 0 3
      · skip
        obtain rfl : R = false := HNO.out k t HLA.out (by simp [okT, h1])
        go_wp2_with (go_at_call 110; refine (l18Color_c _ _).mono ?_; rintro e w' ⟨rfl, rfl⟩)
        go_ret
        exact ⟨rfl, Below.refl _ _⟩
      cases h2 : inW t.right 0 3
      · skip
        obtain rfl : R = false := HNO.out k t HLA.out (by simp [okT, h2])
        go_wp2_with (go_at_call 110; refine (l18Color_c _ _).mono ?_; rintro e w' ⟨rfl, rfl⟩)
        go_ret
        exact ⟨rfl, Below.refl _ _⟩
      cases h3 : inW t.bottom 0 3
      · skip
        obtain rfl : R = false := HNO.out k t HLA.out (by simp [okT, h3])
        go_wp2_with (go_at_call 110; refine (l18Color_c _ _).mono ?_; rintro e w' ⟨rfl, rfl⟩)
        go_ret
        exact ⟨rfl, Below.refl _ _⟩
      cases h4 : inW t.left 0 3
      · skip
        obtain rfl : R = false := HNO.out k t HLA.out (by simp [okT, h4])
        go_wp2_with (go_at_call 110; refine (l18Color_c _ _).mono ?_; rintro e w' ⟨rfl, rfl⟩)
        go_ret
        exact ⟨rfl, Below.refl _ _⟩
      have hok : okT t = true := by simp [okT, h1, h2, h3, h4]
      have hk2 := upto_succ (P := fun t => okT t = true) HK.out HLA.out hok
      have HK2 := Lib.hid hk2
      clear hk2 hok
      go_wp2_with (go_at_call 110; refine (l18Color_c _ _).mono ?_; rintro e w' ⟨rfl, rfl⟩)
      go_roundw
      case rel => exact ⟨k + 1, by omega, by go_num, HK2, trivial⟩
      case measure => simp [intOf]; omega
    · obtain rfl : k = l.length := by omega
      have hRe := HEN.out HK.out
      subst hRe
      go_wp2_with (go_at_call 83; refine (l1In_w _ _ _ _).mono ?_; rintro e w' ⟨rfl, rfl⟩)
      go_ret
      exact ⟨rfl, Below.refl _ _⟩

/-- a tile's colors -/
def cols (t : Wg) : List Int := [t.top, t.right, t.bottom, t.left]
theorem cols_all {t : Wg} (h : ∀ (j : Nat) (c : Int), j < 4 → (cols t)[j]? = some c → inW c 0 3 = true) : okT t = true := by
  simp [okT, h 0 t.top (by omega) rfl, h 1 t.right (by omega) rfl, h 2 t.bottom (by omega) rfl, h 3 t.left (by omega) rfl]
theorem cols_no {t : Wg} {j : Nat} {c : Int} (h : (cols t)[j]? = some c) (hc : inW c 0 3 = false) : okT t = false := by
  have hj : j < 4 := by have := (List.getElem?_eq_some_iff.1 h).1; simpa [cols] using this
  have hj' : j = 0 ∨ j = 1 ∨ j = 2 ∨ j = 3 := by omega
  rcases hj' with rfl | rfl | rfl | rfl <;> simp [cols] at h <;> subst h <;> simp [okT, hc]
set_option maxRecDepth 100000 in
set_option maxHeartbeats 3200000 in
theorem impl_areW_c {v : Value} {l : List Wg} (w : World) (h : WangsRd w 0 w.heap.size v l) :
    Calls Tryz.prog 55 #[v] w fun e w' => e = .returned (.bool (areW l)) ∧ Below w.heap.size w w' := by
  obtain ⟨A, c, rfl, hm, hr⟩ := h
  unfold maxLen at hm
  obtain ⟨R, hR⟩ : ∃ R, R = areW l := ⟨_, rfl⟩
  rw [← hR]
  have HNO := Lib.hid (show ∀ (k : Nat) (t : Wg), l[k]? = some t → okT t = false → R = false from fun k t h1 h2 => by rw [hR]; exact areW_no h1 h2)
  have HEN := Lib.hid (show (∀ (k : Nat) (t : Wg), k < l.length → l[k]? = some t → okT t = true) → R = inW l.length 1 6 from fun h => by rw [hR]; exact areW_end h)
  clear hR
  go_enter Tryz.func55, Tryz.ntmps55
  go_wp2
  go_loopw [9] (fun i wr => ∃ k : Nat, k ≤ l.length ∧ i = .int .i64 k ∧ Hid (∀ (j : Nat) (t : Wg), j < k → l[j]? = some t → okT t = true) ∧ Below w.heap.size w wr) (fun i _ => l.length - (intOf i).toNat)
  case atStart => exact ⟨0, Nat.zero_le _, rfl, Lib.hid (fun j _ h => absurd h (by omega)), Below.refl _ _⟩
  case round =>
    obtain ⟨k, hk, rfl, HK, hbel⟩ := hrel
    by_cases hlt : k < l.length
    · obtain ⟨b, off, t, rfl, _, hb, hla, q1, q2, q3, q4⟩ := (hr.below hbel (Nat.le_refl _)).at4 hlt
      have HLA := Lib.hid hla
      have H := ((Sep.start wr).box 105 #[.int .i64 t.top, .int .i64 t.right, .int .i64 t.bottom, .int .i64 t.left]).rowBox 3 #[.int .i64 t.top, .int .i64 t.right, .int .i64 t.bottom, .int .i64 t.left] 1 4 rfl (by decide)
      simp only [World.size_alloc] at H
      clear hr hla
      go_wp2
      clear q1 q2 q3 q4
      generalize (wr.alloc (.cells #[.int .i64 t.top, .int .i64 t.right, .int .i64 t.bottom, .int .i64 t.left] 105)).alloc (.cells #[.int .i64 t.top, .int .i64 t.right, .int .i64 t.bottom, .int .i64 t.left] 3) = W at *
      have hB := hbel.trans (H.below.mono hbel.size)
      replace H : Sep wr W (Res.row (.slice (some ⟨wr.heap.size + 1, 0, none⟩) 4 4) 3 1 4 (ic (cols t)) :: _) := H
      obtain ⟨wo, hwo⟩ : ∃ wo : World, wo = W := ⟨_, rfl⟩
      subst hwo
      go_loopw [23] (fun i wx => ∃ j : Nat, j ≤ 4 ∧ i = .int .i64 j ∧ Hid (∀ (m : Nat) (c : Int), m < j → (cols t)[m]? = some c → inW c 0 3 = true) ∧ wx = wo) (fun i _ => 4 - (intOf i).toNat)
      case atStart => exact ⟨0, by omega, rfl, Lib.hid (fun j _ h => absurd h (by omega)), rfl⟩
      case round =>
        obtain ⟨j, hj, rfl, HJ, rfl⟩ := hrel
        by_cases hj4 : j < 4
        · have hcl : (cols t).length = 4 := rfl
          obtain ⟨x, hx⟩ : ∃ x, (cols t)[j]? = some x := ⟨_, List.getElem?_eq_getElem (by rw [hcl]; exact hj4)⟩
          have q0 := own_cell1 H.h0 hx
          rw [Nat.zero_add] at q0
          have HX := Lib.hid hx
          clear hx hcl
          cases hc : inW x 0 3
          · obtain rfl : R = false := HNO.out k t HLA.out (cols_no HX.out hc)
            go_wp2_with (go_at_call 88; refine (between_w _ _ _ _).mono ?_; rintro e w' ⟨rfl, rfl⟩)
            go_ret
            exact ⟨rfl, hB⟩
          · have hk2 := upto_succ (P := fun c => inW c 0 3 = true) HJ.out HX.out hc
            have HJ2 := Lib.hid hk2
            clear hk2
            go_wp2_with (go_at_call 88; refine (between_w _ _ _ _).mono ?_; rintro e w' ⟨rfl, rfl⟩)
            go_roundw
            case rel => exact ⟨j + 1, by omega, by go_num, HJ2, trivial⟩
            case measure => simp [intOf]; omega
        · obtain rfl : j = 4 := by omega
          have hok := cols_all HJ.out
          have hk2 := upto_succ (P := fun t => okT t = true) HK.out HLA.out hok
          have HK2 := Lib.hid hk2
          clear hk2 hok
          go_wp2
          go_roundw
          case rel => exact ⟨k + 1, by omega, by go_num, HK2, hB⟩
          case measure => simp [intOf]; omega
    · obtain rfl : k = l.length := by omega
      have hRe := HEN.out HK.out
      subst hRe
      go_wp2_with (go_at_call 88; refine (between_w _ _ _ _).mono ?_; rintro e w' ⟨rfl, rfl⟩)
      go_ret
      exact ⟨rfl, hbel⟩
theorem Rd.shapeT {w : World} {lo hi n : Nat} {A : Option Addr} {l : List Wg} (hr : Rd w lo hi 4 A n (wgc l)) (hn : 0 < n) : ∃ b off, A = some ⟨b, off, none⟩ ∧ b < hi ∧ ∀ k, k < n → ∃ t, l[k]? = some t ∧ w.cell? ⟨b, off + k * 4, none⟩ = some (.int .i64 t.top) ∧ w.cell? ⟨b, off + k * 4 + 1, none⟩ = some (.int .i64 t.right) ∧ w.cell? ⟨b, off + k * 4 + 2, none⟩ = some (.int .i64 t.bottom) ∧ w.cell? ⟨b, off + k * 4 + 3, none⟩ = some (.int .i64 t.left) := by
  obtain ⟨b, off, x, e, h1, h2, h3, _⟩ := hr.at4 hn
  refine ⟨b, off, e, h2, fun k hk => ?_⟩
  obtain ⟨b', off', x', e', h1', h2', h3', h4'⟩ := hr.at4 hk
  rw [e] at e'
  injection e' with e'
  injection e' with e1 e2 _
  subst e1 e2
  exact ⟨x', h3', h4'⟩
end Go.Proofs.YtjoglffhdoneoaaGreatDoor
