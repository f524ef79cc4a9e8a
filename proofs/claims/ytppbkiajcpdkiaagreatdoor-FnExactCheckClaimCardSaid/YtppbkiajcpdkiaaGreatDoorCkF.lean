
/-
  Wang tiles: what is valid, what fits. The walks of both 'AreWang' and of both tests of fitting. Wang tiles laid row by row: the walks of both tests of fitting. Wang tiles: the walk of the program's test of fitting. Wang tiles: fills that fit around; the search for them in plain Lean; the walks of both tests. Wang tiles: the walk of the reference's test of a fill that was laid by fitting tiles. IsWangFill and IsPeriodicFill for any fill: plain, and both walks.
-/
import Derived.Test.YtppbkiajcpdkiaaGreatDoorEqV
import Derived.Test.YtppbkiajcpdkiaaGreatDoorCwWalks
import Derived.IntWalk
import Derived.Test.YtppbkiajcpdkiaaGreatDoorSepX
import Derived.Deep.DeepCutAuto
namespace Go.Proofs.YtppbkiajcpdkiaaGreatDoor
open Go.RowKit

def inW (a b c : Int) : Bool := decide (b ≤ a) && decide (a ≤ c)
theorem inW_iff {a b c : Int} : inW a b c = true ↔ b ≤ a ∧ a ≤ c := by simp [inW]
set_option maxRecDepth 100000 in
theorem between_w (a b c : Int) (w : World) : Calls Tryz.prog 99 #[.int .i64 a, .int .i64 b, .int .i64 c] w fun e w' => e = .returned (.bool (inW a b c)) ∧ w = w' := between_any a b c w
set_option maxRecDepth 100000 in
theorem l1In_w (a b c : Int) (w : World) : Calls Tryz.prog 36 #[.int .i64 a, .int .i64 b, .int .i64 c] w fun e w' => e = .returned (.bool (inW a b c)) ∧ w = w' := l1In_any a b c w
def okT (t : Wg) : Bool := inW t.top 0 3 && inW t.right 0 3 && inW t.bottom 0 3 && inW t.left 0 3
def areW (l : List Wg) : Bool := l.all okT && inW l.length 1 6
theorem areW_no {l : List Wg} {k : Nat} {t : Wg} (h : l[k]? = some t) (ho : okT t = false) : areW l = false := by
  unfold areW
  have : l.all okT = false := by
    rw [List.all_eq_false]
    exact ⟨t, List.mem_of_getElem? h, by simp [ho]⟩
  rw [this, Bool.false_and]
theorem areW_end {l : List Wg} (h : ∀ (k : Nat) (t : Wg), k < l.length → l[k]? = some t → okT t = true) : areW l = inW l.length 1 6 := by
  unfold areW
  have : l.all okT = true := by
    rw [List.all_eq_true]
    intro t ht
    obtain ⟨k, hk, rfl⟩ := List.getElem_of_mem ht
    exact h k _ hk (List.getElem?_eq_getElem hk)
  rw [this, Bool.true_and]
theorem upto_succ {α : Type} {l : List α} {k : Nat} {t : α} {P : α → Prop} (h : ∀ (j : Nat) (t : α), j < k → l[j]? = some t → P t) (hk : l[k]? = some t) (ht : P t) : ∀ (j : Nat) (t : α), j < k + 1 → l[j]? = some t → P t := by
  intro j u hj hu
  by_cases e : j = k
  · subst e; rw [hk] at hu; injection hu with hu; subst hu; exact ht
  · exact h j u (by omega) hu

set_option maxRecDepth 100000 in
theorem l18Color_c (c : Int) (w : World) : Calls Tryz.prog 197 #[.int .i64 c] w fun e w' => e = .returned (.bool (inW c 0 3)) ∧ w = w' := by
  go_enter Tryz.func197, Tryz.ntmps197
  go_wp2_with fail
  refine (l1In_w c 0 3 w).mono ?_
  rintro e w' ⟨rfl, rfl⟩
  go_wp2
  go_ret
  exact ⟨rfl, rfl⟩

set_option maxRecDepth 100000 in
set_option maxHeartbeats 1600000 in
theorem spec_areW_c {v : Value} {l : List Wg} (w : World) (h : WangsRd w 0 w.heap.size v l) :
    Calls Tryz.prog 172 #[v] w fun e w' => e = .returned (.bool (areW l)) ∧ Below w.heap.size w w' := by
  obtain ⟨A, c, rfl, hm, hr⟩ := h
  unfold maxLen at hm
  obtain ⟨R, hR⟩ : ∃ R, R = areW l := ⟨_, rfl⟩
  rw [← hR]
  have HNO := Lib.hid (show ∀ (k : Nat) (t : Wg), l[k]? = some t → okT t = false → R = false from fun k t h1 h2 => by rw [hR]; exact areW_no h1 h2)
  have HEN := Lib.hid (show (∀ (k : Nat) (t : Wg), k < l.length → l[k]? = some t → okT t = true) → R = inW l.length 1 6 from fun h => by rw [hR]; exact areW_end h)
  clear hR
  go_enter Tryz.func172, Tryz.ntmps172
  go_wp2
  go_loopw [3] (fun i wr => ∃ k : Nat, k ≤ l.length ∧ i = .int .i64 k ∧ Hid (∀ (j : Nat) (t : Wg), j < k → l[j]? = some t → okT t = true) ∧ wr = w) (fun i _ => l.length - (intOf i).toNat)
  case atStart => exact ⟨0, Nat.zero_le _, rfl, Lib.hid (fun j _ h => absurd h (by omega)), rfl⟩
  case round =>
    obtain ⟨k, hk, rfl, HK, rfl⟩ := hrel
    by_cases hlt : k < l.length
    · obtain ⟨b, off, t, rfl, _, hb, hla, q1, q2, q3, q4⟩ := hr.at4 hlt
      have HLA := Lib.hid hla
      clear hr hla
      cases h1 : inW t.top 0 3
      · skip
        obtain rfl : R = false := HNO.out k t HLA.out (by simp [okT, h1])
        go_wp2_with (go_at_call 197; refine (l18Color_c _ _).mono ?_; rintro e w' ⟨rfl, rfl⟩)
        go_ret
        exact ⟨rfl, Below.refl _ _⟩
      cases h2 : inW t.right 0 3
      · skip
        obtain rfl : R = false := HNO.out k t HLA.out (by simp [okT, h2])
        go_wp2_with (go_at_call 197; refine (l18Color_c _ _).mono ?_; rintro e w' ⟨rfl, rfl⟩)
        go_ret
        exact ⟨rfl, Below.refl _ _⟩
      cases h3 : inW t.bottom 0 3
      · skip
        obtain rfl : R = false := HNO.out k t HLA.out (by simp [okT, h3])
        go_wp2_with (go_at_call 197; refine (l18Color_c _ _).mono ?_; rintro e w' ⟨rfl, rfl⟩)
        go_ret
        exact ⟨rfl, Below.refl _ _⟩
      cases h4 : inW t.left 0 3
      · skip
        obtain rfl : R = false := HNO.out k t HLA.out (by simp [okT, h4])
        go_wp2_with (go_at_call 197; refine (l18Color_c _ _).mono ?_; rintro e w' ⟨rfl, rfl⟩)
        go_ret
        exact ⟨rfl, Below.refl _ _⟩
      have hok : okT t = true := by simp [okT, h1, h2, h3, h4]
      have hk2 := upto_succ (P := fun t => okT t = true) HK.out HLA.out hok
      have HK2 := Lib.hid hk2
      clear hk2 hok
      go_wp2_with (go_at_call 197; refine (l18Color_c _ _).mono ?_; rintro e w' ⟨rfl, rfl⟩)
      go_roundw
      case rel => exact ⟨k + 1, by omega, by go_num, HK2, trivial⟩
      case measure => simp [intOf]; omega
    · obtain rfl : k = l.length := by omega
      have hRe := HEN.out HK.out
      subst hRe
      go_wp2_with (go_at_call 36; refine (l1In_w _ _ _ _).mono ?_; rintro e w' ⟨rfl, rfl⟩)
      go_ret
      exact ⟨rfl, Below.refl _ _⟩

/-- a tile's colors -/
def cols (t : Wg) : List Int := [t.top, t.right, t.bottom, t.left]
theorem cols_all {t : Wg} (h : ∀ (j : Nat) (c : Int), j < 4 → (cols t)[j]? = some c → inW c 0 3 = true) : okT t = true := by
  simp [okT, h 0 t.top (by omega) rfl, h 1 t.right (by omega) rfl, h 2 t.bottom (by omega) rfl, h 3 t.left (by omega) rfl]
theorem cols_no {t : Wg} {j : Nat} {c : Int} (h : (cols t)[j]? = some c) (hc : inW c 0 3 = false) : okT t = false := by
  have hj : j < 4 := by have := (List.getElem?_eq_some_iff.1 h).1; simpa [cols] using this
  have hj' : j = 0 ∨ j = 1 ∨ j = 2 ∨ j = 3 := by omega
  rcases hj' with rfl | rfl | rfl | rfl <;> simp [cols] at h <;> subst h <;> simp [okT, hc]
set_option maxRecDepth 100000 in
set_option maxHeartbeats 3200000 in
theorem impl_areW_c {v : Value} {l : List Wg} (w : World) (h : WangsRd w 0 w.heap.size v l) :
    Calls Tryz.prog 179 #[v] w fun e w' => e = .returned (.bool (areW l)) ∧ Below w.heap.size w w' := by
  obtain ⟨A, c, rfl, hm, hr⟩ := h
  unfold maxLen at hm
  obtain ⟨R, hR⟩ : ∃ R, R = areW l := ⟨_, rfl⟩
  rw [← hR]
  have HNO := Lib.hid (show ∀ (k : Nat) (t : Wg), l[k]? = some t → okT t = false → R = false from fun k t h1 h2 => by rw [hR]; exact areW_no h1 h2)
  have HEN := Lib.hid (show (∀ (k : Nat) (t : Wg), k < l.length → l[k]? = some t → okT t = true) → R = inW l.length 1 6 from fun h => by rw [hR]; exact areW_end h)
  clear hR
  go_enter Tryz.func179, Tryz.ntmps179
  go_wp2
  go_loopw [9] (fun i wr => ∃ k : Nat, k ≤ l.length ∧ i = .int .i64 k ∧ Hid (∀ (j : Nat) (t : Wg), j < k → l[j]? = some t → okT t = true) ∧ Below w.heap.size w wr) (fun i _ => l.length - (intOf i).toNat)
  case atStart => exact ⟨0, Nat.zero_le _, rfl, Lib.hid (fun j _ h => absurd h (by omega)), Below.refl _ _⟩
  case round =>
    obtain ⟨k, hk, rfl, HK, hbel⟩ := hrel
    by_cases hlt : k < l.length
    · obtain ⟨b, off, t, rfl, _, hb, hla, q1, q2, q3, q4⟩ := (hr.below hbel (Nat.le_refl _)).at4 hlt
      have HLA := Lib.hid hla
      have H := ((Sep.start wr).box 132 #[.int .i64 t.top, .int .i64 t.right, .int .i64 t.bottom, .int .i64 t.left]).rowBox 3 #[.int .i64 t.top, .int .i64 t.right, .int .i64 t.bottom, .int .i64 t.left] 1 4 rfl (by decide)
      simp only [World.size_alloc] at H
      clear hr hla
      go_wp2
      clear q1 q2 q3 q4
      generalize (wr.alloc (.cells #[.int .i64 t.top, .int .i64 t.right, .int .i64 t.bottom, .int .i64 t.left] 132)).alloc (.cells #[.int .i64 t.top, .int .i64 t.right, .int .i64 t.bottom, .int .i64 t.left] 3) = W at *
      have hB := hbel.trans (H.below.mono hbel.size)
      replace H : Sep wr W (Res.row (.slice (some ⟨wr.heap.size + 1, 0, none⟩) 4 4) 3 1 4 (ic (cols t)) :: _) := H
      obtain ⟨wo, hwo⟩ : ∃ wo : World, wo = W := ⟨_, rfl⟩
      subst hwo
      go_loopw [23] (fun i wx => ∃ j : Nat, j ≤ 4 ∧ i = .int .i64 j ∧ Hid (∀ (m : Nat) (c : Int), m < j → (cols t)[m]? = some c → inW c 0 3 = true) ∧ wx = wo) (fun i _ => 4 - (intOf i).toNat)
      case atStart => exact ⟨0, by omega, rfl, Lib.hid (fun j _ h => absurd h (by omega)), rfl⟩
      case round =>
        obtain ⟨j, hj, rfl, HJ, rfl⟩ := hrel
        by_cases hj4 : j < 4
        · have hcl : (cols t).length = 4 := rfl
          obtain ⟨x, hx⟩ : ∃ x, (cols t)[j]? = some x := ⟨_, List.getElem?_eq_getElem (by rw [hcl]; exact hj4)⟩
          have q0 := own_cell1 H.h0 hx
          rw [Nat.zero_add] at q0
          have HX := Lib.hid hx
          clear hx hcl
          cases hc : inW x 0 3
          · obtain rfl : R = false := HNO.out k t HLA.out (cols_no HX.out hc)
            go_wp2_with (go_at_call 99; refine (between_w _ _ _ _).mono ?_; rintro e w' ⟨rfl, rfl⟩)
            go_ret
            exact ⟨rfl, hB⟩
          · have hk2 := upto_succ (P := fun c => inW c 0 3 = true) HJ.out HX.out hc
            have HJ2 := Lib.hid hk2
            clear hk2
            go_wp2_with (go_at_call 99; refine (between_w _ _ _ _).mono ?_; rintro e w' ⟨rfl, rfl⟩)
            go_roundw
            case rel => exact ⟨j + 1, by omega, by go_num, HJ2, trivial⟩
            case measure => simp [intOf]; omega
        · obtain rfl : j = 4 := by omega
          have hok := cols_all HJ.out
          have hk2 := upto_succ (P := fun t => okT t = true) HK.out HLA.out hok
          have HK2 := Lib.hid hk2
          clear hk2 hok
          go_wp2
          go_roundw
          case rel => exact ⟨k + 1, by omega, by go_num, HK2, hB⟩
          case measure => simp [intOf]; omega
    · obtain rfl : k = l.length := by omega
      have hRe := HEN.out HK.out
      subst hRe
      go_wp2_with (go_at_call 99; refine (between_w _ _ _ _).mono ?_; rintro e w' ⟨rfl, rfl⟩)
      go_ret
      exact ⟨rfl, hbel⟩
theorem Rd.shapeT {w : World} {lo hi n : Nat} {A : Option Addr} {l : List Wg} (hr : Rd w lo hi 4 A n (wgc l)) (hn : 0 < n) : ∃ b off, A = some ⟨b, off, none⟩ ∧ b < hi ∧ ∀ k, k < n → ∃ t, l[k]? = some t ∧ w.cell? ⟨b, off + k * 4, none⟩ = some (.int .i64 t.top) ∧ w.cell? ⟨b, off + k * 4 + 1, none⟩ = some (.int .i64 t.right) ∧ w.cell? ⟨b, off + k * 4 + 2, none⟩ = some (.int .i64 t.bottom) ∧ w.cell? ⟨b, off + k * 4 + 3, none⟩ = some (.int .i64 t.left) := by
  obtain ⟨b, off, x, e, h1, h2, h3, _⟩ := hr.at4 hn
  refine ⟨b, off, e, h2, fun k hk => ?_⟩
  obtain ⟨b', off', x', e', h1', h2', h3', h4'⟩ := hr.at4 hk
  rw [e] at e'
  injection e' with e'
  injection e' with e1 e2 _
  subst e1 e2
  exact ⟨x', h3', h4'⟩
end Go.Proofs.YtppbkiajcpdkiaaGreatDoor

namespace Go.Proofs.YtppbkiajcpdkiaaGreatDoor
open Go.RowKit

/-- a fill: indices of tiles -/
def fc (f : List Nat) : List Int := f.map fun n : Nat => (n : Int)
theorem fc_length {f : List Nat} : (fc f).length = f.length := by simp [fc]
theorem fc_append (f g : List Nat) : fc (f ++ g) = fc f ++ fc g := by simp [fc]
theorem fc_at {f : List Nat} {k x : Nat} (h : f[k]? = some x) : (fc f)[k]? = some (x : Int) := by simp [fc, h]
theorem Rd.atF {w : World} {lo hi n k : Nat} {A : Option Addr} {f : List Nat} (hr : Rd w lo hi 1 A n (ic (fc f))) (hk : k < n) : ∃ b off x, A = some ⟨b, off, none⟩ ∧ lo ≤ b ∧ b < hi ∧ f[k]? = some x ∧ w.cell? ⟨b, off + k, none⟩ = some (.int .i64 (x : Int)) := by
  obtain ⟨b, off, a, e, h1, h2, h3, h4⟩ := Rd.at1 (f := fun n : Int => Value.int .i64 n) hr hk
  simp only [fc, List.getElem?_map, Option.map_eq_some_iff] at h3
  obtain ⟨x, hx, rfl⟩ := h3
  exact ⟨b, off, x, e, h1, h2, hx, h4⟩
def tileAt (l : List Wg) (i : Nat) : Wg := l.getD i ⟨0, 0, 0, 0⟩
theorem tileAt_of {l : List Wg} {i : Nat} {t : Wg} (h : l[i]? = some t) : tileAt l i = t := by rw [tileAt, List.getD, h]; rfl
def fitsW (l : List Wg) (w : Nat) (f : List Nat) (t : Nat) : Bool :=
  (decide (f.length % w = 0) || decide ((tileAt l (f.getD (f.length - 1) 0)).right = (tileAt l t).left)) && (decide (f.length < w) || decide ((tileAt l (f.getD (f.length - w) 0)).bottom = (tileAt l t).top))
theorem getD_of {f : List Nat} {k x : Nat} (h : f[k]? = some x) : f.getD k 0 = x := by rw [List.getD_eq_getElem?_getD, h]; rfl
theorem fits_left {l : List Wg} {w t x : Nat} {f : List Nat} {a b : Wg} (h : ¬ f.length % w = 0) (hx : f[f.length - 1]? = some x) (ha : l[x]? = some a) (hb : l[t]? = some b) (hn : ¬ a.right = b.left) : fitsW l w f t = false := by
  unfold fitsW
  rw [getD_of hx, tileAt_of ha, tileAt_of hb, decide_eq_false h, decide_eq_false hn]; rfl
theorem fits_top {l : List Wg} {w t x : Nat} {f : List Nat} {a b : Wg} (h : ¬ f.length < w) (hx : f[f.length - w]? = some x) (ha : l[x]? = some a) (hb : l[t]? = some b) (hn : ¬ a.bottom = b.top) : fitsW l w f t = false := by
  unfold fitsW
  rw [getD_of hx, tileAt_of ha, tileAt_of hb, decide_eq_false h, decide_eq_false hn, Bool.or_false, Bool.and_false]
theorem fits_yes {l : List Wg} {w t : Nat} {f : List Nat} (h1 : f.length % w = 0 ∨ ∃ x a b, f[f.length - 1]? = some x ∧ l[x]? = some a ∧ l[t]? = some b ∧ a.right = b.left) (h2 : f.length < w ∨ ∃ x a b, f[f.length - w]? = some x ∧ l[x]? = some a ∧ l[t]? = some b ∧ a.bottom = b.top) : fitsW l w f t = true := by
  unfold fitsW
  rw [Bool.and_eq_true]
  constructor
  · rcases h1 with h | ⟨x, a, b, hx, ha, hb, hn⟩
    · rw [decide_eq_true h]; rfl
    · rw [getD_of hx, tileAt_of ha, tileAt_of hb, decide_eq_true hn, Bool.or_true]
  · rcases h2 with h | ⟨x, a, b, hx, ha, hb, hn⟩
    · rw [decide_eq_true h]; rfl
    · rw [getD_of hx, tileAt_of ha, tileAt_of hb, decide_eq_true hn, Bool.or_true]
theorem Rd.shapeF {w : World} {lo hi n : Nat} {A : Option Addr} {f : List Nat} (hr : Rd w lo hi 1 A n (ic (fc f))) (hn : 0 < n) : ∃ b off, A = some ⟨b, off, none⟩ ∧ b < hi ∧ ∀ k, k < n → ∃ x, f[k]? = some x ∧ w.cell? ⟨b, off + k, none⟩ = some (.int .i64 (x : Int)) := by
  obtain ⟨b, off, x, e, h1, h2, h3, h4⟩ := hr.atF hn
  refine ⟨b, off, e, h2, fun k hk => ?_⟩
  obtain ⟨b', off', x', e', h1', h2', h3', h4'⟩ := hr.atF hk
  rw [e] at e'
  injection e' with e'
  injection e' with e1 e2 _
  subst e1 e2
  exact ⟨x', h3', h4'⟩
/-- all indices are of tiles -/
def inT (l : List Wg) (f : List Nat) : Prop := ∀ x ∈ f, x < l.length

set_option maxRecDepth 100000 in
set_option maxHeartbeats 3200000 in
theorem spec_fits_c {v vf : Value} {l : List Wg} {f : List Nat} (wd t : Nat) (w : World) (h : WangsRd w 0 w.heap.size v l) (hf : IntsRd w 0 w.heap.size vf (fc f)) (hin : inT l f) (ht : t < l.length) (hl : l.length ≤ 6) (hw1 : 1 ≤ wd) (hw4 : wd ≤ 4) (hn16 : f.length ≤ 16) :
    Calls Tryz.prog 174 #[v, .int .i64 wd, vf, .int .i64 t] w fun e w' => e = .returned (.bool (fitsW l wd f t)) ∧ Below w.heap.size w w' := by
  obtain ⟨A, c, rfl, hm, hr⟩ := h
  obtain ⟨A', c', rfl, hm', hr'⟩ := hf
  rw [fc_length] at hm' hr' ⊢
  obtain ⟨R, hR⟩ : ∃ R, R = fitsW l wd f t := ⟨_, rfl⟩
  rw [← hR]
  have HR := Lib.hid hR
  obtain ⟨n, hn⟩ : ∃ n, n = f.length := ⟨_, rfl⟩
  rw [← hn] at hm' hr' hn16 ⊢
  have HN := Lib.hid hn
  clear hR hn hm hm'
  obtain ⟨b, off, hA, hb, htile⟩ := hr.shapeT (by omega)
  subst hA
  have HTL := Lib.hid htile
  clear htile hr
  obtain ⟨tt, hlt, c1, c2, c3, c4⟩ := HTL.out t ht
  have HLT := Lib.hid hlt
  have hrem1 : Int.tmod (n : Int) (wd : Int) = ((n % wd : Nat) : Int) := by rw [Int.tmod_eq_emod_of_nonneg (by omega)]; exact (Int.natCast_emod n wd).symm
  obtain ⟨r, hrw⟩ : ∃ r, r = n % wd := ⟨_, rfl⟩
  rw [← hrw] at hrem1
  have hrem2 : (n : Int) % (wd : Int) = (r : Int) := by rw [hrw]; exact (Int.natCast_emod n wd).symm
  have hrl : r < wd := by rw [hrw]; exact Nat.mod_lt _ (by omega)
  have hrem3 : IntKind.i64.wrap (Int.tmod (n : Int) (wd : Int)) = (r : Int) := by rw [hrem1]; exact IntWalk.i64_in _ (by omega)
  have hrem4 : IntKind.i64.wrap ((n : Int) % (wd : Int)) = (r : Int) := by rw [hrem2]; exact IntWalk.i64_in _ (by omega)
  have HRW := Lib.hid hrw
  clear hlt hrw
  by_cases hn0 : n = 0
  · subst hn0
    obtain rfl : r = 0 := by rw [HRW.out]; exact Nat.zero_mod _
    have hd : decide (0 < wd) = true := by simp; omega
    obtain rfl : R = true := by rw [HR.out]; exact fits_yes (.inl (by rw [← HN.out]; exact Nat.zero_mod _)) (.inl (by rw [← HN.out]; omega))
    go_enter Tryz.func174, Tryz.ntmps174
    go_wp2_with fail
    go_quiet (fail)
    have hb1 : Below w.heap.size w (w.drewN nq) := below_drewN (Below.refl _ _) nq
    simp only [show ∀ b o, w.cell? ⟨b, o, none⟩ = (w.drewN nq).cell? ⟨b, o, none⟩ from fun _ _ => rfl] at c1 c2 c3 c4 
    generalize w.drewN nq = w1 at *
    go_wp2_with fail
    go_quiet (fail)
    go_wp2
    go_ret
    exact ⟨rfl, below_drewN hb1 _⟩
  · obtain ⟨bq, oq, hAq, hbq, hcell⟩ := hr'.shapeF (by omega)
    subst hAq
    clear hr'
    by_cases hr0 : r = 0
    · subst hr0
      by_cases hnw : n < wd
      · have hd : decide (n < wd) = true := by simp; omega
        obtain rfl : R = true := by rw [HR.out]; exact fits_yes (.inl (by rw [← HN.out]; exact HRW.out.symm)) (.inl (by rw [← HN.out]; exact hnw))
        go_enter Tryz.func174, Tryz.ntmps174
        go_wp2_with fail
        go_quiet (fail)
        have hb1 : Below w.heap.size w (w.drewN nq) := below_drewN (Below.refl _ _) nq
        simp only [show ∀ b o, w.cell? ⟨b, o, none⟩ = (w.drewN nq).cell? ⟨b, o, none⟩ from fun _ _ => rfl] at c1 c2 c3 c4 
        generalize w.drewN nq = w1 at *
        go_wp2_with fail
        go_quiet (fail)
        go_wp2
        go_ret
        exact ⟨rfl, below_drewN hb1 _⟩
      · have hd : decide (n < wd) = false := by simp; omega
        obtain ⟨y, hy, y1⟩ := hcell (n - wd) (by omega)
        obtain ⟨q, hq⟩ : ∃ q, q = n - wd := ⟨_, rfl⟩
        have hyq : f[f.length - wd]? = some y := by rw [← HN.out]; exact hy
        have HYQ := Lib.hid hyq
        rw [← hq] at y1
        have e3 : (n : Int) - (wd : Int) = (q : Int) := by omega
        have e4 : IntKind.i64.wrap ((n : Int) - (wd : Int)) = (q : Int) := by rw [e3]; exact IntWalk.i64_in _ (by omega)
        have hyl : y < l.length := hin y (List.mem_of_getElem? hy)
        obtain ⟨ty, hty, t1, t2, t3, t4⟩ := HTL.out y hyl
        have HTY := Lib.hid hty
        have hqn : q < n := by omega
        clear hy hq hyq hty
        by_cases hco : ty.bottom = tt.top
        · obtain rfl : R = true := by rw [HR.out]; exact fits_yes (.inl (by rw [← HN.out]; exact HRW.out.symm)) (.inr ⟨y, ty, tt, HYQ.out, HTY.out, HLT.out, hco⟩)
          have f1 : (ty.bottom == tt.top) = true := by simpa using hco
          clear hco
          go_enter Tryz.func174, Tryz.ntmps174
          go_wp2_with fail
          go_quiet (fail)
          have hb1 : Below w.heap.size w (w.drewN nq) := below_drewN (Below.refl _ _) nq
          simp only [show ∀ b o, w.cell? ⟨b, o, none⟩ = (w.drewN nq).cell? ⟨b, o, none⟩ from fun _ _ => rfl] at c1 c2 c3 c4 y1 t1 t2 t3 t4
          generalize w.drewN nq = w1 at *
          go_wp2_with fail
          go_quiet (fail)
          go_wp2
          go_ret
          exact ⟨rfl, below_drewN hb1 _⟩
        · obtain rfl : R = false := by rw [HR.out]; exact fits_top (by rw [← HN.out]; exact hnw) HYQ.out HTY.out HLT.out hco
          have f1 : (ty.bottom == tt.top) = false := by simpa using hco
          clear hco
          go_enter Tryz.func174, Tryz.ntmps174
          go_wp2_with fail
          go_quiet (fail)
          have hb1 : Below w.heap.size w (w.drewN nq) := below_drewN (Below.refl _ _) nq
          simp only [show ∀ b o, w.cell? ⟨b, o, none⟩ = (w.drewN nq).cell? ⟨b, o, none⟩ from fun _ _ => rfl] at c1 c2 c3 c4 y1 t1 t2 t3 t4
          generalize w.drewN nq = w1 at *
          go_wp2_with fail
          go_quiet (fail)
          go_wp2
          go_ret
          exact ⟨rfl, below_drewN hb1 _⟩
    · obtain ⟨x, hx, x1⟩ := hcell (n - 1) (by omega)
      obtain ⟨p, hp⟩ : ∃ p, p = n - 1 := ⟨_, rfl⟩
      have hxp : f[f.length - 1]? = some x := by rw [← HN.out]; exact hx
      have HXP := Lib.hid hxp
      rw [← hp] at x1
      have e1 : (n : Int) - 1 = (p : Int) := by omega
      have e2 : IntKind.i64.wrap ((n : Int) - 1) = (p : Int) := by rw [e1]; exact IntWalk.i64_in _ (by omega)
      have hxl : x < l.length := hin x (List.mem_of_getElem? hx)
      obtain ⟨tx, htx, a1, a2, a3, a4⟩ := HTL.out x hxl
      have HTX := Lib.hid htx
      have hpn : p < n := by omega
      have hrp : decide (0 < r) = true := by simp; omega
      have hrne : ¬ f.length % wd = 0 := by rw [← HN.out, ← HRW.out]; exact hr0
      have HRNE := Lib.hid hrne
      clear hx hp hxp htx hrne
      by_cases hco : tx.right = tt.left
      · have f0 : (tx.right != tt.left) = false := by simpa using hco
        have HCO := Lib.hid hco
        clear hco
        by_cases hnw : n < wd
        · have hd : decide (n < wd) = true := by simp; omega
          obtain rfl : R = true := by rw [HR.out]; exact fits_yes (.inr ⟨x, tx, tt, HXP.out, HTX.out, HLT.out, HCO.out⟩) (.inl (by rw [← HN.out]; exact hnw))
          go_enter Tryz.func174, Tryz.ntmps174
          go_wp2_with fail
          go_quiet (fail)
          have hb1 : Below w.heap.size w (w.drewN nq) := below_drewN (Below.refl _ _) nq
          simp only [show ∀ b o, w.cell? ⟨b, o, none⟩ = (w.drewN nq).cell? ⟨b, o, none⟩ from fun _ _ => rfl] at c1 c2 c3 c4 
          generalize w.drewN nq = w1 at *
          go_wp2_with fail
          go_quiet (fail)
          go_wp2
          go_ret
          exact ⟨rfl, below_drewN hb1 _⟩
        · have hd : decide (n < wd) = false := by simp; omega
          obtain ⟨y, hy, y1⟩ := hcell (n - wd) (by omega)
          obtain ⟨q, hq⟩ : ∃ q, q = n - wd := ⟨_, rfl⟩
          have hyq : f[f.length - wd]? = some y := by rw [← HN.out]; exact hy
          have HYQ := Lib.hid hyq
          rw [← hq] at y1
          have e3 : (n : Int) - (wd : Int) = (q : Int) := by omega
          have e4 : IntKind.i64.wrap ((n : Int) - (wd : Int)) = (q : Int) := by rw [e3]; exact IntWalk.i64_in _ (by omega)
          have hyl : y < l.length := hin y (List.mem_of_getElem? hy)
          obtain ⟨ty, hty, t1, t2, t3, t4⟩ := HTL.out y hyl
          have HTY := Lib.hid hty
          have hqn : q < n := by omega
          clear hy hq hyq hty
          by_cases hco : ty.bottom = tt.top
          · obtain rfl : R = true := by rw [HR.out]; exact fits_yes (.inr ⟨x, tx, tt, HXP.out, HTX.out, HLT.out, HCO.out⟩) (.inr ⟨y, ty, tt, HYQ.out, HTY.out, HLT.out, hco⟩)
            have f1 : (ty.bottom == tt.top) = true := by simpa using hco
            clear hco
            go_enter Tryz.func174, Tryz.ntmps174
            go_wp2_with fail
            go_quiet (fail)
            have hb1 : Below w.heap.size w (w.drewN nq) := below_drewN (Below.refl _ _) nq
            simp only [show ∀ b o, w.cell? ⟨b, o, none⟩ = (w.drewN nq).cell? ⟨b, o, none⟩ from fun _ _ => rfl] at c1 c2 c3 c4 y1 t1 t2 t3 t4
            generalize w.drewN nq = w1 at *
            go_wp2_with fail
            go_quiet (fail)
            go_wp2
            go_ret
            exact ⟨rfl, below_drewN hb1 _⟩
          · obtain rfl : R = false := by rw [HR.out]; exact fits_top (by rw [← HN.out]; exact hnw) HYQ.out HTY.out HLT.out hco
            have f1 : (ty.bottom == tt.top) = false := by simpa using hco
            clear hco
            go_enter Tryz.func174, Tryz.ntmps174
            go_wp2_with fail
            go_quiet (fail)
            have hb1 : Below w.heap.size w (w.drewN nq) := below_drewN (Below.refl _ _) nq
            simp only [show ∀ b o, w.cell? ⟨b, o, none⟩ = (w.drewN nq).cell? ⟨b, o, none⟩ from fun _ _ => rfl] at c1 c2 c3 c4 y1 t1 t2 t3 t4
            generalize w.drewN nq = w1 at *
            go_wp2_with fail
            go_quiet (fail)
            go_wp2
            go_ret
            exact ⟨rfl, below_drewN hb1 _⟩
      · obtain rfl : R = false := by rw [HR.out]; exact fits_left HRNE.out HXP.out HTX.out HLT.out hco
        have f0 : (tx.right != tt.left) = true := by simpa using hco
        clear hco
        go_enter Tryz.func174, Tryz.ntmps174
        go_wp2_with fail
        go_quiet (fail)
        go_wp2
        go_ret
        exact ⟨rfl, below_drewN (Below.refl _ _) _⟩
end Go.Proofs.YtppbkiajcpdkiaaGreatDoor

namespace Go.Proofs.YtppbkiajcpdkiaaGreatDoor
open Go.RowKit

set_option maxRecDepth 100000 in
set_option maxHeartbeats 3200000 in
theorem impl_fits_c {v vf : Value} {l : List Wg} {f : List Nat} (wd t : Nat) (w : World) (h : WangsRd w 0 w.heap.size v l) (hf : IntsRd w 0 w.heap.size vf (fc (f ++ [t]))) (hin : inT l f) (ht : t < l.length) (hl : l.length ≤ 6) (hw1 : 1 ≤ wd) (hw4 : wd ≤ 4) (hn16 : f.length ≤ 16) :
    Calls Tryz.prog 181 #[v, .int .i64 wd, vf] w fun e w' => e = .returned (.bool (fitsW l wd f t)) ∧ Below w.heap.size w w' := by
  obtain ⟨A, c, rfl, hmm, hr⟩ := h
  obtain ⟨A', c', rfl, hm', hr'⟩ := hf
  rw [fc_length] at hm' hr' ⊢
  obtain ⟨R, hR⟩ : ∃ R, R = fitsW l wd f t := ⟨_, rfl⟩
  rw [← hR]
  have HR := Lib.hid hR
  obtain ⟨n, hn⟩ : ∃ n, n = f.length := ⟨_, rfl⟩
  obtain ⟨m, hm⟩ : ∃ m, m = (f ++ [t]).length := ⟨_, rfl⟩
  rw [← hm] at hm' hr' ⊢
  rw [← hn] at hn16
  have hmn : m = n + 1 := by rw [hm, hn]; simp
  have HN := Lib.hid hn
  have hnm : n < m := by omega
  have e0 : (m : Int) - 1 = (n : Int) := by omega
  clear hR hn hmm hm' hm
  obtain ⟨b, off, hA, hb, htile⟩ := hr.shapeT (by omega)
  subst hA
  obtain ⟨bq, oq, hAq, hbq, hcell⟩ := hr'.shapeF (by omega)
  subst hAq
  have HTL := Lib.hid htile
  have HCL := Lib.hid hcell
  clear htile hr hr' hcell
  obtain ⟨tt, hlt, c1, c2, c3, c4⟩ := HTL.out t ht
  obtain ⟨t', ht', x0⟩ := HCL.out n hnm
  obtain rfl : t = t' := by rw [List.getElem?_append_right (by rw [← HN.out]; omega)] at ht'; simpa [← HN.out] using ht'
  have HLT := Lib.hid hlt
  have HMN := Lib.hid hmn
  clear hlt ht' hmn
  have hW : Below w.heap.size w (w.alloc (.cells #[.int .i64 tt.top, .int .i64 tt.right, .int .i64 tt.bottom, .int .i64 tt.left] 132)) := (Below.refl _ _).alloc (Nat.le_refl _) _
  have BX : Blk (w.alloc (.cells #[.int .i64 tt.top, .int .i64 tt.right, .int .i64 tt.bottom, .int .i64 tt.left] 132)) w.heap.size 132 #[.int .i64 tt.top, .int .i64 tt.right, .int .i64 tt.bottom, .int .i64 tt.left] := Blk.new _ _ _
  go_enter Tryz.func181, Tryz.ntmps181
  go_wp2_with fail
  clear c1 c2 c3 c4 x0
  generalize w.alloc (.cells #[.int .i64 tt.top, .int .i64 tt.right, .int .i64 tt.bottom, .int .i64 tt.left] 132) = W at *
  have HTW : Hid (∀ k, k < l.length → ∃ t, l[k]? = some t ∧ W.cell? ⟨b, off + k * 4, none⟩ = some (.int .i64 t.top) ∧ W.cell? ⟨b, off + k * 4 + 1, none⟩ = some (.int .i64 t.right) ∧ W.cell? ⟨b, off + k * 4 + 2, none⟩ = some (.int .i64 t.bottom) ∧ W.cell? ⟨b, off + k * 4 + 3, none⟩ = some (.int .i64 t.left)) := Lib.hid fun k hk => by
    obtain ⟨t, h0, h1, h2, h3, h4⟩ := HTL.out k hk
    exact ⟨t, h0, (hW.cell hb).trans h1, (hW.cell hb).trans h2, (hW.cell hb).trans h3, (hW.cell hb).trans h4⟩
  have HCW : Hid (∀ k, k < m → ∃ x, (f ++ [t])[k]? = some x ∧ W.cell? ⟨bq, oq + k, none⟩ = some (.int .i64 (x : Int))) := Lib.hid fun k hk => by
    obtain ⟨x, h0, h1⟩ := HCL.out k hk
    exact ⟨x, h0, (hW.cell hbq).trans h1⟩
  have k0 : W.cell? ⟨w.heap.size, 0, none⟩ = some (.int .i64 tt.top) := BX.cell 0
  have k3 : W.cell? ⟨w.heap.size, 3, none⟩ = some (.int .i64 tt.left) := BX.cell 3
  have hrem1 : Int.tmod (n : Int) (wd : Int) = ((n % wd : Nat) : Int) := by rw [Int.tmod_eq_emod_of_nonneg (by omega)]; exact (Int.natCast_emod n wd).symm
  obtain ⟨r, hrw⟩ : ∃ r, r = n % wd := ⟨_, rfl⟩
  rw [← hrw] at hrem1
  have hrem2 : (n : Int) % (wd : Int) = (r : Int) := by rw [hrw]; exact (Int.natCast_emod n wd).symm
  have hrl : r < wd := by rw [hrw]; exact Nat.mod_lt _ (by omega)
  have hrem3 : IntKind.i64.wrap (Int.tmod (n : Int) (wd : Int)) = (r : Int) := by rw [hrem1]; exact IntWalk.i64_in _ (by omega)
  have hrem4 : IntKind.i64.wrap ((n : Int) % (wd : Int)) = (r : Int) := by rw [hrem2]; exact IntWalk.i64_in _ (by omega)
  have HRW := Lib.hid hrw
  have hmn' : n + 1 = m := HMN.out.symm
  have hnm1 : n ≤ m - 1 := by omega
  clear hrw BX hmn' HTL HCL
  by_cases hr0 : r = 0
  · subst hr0
    by_cases hnw : n < wd
    · have hd : decide (n < wd) = true := by simp; omega
      obtain rfl : R = true := by rw [HR.out]; exact fits_yes (.inl (by rw [← HN.out]; exact HRW.out.symm)) (.inl (by rw [← HN.out]; exact hnw))
      go_quiet (fail)
      go_wp2
      go_ret
      exact ⟨rfl, below_drewN hW _⟩
    · have hd : decide (n < wd) = false := by simp; omega
      obtain ⟨y, hy, y1⟩ := HCW.out (n - wd) (by omega)
      obtain ⟨q, hq⟩ : ∃ q, q = n - wd := ⟨_, rfl⟩
      have hyq : f[f.length - wd]? = some y := by rw [← HN.out, ← hy, List.getElem?_append_left (by rw [← HN.out]; omega)]
      have HYQ := Lib.hid hyq
      rw [← hq] at y1
      have e3 : (n : Int) - (wd : Int) = (q : Int) := by omega
      have e4 : IntKind.i64.wrap ((n : Int) - (wd : Int)) = (q : Int) := by rw [e3]; exact IntWalk.i64_in _ (by omega)
      have hyl : y < l.length := hin y (List.mem_of_getElem? hyq)
      obtain ⟨ty, hty, t1, t2, t3, t4⟩ := HTW.out y hyl
      have HTY := Lib.hid hty
      have hqn : q < m := by omega
      clear hy hq hyq hty
      by_cases hco : ty.bottom = tt.top
      · obtain rfl : R = true := by rw [HR.out]; exact fits_yes (.inl (by rw [← HN.out]; exact HRW.out.symm)) (.inr ⟨y, ty, tt, HYQ.out, HTY.out, HLT.out, hco⟩)
        have f1 : (ty.bottom == tt.top) = true := by simpa using hco
        clear hco
        go_quiet (fail)
        go_wp2
        go_ret
        exact ⟨rfl, below_drewN hW _⟩
      · obtain rfl : R = false := by rw [HR.out]; exact fits_top (by rw [← HN.out]; exact hnw) HYQ.out HTY.out HLT.out hco
        have f1 : (ty.bottom == tt.top) = false := by simpa using hco
        clear hco
        go_quiet (fail)
        go_wp2
        go_ret
        exact ⟨rfl, below_drewN hW _⟩
  · have hn1 : 1 ≤ n := by
      rcases Nat.eq_zero_or_pos n with h0 | h0
      · exact absurd (by rw [HRW.out, h0]; exact Nat.zero_mod _) hr0
      · exact h0
    obtain ⟨x, hx, x1⟩ := HCW.out (n - 1) (by omega)
    obtain ⟨p, hp⟩ : ∃ p, p = n - 1 := ⟨_, rfl⟩
    have hxp : f[f.length - 1]? = some x := by rw [← HN.out, ← hx, List.getElem?_append_left (by rw [← HN.out]; omega)]
    have HXP := Lib.hid hxp
    rw [← hp] at x1
    have e1 : (n : Int) - 1 = (p : Int) := by omega
    have e2 : IntKind.i64.wrap ((n : Int) - 1) = (p : Int) := by rw [e1]; exact IntWalk.i64_in _ (by omega)
    have hxl : x < l.length := hin x (List.mem_of_getElem? hxp)
    obtain ⟨tx, htx, a1, a2, a3, a4⟩ := HTW.out x hxl
    have HTX := Lib.hid htx
    have hpn : p < m := by omega
    have hrp : ((r : Int) == 0) = false := by simp; omega
    have hrne : ¬ f.length % wd = 0 := by rw [← HN.out, ← HRW.out]; exact hr0
    have HRNE := Lib.hid hrne
    clear hx hp hxp htx hrne
    by_cases hco : tx.right = tt.left
    · have f0 : (tx.right == tt.left) = true := by simpa using hco
      have HCO := Lib.hid hco
      clear hco
      by_cases hnw : n < wd
      · have hd : decide (n < wd) = true := by simp; omega
        obtain rfl : R = true := by rw [HR.out]; exact fits_yes (.inr ⟨x, tx, tt, HXP.out, HTX.out, HLT.out, HCO.out⟩) (.inl (by rw [← HN.out]; exact hnw))
        go_quiet (fail)
        go_wp2
        go_ret
        exact ⟨rfl, below_drewN hW _⟩
      · have hd : decide (n < wd) = false := by simp; omega
        obtain ⟨y, hy, y1⟩ := HCW.out (n - wd) (by omega)
        obtain ⟨q, hq⟩ : ∃ q, q = n - wd := ⟨_, rfl⟩
        have hyq : f[f.length - wd]? = some y := by rw [← HN.out, ← hy, List.getElem?_append_left (by rw [← HN.out]; omega)]
        have HYQ := Lib.hid hyq
        rw [← hq] at y1
        have e3 : (n : Int) - (wd : Int) = (q : Int) := by omega
        have e4 : IntKind.i64.wrap ((n : Int) - (wd : Int)) = (q : Int) := by rw [e3]; exact IntWalk.i64_in _ (by omega)
        have hyl : y < l.length := hin y (List.mem_of_getElem? hyq)
        obtain ⟨ty, hty, t1, t2, t3, t4⟩ := HTW.out y hyl
        have HTY := Lib.hid hty
        have hqn : q < m := by omega
        clear hy hq hyq hty
        by_cases hco : ty.bottom = tt.top
        · obtain rfl : R = true := by rw [HR.out]; exact fits_yes (.inr ⟨x, tx, tt, HXP.out, HTX.out, HLT.out, HCO.out⟩) (.inr ⟨y, ty, tt, HYQ.out, HTY.out, HLT.out, hco⟩)
          have f1 : (ty.bottom == tt.top) = true := by simpa using hco
          clear hco
          go_quiet (fail)
          go_wp2
          go_ret
          exact ⟨rfl, below_drewN hW _⟩
        · obtain rfl : R = false := by rw [HR.out]; exact fits_top (by rw [← HN.out]; exact hnw) HYQ.out HTY.out HLT.out hco
          have f1 : (ty.bottom == tt.top) = false := by simpa using hco
          clear hco
          go_quiet (fail)
          go_wp2
          go_ret
          exact ⟨rfl, below_drewN hW _⟩
    · obtain rfl : R = false := by rw [HR.out]; exact fits_left HRNE.out HXP.out HTX.out HLT.out hco
      have f0 : (tx.right == tt.left) = false := by simpa using hco
      clear hco
      go_quiet (fail)
      go_wp2
      go_ret
      exact ⟨rfl, below_drewN hW _⟩
end Go.Proofs.YtppbkiajcpdkiaaGreatDoor

namespace Go.Proofs.YtppbkiajcpdkiaaGreatDoor
open Go.RowKit

def rowOk (l : List Wg) (w : Nat) (f : List Nat) (y : Nat) : Bool := decide ((tileAt l (f.getD (y * w + w - 1) 0)).right = (tileAt l (f.getD (y * w) 0)).left)
def colOk (l : List Wg) (w h : Nat) (f : List Nat) (x : Nat) : Bool := decide ((tileAt l (f.getD ((h - 1) * w + x) 0)).bottom = (tileAt l (f.getD x 0)).top)
def closesW (l : List Wg) (w h : Nat) (f : List Nat) : Bool := (List.range h).all (rowOk l w f) && (List.range w).all (colOk l w h f)
theorem closes_row {l : List Wg} {w h y : Nat} {f : List Nat} (hy : y < h) (ho : rowOk l w f y = false) : closesW l w h f = false := by
  unfold closesW
  have : (List.range h).all (rowOk l w f) = false := by
    rw [List.all_eq_false]
    exact ⟨y, List.mem_range.2 hy, by simp [ho]⟩
  rw [this, Bool.false_and]
theorem closes_col {l : List Wg} {w h x : Nat} {f : List Nat} (hx : x < w) (ho : colOk l w h f x = false) : closesW l w h f = false := by
  unfold closesW
  have : (List.range w).all (colOk l w h f) = false := by
    rw [List.all_eq_false]
    exact ⟨x, List.mem_range.2 hx, by simp [ho]⟩
  rw [this, Bool.and_false]
theorem closes_yes {l : List Wg} {w h : Nat} {f : List Nat} (h1 : ∀ y, y < h → rowOk l w f y = true) (h2 : ∀ x, x < w → colOk l w h f x = true) : closesW l w h f = true := by
  unfold closesW
  rw [Bool.and_eq_true, List.all_eq_true, List.all_eq_true]
  exact ⟨fun y hy => h1 y (List.mem_range.1 hy), fun x hx => h2 x (List.mem_range.1 hx)⟩
theorem below_succ {P : Nat → Prop} {k : Nat} (h : ∀ j, j < k → P j) (hk : P k) : ∀ j, j < k + 1 → P j := fun j hj => by
  by_cases e : j = k
  · subst e; exact hk
  · exact h j (by omega)

set_option maxRecDepth 100000 in
set_option maxHeartbeats 3200000 in
theorem impl_closes_c {v vf : Value} {l : List Wg} {f : List Nat} (wd h : Nat) (w : World) (hl0 : WangsRd w 0 w.heap.size v l) (hf : IntsRd w 0 w.heap.size vf (fc f)) (hin : inT l f) (hl1 : 1 ≤ l.length) (hl : l.length ≤ 6) (hw1 : 1 ≤ wd) (hw4 : wd ≤ 4) (hh1 : 1 ≤ h) (hh4 : h ≤ 4) (hfl : f.length = wd * h) :
    Calls Tryz.prog 148 #[v, .int .i64 wd, .int .i64 h, vf] w fun e w' => e = .returned (.bool (closesW l wd h f)) ∧ Below w.heap.size w w' := by
  obtain ⟨A, c, rfl, hmm, hr⟩ := hl0
  obtain ⟨A', c', rfl, hm', hr'⟩ := hf
  rw [fc_length] at hm' hr' ⊢
  obtain ⟨R, hR⟩ : ∃ R, R = closesW l wd h f := ⟨_, rfl⟩
  rw [← hR]
  have HR := Lib.hid hR
  obtain ⟨n, hn⟩ : ∃ n, n = f.length := ⟨_, rfl⟩
  rw [← hn] at hm' hr' ⊢
  have HN := Lib.hid hn
  have hn16 : n ≤ 16 := by rw [hn, hfl]; exact Nat.le_trans (Nat.mul_le_mul hw4 hh4) (by decide)
  have hn1 : 0 < n := by rw [hn, hfl]; exact Nat.mul_pos hw1 hh1
  clear hR hn hmm hm'
  obtain ⟨b, off, hA, hb, htile⟩ := hr.shapeT (by omega)
  subst hA
  obtain ⟨bq, oq, hAq, hbq, hcell⟩ := hr'.shapeF hn1
  subst hAq
  have HTL := Lib.hid htile
  have HCL := Lib.hid hcell
  clear htile hcell
  clear hr hr'
  go_enter Tryz.func148, Tryz.ntmps148
  go_wp2
  go_loopw [12] (fun i wr => ∃ y : Nat, y ≤ h ∧ i = .int .i64 y ∧ Hid (∀ j, j < y → rowOk l wd f j = true) ∧ Below w.heap.size w wr) (fun i _ => h - (intOf i).toNat)
  case atStart => exact ⟨0, Nat.zero_le _, rfl, Lib.hid (fun j hj => absurd hj (by omega)), Below.refl _ _⟩
  case round =>
    obtain ⟨y, hyh, rfl, HY, hbel⟩ := hrel
    by_cases hlt : y < h
    · have hyw : (y + 1) * wd ≤ h * wd := Nat.mul_le_mul_right wd hlt
      have hyw2 : (y + 1) * wd = y * wd + wd := Nat.succ_mul y wd
      have hwh : h * wd = wd * h := Nat.mul_comm h wd
      obtain ⟨i0, hi0⟩ : ∃ i0, i0 = y * wd := ⟨_, rfl⟩
      obtain ⟨i1, hi1⟩ : ∃ i1, i1 = y * wd + wd - 1 := ⟨_, rfl⟩
      obtain ⟨s, hs⟩ : ∃ s, s = y * wd + wd := ⟨_, rfl⟩
      have b0 : i0 < n := by rw [HN.out, hfl]; omega
      have b1 : i1 < n := by rw [HN.out, hfl]; omega
      have e1 : (y : Int) * (wd : Int) = (i0 : Int) := by rw [hi0]; exact (Int.natCast_mul y wd).symm
      have e2 : (i0 : Int) + (wd : Int) = (s : Int) := by omega
      have e3 : (s : Int) - 1 = (i1 : Int) := by omega
      have e4 : IntKind.i64.wrap ((y : Int) * (wd : Int)) = (i0 : Int) := by rw [e1]; exact IntWalk.i64_in _ (by omega)
      have e5 : IntKind.i64.wrap ((i0 : Int) + (wd : Int)) = (s : Int) := by rw [e2]; exact IntWalk.i64_in _ (by omega)
      have e6 : IntKind.i64.wrap ((s : Int) - 1) = (i1 : Int) := by rw [e3]; exact IntWalk.i64_in _ (by omega)
      obtain ⟨x, hx, x1⟩ := HCL.out i1 b1
      obtain ⟨z, hz, z1⟩ := HCL.out i0 b0
      have hxl : x < l.length := hin x (List.mem_of_getElem? hx)
      have hzl : z < l.length := hin z (List.mem_of_getElem? hz)
      obtain ⟨tx, htx, a1, a2, a3, a4⟩ := HTL.out x hxl
      obtain ⟨tz, htz, t1, t2, t3, t4⟩ := HTL.out z hzl
      have hro : rowOk l wd f y = decide (tx.right = tz.left) := by
        unfold rowOk
        rw [getD_of (by rw [← hi1]; exact hx), getD_of (by rw [← hi0]; exact hz), tileAt_of htx, tileAt_of htz]
      have HRO := Lib.hid hro
      replace x1 := (hbel.cell (p := ⟨bq, oq + i1, none⟩) hbq).trans x1
      replace z1 := (hbel.cell (p := ⟨bq, oq + i0, none⟩) hbq).trans z1
      replace a2 := (hbel.cell (p := ⟨b, off + x * 4 + 1, none⟩) hb).trans a2
      replace t4 := (hbel.cell (p := ⟨b, off + z * 4 + 3, none⟩) hb).trans t4
      clear hyw hyw2 hwh hi0 hi1 hs hx hz htx htz hro a1 a3 a4 t1 t2 t3
      by_cases hco : tx.right = tz.left
      · have f0 : (tx.right != tz.left) = false := by simpa using hco
        have hk2 := below_succ (P := fun j => rowOk l wd f j = true) HY.out (by rw [HRO.out]; exact decide_eq_true hco)
        have HY2 := Lib.hid hk2
        clear hco hk2
        go_wp2_with fail
        go_quiet (fail)
        have hbel2 := below_drewN hbel nq
        generalize wr.drewN nq = w2 at *
        clear e1 e2 e3 e4 e5 e6
        go_wp2
        go_roundw
        case rel => exact ⟨y + 1, by omega, by go_num, HY2, hbel2⟩
        case measure => simp [intOf]; omega
      · have f0 : (tx.right != tz.left) = true := by simpa using hco
        obtain rfl : R = false := by rw [HR.out]; exact closes_row hlt (by rw [HRO.out]; exact decide_eq_false hco)
        clear hco
        go_wp2_with fail
        go_quiet (fail)
        have hbel2 := below_drewN hbel nq
        go_wp2
        go_ret
        exact ⟨rfl, hbel2⟩
    · obtain rfl : y = h := by omega
      go_wp2
      obtain ⟨wo, hwo⟩ : ∃ wo : World, wo = wr := ⟨_, rfl⟩
      subst hwo
      obtain ⟨h', hh'⟩ : ∃ h', h' = y := ⟨_, rfl⟩
      go_loopw [41] (fun i wx => ∃ x : Nat, x ≤ wd ∧ i = .int .i64 x ∧ Hid (∀ j, j < x → colOk l wd y f j = true) ∧ Below w.heap.size w wx) (fun i _ => wd - (intOf i).toNat)
      case atStart => exact ⟨0, Nat.zero_le _, rfl, Lib.hid (fun j hj => absurd hj (by omega)), hbel⟩
      case round =>
        clear hbel
        obtain ⟨x, hxw, rfl, HX, hbel⟩ := hrel
        by_cases hlt2 : x < wd
        · have hyw : (y - 1 + 1) * wd = (y - 1) * wd + wd := Nat.succ_mul (y - 1) wd
          have hwh : y * wd = wd * y := Nat.mul_comm y wd
          have hy1 : y - 1 + 1 = y := by omega
          rw [hy1] at hyw
          obtain ⟨p, hp⟩ : ∃ p, p = y - 1 := ⟨_, rfl⟩
          obtain ⟨i0, hi0⟩ : ∃ i0, i0 = p * wd := ⟨_, rfl⟩
          obtain ⟨i1, hi1⟩ : ∃ i1, i1 = i0 + x := ⟨_, rfl⟩
          have hi0' : i0 = (y - 1) * wd := by rw [hi0, hp]
          have b0 : x < n := by rw [HN.out, hfl]; omega
          have b1 : i1 < n := by rw [HN.out, hfl]; omega
          have e1 : (y : Int) - 1 = (p : Int) := by omega
          have e2 : (p : Int) * (wd : Int) = (i0 : Int) := by rw [hi0]; exact (Int.natCast_mul p wd).symm
          have e3 : (i0 : Int) + (x : Int) = (i1 : Int) := by omega
          have e4 : IntKind.i64.wrap ((y : Int) - 1) = (p : Int) := by rw [e1]; exact IntWalk.i64_in _ (by omega)
          have e5 : IntKind.i64.wrap ((p : Int) * (wd : Int)) = (i0 : Int) := by rw [e2]; exact IntWalk.i64_in _ (by omega)
          have e6 : IntKind.i64.wrap ((i0 : Int) + (x : Int)) = (i1 : Int) := by rw [e3]; exact IntWalk.i64_in _ (by omega)
          obtain ⟨u, hu, u1⟩ := HCL.out i1 b1
          obtain ⟨z, hz, z1⟩ := HCL.out x b0
          have hul : u < l.length := hin u (List.mem_of_getElem? hu)
          have hzl : z < l.length := hin z (List.mem_of_getElem? hz)
          obtain ⟨tu, htu, a1, a2, a3, a4⟩ := HTL.out u hul
          obtain ⟨tz, htz, t1, t2, t3, t4⟩ := HTL.out z hzl
          have hro : colOk l wd y f x = decide (tu.bottom = tz.top) := by
            unfold colOk
            rw [getD_of (by rw [← hi0', ← hi1]; exact hu), getD_of hz, tileAt_of htu, tileAt_of htz]
          have HRO := Lib.hid hro
          replace u1 := (hbel.cell (p := ⟨bq, oq + i1, none⟩) hbq).trans u1
          replace z1 := (hbel.cell (p := ⟨bq, oq + x, none⟩) hbq).trans z1
          replace a3 := (hbel.cell (p := ⟨b, off + u * 4 + 2, none⟩) hb).trans a3
          replace t1 := (hbel.cell (p := ⟨b, off + z * 4, none⟩) hb).trans t1
          clear hyw hwh hi0 hi0' hi1 hp hy1 hu hz htu htz hro a1 a2 a4 t2 t3 t4
          by_cases hco : tu.bottom = tz.top
          · have f0 : (tu.bottom != tz.top) = false := by simpa using hco
            have hk2 := below_succ (P := fun j => colOk l wd y f j = true) HX.out (by rw [HRO.out]; exact decide_eq_true hco)
            have HX2 := Lib.hid hk2
            clear hco hk2
            go_wp2_with fail
            go_quiet (fail)
            have hbel2 := below_drewN hbel nq
            generalize wr.drewN nq = w2 at *
            clear e1 e2 e3 e4 e5 e6
            go_wp2
            go_roundw
            case rel => exact ⟨x + 1, by omega, by go_num, HX2, hbel2⟩
            case measure => simp [intOf]; omega
          · have f0 : (tu.bottom != tz.top) = true := by simpa using hco
            obtain rfl : R = false := by rw [HR.out]; exact closes_col hlt2 (by rw [HRO.out]; exact decide_eq_false hco)
            clear hco
            go_wp2_with fail
            go_quiet (fail)
            have hbel2 := below_drewN hbel nq
            go_wp2
            go_ret
            exact ⟨rfl, hbel2⟩
        · obtain rfl : x = wd := by omega
          obtain rfl : R = true := by rw [HR.out]; exact closes_yes HY.out HX.out
          go_wp2
          go_ret
          exact ⟨rfl, hbel⟩
end Go.Proofs.YtppbkiajcpdkiaaGreatDoor

namespace Go.Proofs.YtppbkiajcpdkiaaGreatDoor
open Go.RowKit

/-- laid tile by tile, each fitting -/
def laidOk (l : List Wg) (w : Nat) (f : List Nat) : Prop := ∀ (k x : Nat), f[k]? = some x → fitsW l w (f.take k) x = true
theorem laidOk.nil {l : List Wg} {w : Nat} : laidOk l w [] := fun k x h => by simp at h
theorem laidOk.snoc {l : List Wg} {w t : Nat} {f : List Nat} (h : laidOk l w f) (ht : fitsW l w f t = true) : laidOk l w (f ++ [t]) := by
  intro k x hx
  by_cases hk : k < f.length
  · rw [List.getElem?_append_left hk] at hx
    rw [List.take_append_of_le_length (by omega)]
    exact h k x hx
  · have e : k = f.length := by
      have := (List.getElem?_eq_some_iff.1 hx).1
      simp at this
      omega
    subst e
    simp at hx
    subst hx
    rw [List.take_left]
    exact ht
theorem inT.snoc {l : List Wg} {t : Nat} {f : List Nat} (h : inT l f) (ht : t < l.length) : inT l (f ++ [t]) := by
  intro x hx
  rcases List.mem_append.1 hx with hx | hx
  · exact h x hx
  · simp at hx; subst hx; exact ht
theorem inT.take {l : List Wg} {f : List Nat} (h : inT l f) (k : Nat) : inT l (f.take k) := fun x hx => h x (List.mem_of_mem_take hx)

set_option maxRecDepth 100000 in
theorem l18Sides_c (a b : Int) (w : World) (h : 1 ≤ a ∧ a ≤ 4 ∧ 1 ≤ b ∧ b ≤ 4) : Calls Tryz.prog 173 #[.int .i64 a, .int .i64 b] w fun e w' => e = .returned (.bool true) ∧ w = w' := by
  have h1 : inW a 1 4 = true := inW_iff.2 ⟨h.1, h.2.1⟩
  have h2 : inW b 1 4 = true := inW_iff.2 ⟨h.2.2.1, h.2.2.2⟩
  clear h
  go_enter Tryz.func173, Tryz.ntmps173
  go_wp2_with (go_at_call 36; refine (l1In_w _ _ _ _).mono ?_; rintro e w' ⟨rfl, rfl⟩)
  go_ret
  exact ⟨rfl, rfl⟩
theorem Later.wangs {W : World} {u : Later W} {v : Value} {r : List Wg} (h : WangsRd W 0 W.heap.size v r) : WangsRd u.w 0 u.w.heap.size v r := (h.keep (SameIn.of_below u.h (Nat.le_refl _))).more (Nat.le_refl _) u.h.size
/-- the head of a fill -/
theorem fill_take {w : World} {lo hi n c b off k : Nat} {f : List Nat} (h : Rd w lo hi 1 (some ⟨b, off, none⟩) n (ic (fc f))) (hk : k ≤ n) (hm : n ≤ maxLen) : IntsRd w lo hi (.slice (some ⟨b, off, none⟩) k c) (fc (f.take k)) := by
  have hl : f.length = n := by have := h.1; rw [ic_length, fc_length] at this; omega
  have hkl : (fc (f.take k)).length = k := by rw [fc_length, List.length_take]; omega
  refine ⟨_, c, by rw [hkl], by rw [hkl]; omega, by rw [ic_length, hkl]; omega, fun h0 => ?_⟩
  obtain ⟨b', off', e, h1, h2, h3⟩ := h.2 (by omega)
  refine ⟨b', off', e, h1, h2, fun j u hu => h3 j u ?_⟩
  have hj : j < k := by have := (List.getElem?_eq_some_iff.1 hu).1; rw [ic_length, hkl] at this; exact this
  simp only [ic, fc, List.map_take, List.getElem?_take, if_pos hj] at hu
  simpa [ic, fc] using hu

set_option maxRecDepth 100000 in
set_option maxHeartbeats 3200000 in
theorem spec_wangFill_c {vf v : Value} {l : List Wg} {f : List Nat} (wd h : Nat) (w : World) (hl0 : WangsRd w 0 w.heap.size v l) (hf : IntsRd w 0 w.heap.size vf (fc f)) (hcap : ∃ A c, vf = .slice A f.length c ∧ f.length ≤ c) (hA : areW l = true) (hin : inT l f) (hla : laidOk l wd f) (hl1 : 1 ≤ l.length) (hl : l.length ≤ 6) (hw1 : 1 ≤ wd) (hw4 : wd ≤ 4) (hh1 : 1 ≤ h) (hh4 : h ≤ 4) (hfl : f.length = wd * h) :
    Calls Tryz.prog 135 #[v, .int .i64 wd, .int .i64 h, vf] w fun e w' => e = .returned (.bool true) ∧ Below w.heap.size w w' := by
  obtain ⟨A, c, rfl, hmm, hr⟩ := id hl0
  obtain ⟨A', c', rfl, hm', hr'⟩ := id hf
  obtain ⟨A2, c2, he, hcc⟩ := hcap
  injection he with he1 he2 he3
  subst he1 he3
  clear hmm he2
  rw [fc_length] at hm' hr' hf ⊢
  obtain ⟨n, hn⟩ : ∃ n, n = f.length := ⟨_, rfl⟩
  rw [← hn] at hm' hr' hf hcc ⊢
  have HN := Lib.hid hn
  have hn16 : n ≤ 16 := by rw [hn, hfl]; exact Nat.le_trans (Nat.mul_le_mul hw4 hh4) (by decide)
  have hn1 : 0 < n := by rw [hn, hfl]; exact Nat.mul_pos hw1 hh1
  have hmul : (wd : Int) * (h : Int) = (n : Int) := by rw [hn, hfl]; exact (Int.natCast_mul wd h).symm
  have hmul2 : IntKind.i64.wrap ((wd : Int) * (h : Int)) = (n : Int) := by rw [hmul]; exact IntWalk.i64_in _ (by omega)
  clear hn
  obtain ⟨b, off, hAq, hb, htile⟩ := hr.shapeT (by omega)
  subst hAq
  obtain ⟨bq, oq, hAq, hbq, hcell⟩ := hr'.shapeF hn1
  subst hAq
  have HTL := Lib.hid htile
  have HCL := Lib.hid hcell
  have HR := Lib.hid hr'
  have HF := Lib.hid hla
  clear htile hcell hr hr' hla
  go_enter Tryz.func135, Tryz.ntmps135
  go_wp2_with fail
  refine (spec_areW_c (l := l) w hl0).mono ?_
  rintro e w1 ⟨rfl, b1⟩
  rw [hA]
  go_wp2_with fail
  refine (l18Sides_c wd h w1 (by omega)).mono ?_
  rintro e w' ⟨rfl, rfl⟩
  go_wp2
  clear hmul hmul2
  go_loopw [9] (fun i wr => ∃ k : Nat, k ≤ n ∧ i = .int .i64 k ∧ Below w.heap.size w wr) (fun i _ => n - (intOf i).toNat)
  case atStart => exact ⟨0, Nat.zero_le _, rfl, b1⟩
  case round =>
    clear b1
    obtain ⟨k, hk, rfl, hbel⟩ := hrel
    by_cases hlt : k < n
    · obtain ⟨x, hx, x1⟩ := HCL.out k hlt
      have hxl : x < l.length := hin x (List.mem_of_getElem? hx)
      replace x1 := (hbel.cell (p := ⟨bq, oq + k, none⟩) hbq).trans x1
      have l1 := Later.cell x1 (Nat.lt_of_lt_of_le hbq hbel.size)
      have hdx : inW (x : Int) 0 ((l.length : Int) - 1) = true := inW_iff.2 ⟨by omega, by omega⟩
      have hft : fitsW l wd (f.take k) x = true := HF.out k x hx
      have hcall : ∀ u : Later wr, Calls Tryz.prog 174 #[.slice (some ⟨b, off, none⟩) l.length c, .int .i64 wd, .slice (some ⟨bq, oq, none⟩) k c', .int .i64 x] u.w fun e w' => e = .returned (.bool true) ∧ Below u.w.heap.size u.w w' := by
        intro u
        have hbu := hbel.trans (u.h.mono hbel.size)
        have := spec_fits_c (f := f.take k) wd x u.w ((hl0.keep (SameIn.of_below hbu (Nat.le_refl _))).more (Nat.le_refl _) hbu.size) (((fill_take (c := c') HR.out (by omega) hm').keep (SameIn.of_below hbu (Nat.le_refl _))).more (Nat.le_refl _) hbu.size) (hin.take k) hxl hl hw1 hw4 (by rw [List.length_take]; omega)
        rw [hft] at this
        exact this
      have HCALL := Lib.hid hcall
      have hkc : k ≤ c' := by omega
      clear hcall hx hft
      go_wp2_with fail
      refine wp_region_later (by kernel_rfl) (by kernel_rfl) ?_
      repeat (go_big_quiet_step ((first
        | (go_at_call 36; exact Later.same (l1In_w _ _ _ _))
        | (go_at_call 174; exact Later.call (HCALL.out _)))))
      refine wpQuiet_nil ?_
      intro w3 hw3
      obtain ⟨u3, hu3⟩ := hw3
      subst hu3
      have hb3 := hbel.trans (u3.h.mono hbel.size)
      clear l1 x1
      generalize u3.w = w3 at *
      go_wp2
      go_roundw
      case rel => exact ⟨k + 1, by omega, by go_num, hb3⟩
      case measure => simp [intOf]; omega
    · obtain rfl : k = n := by omega
      go_wp2
      go_ret
      exact ⟨rfl, hbel⟩
set_option maxRecDepth 100000 in
set_option maxHeartbeats 3200000 in
theorem spec_periodic_c {v vf : Value} {l : List Wg} {f : List Nat} (wd h : Nat) (w : World) (hl0 : WangsRd w 0 w.heap.size v l) (hf : IntsRd w 0 w.heap.size vf (fc f)) (hcap : ∃ A c, vf = .slice A f.length c ∧ f.length ≤ c) (hA : areW l = true) (hin : inT l f) (hla : laidOk l wd f) (hl1 : 1 ≤ l.length) (hl : l.length ≤ 6) (hw1 : 1 ≤ wd) (hw4 : wd ≤ 4) (hh1 : 1 ≤ h) (hh4 : h ≤ 4) (hfl : f.length = wd * h) :
    Calls Tryz.prog 74 #[v, .int .i64 wd, .int .i64 h, vf] w fun e w' => e = .returned (.bool (closesW l wd h f)) ∧ Below w.heap.size w w' := by
  have HL := Lib.hid hl0
  have HFF := Lib.hid hf
  have HLA := Lib.hid hla
  have HCAP := Lib.hid hcap
  clear hcap hla
  obtain ⟨A, c, rfl, hmm, hr⟩ := hl0
  obtain ⟨A', c', rfl, hm', hr'⟩ := hf
  rw [fc_length] at hm' hr' ⊢
  obtain ⟨R, hR⟩ : ∃ R, R = closesW l wd h f := ⟨_, rfl⟩
  rw [← hR]
  have HR := Lib.hid hR
  obtain ⟨n, hn⟩ : ∃ n, n = f.length := ⟨_, rfl⟩
  rw [← hn] at hm' hr' ⊢
  have HN := Lib.hid hn
  have hn16 : n ≤ 16 := by rw [hn, hfl]; exact Nat.le_trans (Nat.mul_le_mul hw4 hh4) (by decide)
  have hn1 : 0 < n := by rw [hn, hfl]; exact Nat.mul_pos hw1 hh1
  clear hR hn hmm hm'
  obtain ⟨b, off, hA, hb, htile⟩ := hr.shapeT (by omega)
  subst hA
  obtain ⟨bq, oq, hAq, hbq, hcell⟩ := hr'.shapeF hn1
  subst hAq
  have HTL := Lib.hid htile
  have HCL := Lib.hid hcell
  clear htile hcell
  have hf2 : IntsRd w 0 w.heap.size (.slice (some ⟨bq, oq, none⟩) n c') (fc f) := by have := HFF.out; rw [fc_length, ← HN.out] at this; exact this
  have hcap2 : ∃ A c, (Value.slice (some ⟨bq, oq, none⟩) n c') = .slice A f.length c ∧ f.length ≤ c := by
    obtain ⟨A2, c2, he, hcc⟩ := HCAP.out
    injection he with _ _ he3
    subst he3
    exact ⟨_, _, by rw [HN.out], hcc⟩
  have HFILL := Lib.hid (spec_wangFill_c wd h w HL.out hf2 hcap2 hA hin HLA.out hl1 hl hw1 hw4 hh1 hh4 hfl)
  clear hr hr' hf2 hcap2 HL HFF HLA HCAP hA
  go_enter Tryz.func74, Tryz.ntmps74
  go_wp2_with fail
  refine (HFILL.out).mono ?_
  rintro e w1 ⟨rfl, b1⟩
  go_wp2
  go_loopw [9] (fun i wr => ∃ y : Nat, y ≤ h ∧ i = .int .i64 y ∧ Hid (∀ j, j < y → rowOk l wd f j = true) ∧ Below w.heap.size w wr) (fun i _ => h - (intOf i).toNat)
  case atStart => exact ⟨0, Nat.zero_le _, rfl, Lib.hid (fun j hj => absurd hj (by omega)), b1⟩
  case round =>
    obtain ⟨y, hyh, rfl, HY, hbel⟩ := hrel
    by_cases hlt : y < h
    · have hyw : (y + 1) * wd ≤ h * wd := Nat.mul_le_mul_right wd hlt
      have hyw2 : (y + 1) * wd = y * wd + wd := Nat.succ_mul y wd
      have hwh : h * wd = wd * h := Nat.mul_comm h wd
      obtain ⟨i0, hi0⟩ : ∃ i0, i0 = y * wd := ⟨_, rfl⟩
      obtain ⟨i1, hi1⟩ : ∃ i1, i1 = y * wd + wd - 1 := ⟨_, rfl⟩
      obtain ⟨s, hs⟩ : ∃ s, s = y * wd + wd := ⟨_, rfl⟩
      have b0 : i0 < n := by rw [HN.out, hfl]; omega
      have b1 : i1 < n := by rw [HN.out, hfl]; omega
      have e1 : (y : Int) * (wd : Int) = (i0 : Int) := by rw [hi0]; exact (Int.natCast_mul y wd).symm
      have e2 : (i0 : Int) + (wd : Int) = (s : Int) := by omega
      have e3 : (s : Int) - 1 = (i1 : Int) := by omega
      have e4 : IntKind.i64.wrap ((y : Int) * (wd : Int)) = (i0 : Int) := by rw [e1]; exact IntWalk.i64_in _ (by omega)
      have e5 : IntKind.i64.wrap ((i0 : Int) + (wd : Int)) = (s : Int) := by rw [e2]; exact IntWalk.i64_in _ (by omega)
      have e6 : IntKind.i64.wrap ((s : Int) - 1) = (i1 : Int) := by rw [e3]; exact IntWalk.i64_in _ (by omega)
      obtain ⟨x, hx, x1⟩ := HCL.out i1 b1
      obtain ⟨z, hz, z1⟩ := HCL.out i0 b0
      have hxl : x < l.length := hin x (List.mem_of_getElem? hx)
      have hzl : z < l.length := hin z (List.mem_of_getElem? hz)
      obtain ⟨tx, htx, a1, a2, a3, a4⟩ := HTL.out x hxl
      obtain ⟨tz, htz, t1, t2, t3, t4⟩ := HTL.out z hzl
      have hro : rowOk l wd f y = decide (tx.right = tz.left) := by
        unfold rowOk
        rw [getD_of (by rw [← hi1]; exact hx), getD_of (by rw [← hi0]; exact hz), tileAt_of htx, tileAt_of htz]
      have HRO := Lib.hid hro
      replace x1 := (hbel.cell (p := ⟨bq, oq + i1, none⟩) hbq).trans x1
      replace z1 := (hbel.cell (p := ⟨bq, oq + i0, none⟩) hbq).trans z1
      replace a2 := (hbel.cell (p := ⟨b, off + x * 4 + 1, none⟩) hb).trans a2
      replace t4 := (hbel.cell (p := ⟨b, off + z * 4 + 3, none⟩) hb).trans t4
      clear hyw hyw2 hwh hi0 hi1 hs hx hz htx htz hro a1 a3 a4 t1 t2 t3
      by_cases hco : tx.right = tz.left
      · have f0 : (tx.right != tz.left) = false := by simpa using hco
        have hk2 := below_succ (P := fun j => rowOk l wd f j = true) HY.out (by rw [HRO.out]; exact decide_eq_true hco)
        have HY2 := Lib.hid hk2
        clear hco hk2
        go_wp2_with fail
        go_quiet (fail)
        have hbel2 := below_drewN hbel nq
        generalize wr.drewN nq = w2 at *
        clear e1 e2 e3 e4 e5 e6
        go_wp2
        go_roundw
        case rel => exact ⟨y + 1, by omega, by go_num, HY2, hbel2⟩
        case measure => simp [intOf]; omega
      · have f0 : (tx.right != tz.left) = true := by simpa using hco
        obtain rfl : R = false := by rw [HR.out]; exact closes_row hlt (by rw [HRO.out]; exact decide_eq_false hco)
        clear hco
        go_wp2_with fail
        go_quiet (fail)
        have hbel2 := below_drewN hbel nq
        go_wp2
        go_ret
        exact ⟨rfl, hbel2⟩
    · obtain rfl : y = h := by omega
      go_wp2
      obtain ⟨wo, hwo⟩ : ∃ wo : World, wo = wr := ⟨_, rfl⟩
      subst hwo
      obtain ⟨h', hh'⟩ : ∃ h', h' = y := ⟨_, rfl⟩
      go_loopw [10] (fun i wx => ∃ x : Nat, x ≤ wd ∧ i = .int .i64 x ∧ Hid (∀ j, j < x → colOk l wd y f j = true) ∧ Below w.heap.size w wx) (fun i _ => wd - (intOf i).toNat)
      case atStart => exact ⟨0, Nat.zero_le _, rfl, Lib.hid (fun j hj => absurd hj (by omega)), hbel⟩
      case round =>
        clear hbel
        obtain ⟨x, hxw, rfl, HX, hbel⟩ := hrel
        by_cases hlt2 : x < wd
        · have hyw : (y - 1 + 1) * wd = (y - 1) * wd + wd := Nat.succ_mul (y - 1) wd
          have hwh : y * wd = wd * y := Nat.mul_comm y wd
          have hy1 : y - 1 + 1 = y := by omega
          rw [hy1] at hyw
          obtain ⟨p, hp⟩ : ∃ p, p = y - 1 := ⟨_, rfl⟩
          obtain ⟨i0, hi0⟩ : ∃ i0, i0 = p * wd := ⟨_, rfl⟩
          obtain ⟨i1, hi1⟩ : ∃ i1, i1 = i0 + x := ⟨_, rfl⟩
          have hi0' : i0 = (y - 1) * wd := by rw [hi0, hp]
          have b0 : x < n := by rw [HN.out, hfl]; omega
          have b1 : i1 < n := by rw [HN.out, hfl]; omega
          have e1 : (y : Int) - 1 = (p : Int) := by omega
          have e2 : (p : Int) * (wd : Int) = (i0 : Int) := by rw [hi0]; exact (Int.natCast_mul p wd).symm
          have e3 : (i0 : Int) + (x : Int) = (i1 : Int) := by omega
          have e4 : IntKind.i64.wrap ((y : Int) - 1) = (p : Int) := by rw [e1]; exact IntWalk.i64_in _ (by omega)
          have e5 : IntKind.i64.wrap ((p : Int) * (wd : Int)) = (i0 : Int) := by rw [e2]; exact IntWalk.i64_in _ (by omega)
          have e6 : IntKind.i64.wrap ((i0 : Int) + (x : Int)) = (i1 : Int) := by rw [e3]; exact IntWalk.i64_in _ (by omega)
          obtain ⟨u, hu, u1⟩ := HCL.out i1 b1
          obtain ⟨z, hz, z1⟩ := HCL.out x b0
          have hul : u < l.length := hin u (List.mem_of_getElem? hu)
          have hzl : z < l.length := hin z (List.mem_of_getElem? hz)
          obtain ⟨tu, htu, a1, a2, a3, a4⟩ := HTL.out u hul
          obtain ⟨tz, htz, t1, t2, t3, t4⟩ := HTL.out z hzl
          have hro : colOk l wd y f x = decide (tu.bottom = tz.top) := by
            unfold colOk
            rw [getD_of (by rw [← hi0', ← hi1]; exact hu), getD_of hz, tileAt_of htu, tileAt_of htz]
          have HRO := Lib.hid hro
          replace u1 := (hbel.cell (p := ⟨bq, oq + i1, none⟩) hbq).trans u1
          replace z1 := (hbel.cell (p := ⟨bq, oq + x, none⟩) hbq).trans z1
          replace a3 := (hbel.cell (p := ⟨b, off + u * 4 + 2, none⟩) hb).trans a3
          replace t1 := (hbel.cell (p := ⟨b, off + z * 4, none⟩) hb).trans t1
          clear hyw hwh hi0 hi0' hi1 hp hy1 hu hz htu htz hro a1 a2 a4 t2 t3 t4
          by_cases hco : tu.bottom = tz.top
          · have f0 : (tu.bottom != tz.top) = false := by simpa using hco
            have hk2 := below_succ (P := fun j => colOk l wd y f j = true) HX.out (by rw [HRO.out]; exact decide_eq_true hco)
            have HX2 := Lib.hid hk2
            clear hco hk2
            go_wp2_with fail
            go_quiet (fail)
            have hbel2 := below_drewN hbel nq
            generalize wr.drewN nq = w2 at *
            clear e1 e2 e3 e4 e5 e6
            go_wp2
            go_roundw
            case rel => exact ⟨x + 1, by omega, by go_num, HX2, hbel2⟩
            case measure => simp [intOf]; omega
          · have f0 : (tu.bottom != tz.top) = true := by simpa using hco
            obtain rfl : R = false := by rw [HR.out]; exact closes_col hlt2 (by rw [HRO.out]; exact decide_eq_false hco)
            clear hco
            go_wp2_with fail
            go_quiet (fail)
            have hbel2 := below_drewN hbel nq
            go_wp2
            go_ret
            exact ⟨rfl, hbel2⟩
        · obtain rfl : x = wd := by omega
          obtain rfl : R = true := by rw [HR.out]; exact closes_yes HY.out HX.out
          go_wp2
          go_ret
          exact ⟨rfl, hbel⟩
end Go.Proofs.YtppbkiajcpdkiaaGreatDoor

namespace Go.Proofs.YtppbkiajcpdkiaaGreatDoor
open Go.RowKit

def gridF (a b : Int) : Bool := inW a 1 4 && inW b 1 4
set_option maxRecDepth 100000 in
set_option maxHeartbeats 400000 in
theorem impl_gridF_c (a b : Int) (w : World) : Calls Tryz.prog 180 #[.int .i64 a, .int .i64 b] w fun e w' => e = .returned (.bool (gridF a b)) ∧ w = w' := by
  have H1 := Lib.hid (between_w a 1 4 w)
  have H2 := Lib.hid (between_w b 1 4 w)
  obtain ⟨R, hR⟩ : ∃ R, R = gridF a b := ⟨_, rfl⟩
  rw [← hR]
  have HR := Lib.hid hR
  clear hR
  go_enter Tryz.func180, Tryz.ntmps180
  go_wp2_with fail
  refine (H1.out).mono ?_
  rintro e w1 ⟨rfl, rfl⟩
  cases h1 : inW a 1 4
  · obtain rfl : R = false := by rw [HR.out]; unfold gridF; rw [h1]; rfl
    go_wp2
    go_ret
    exact ⟨rfl, rfl⟩
  · have HB : Hid (inW b 1 4 = R) := Lib.hid (by rw [HR.out]; unfold gridF; rw [h1]; rfl)
    go_wp2_with fail
    refine (H2.out).mono ?_
    rintro e w1 ⟨rfl, rfl⟩
    rw [HB.out]
    go_wp2
    go_ret
    exact ⟨rfl, rfl⟩
set_option maxRecDepth 100000 in
set_option maxHeartbeats 400000 in
theorem spec_gridF_c (a b : Int) (w : World) : Calls Tryz.prog 173 #[.int .i64 a, .int .i64 b] w fun e w' => e = .returned (.bool (gridF a b)) ∧ w = w' := by
  have H1 := Lib.hid (l1In_w a 1 4 w)
  have H2 := Lib.hid (l1In_w b 1 4 w)
  obtain ⟨R, hR⟩ : ∃ R, R = gridF a b := ⟨_, rfl⟩
  rw [← hR]
  have HR := Lib.hid hR
  clear hR
  go_enter Tryz.func173, Tryz.ntmps173
  go_wp2_with fail
  refine (H1.out).mono ?_
  rintro e w1 ⟨rfl, rfl⟩
  cases h1 : inW a 1 4
  · obtain rfl : R = false := by rw [HR.out]; unfold gridF; rw [h1]; rfl
    go_wp2
    go_ret
    exact ⟨rfl, rfl⟩
  · have HB : Hid (inW b 1 4 = R) := Lib.hid (by rw [HR.out]; unfold gridF; rw [h1]; rfl)
    go_wp2_with fail
    refine (H2.out).mono ?_
    rintro e w1 ⟨rfl, rfl⟩
    rw [HB.out]
    go_wp2
    go_ret
    exact ⟨rfl, rfl⟩
def toN (F : List Int) : List Nat := F.map Int.toNat
/-- is number i a tile that fits behind those before? -/
def okF (l : List Wg) (wd : Nat) (F : List Int) (i : Nat) : Bool := match F[i]? with
  | none => true
  | some x => inW x 0 ((l.length : Int) - 1) && fitsW l wd (toN (F.take i)) x.toNat
def fillB (l : List Wg) (wd h : Int) (F : List Int) : Bool := areW l && (gridF wd h && (decide ((F.length : Int) = wd * h) && (List.range F.length).all (okF l wd.toNat F)))
def perB (l : List Wg) (wd h : Int) (F : List Int) : Bool := fillB l wd h F && closesW l wd.toNat h.toNat (toN F)
theorem okF_at {l : List Wg} {wd i : Nat} {F : List Int} {x : Int} (h : F[i]? = some x) : okF l wd F i = (inW x 0 ((l.length : Int) - 1) && fitsW l wd (toN (F.take i)) x.toNat) := by
  unfold okF; rw [h]
theorem fill_all {l : List Wg} {wd n : Nat} {F : List Int} (hn : n = F.length) {T : Bool} (hT : T = (List.range F.length).all (okF l wd F)) (h : ∀ i < n, okF l wd F i = true) : T = true := by
  rw [hT, List.all_eq_true]
  intro i hi
  rw [List.mem_range, ← hn] at hi
  exact h i hi
theorem fill_no {l : List Wg} {wd n i : Nat} {F : List Int} (hn : n = F.length) {T : Bool} (hT : T = (List.range F.length).all (okF l wd F)) (hi : i < n) (h : okF l wd F i = false) : T = false := by
  rw [hT, Bool.eq_false_iff]
  intro ha
  rw [List.all_eq_true] at ha
  have := ha i (List.mem_range.2 (by omega))
  rw [h] at this
  cases this
theorem fc_toN : ∀ {F : List Int}, (∀ x ∈ F, 0 ≤ x) → fc (toN F) = F
  | [], _ => rfl
  | a :: F, h => by
    show ((a.toNat : Nat) : Int) :: fc (toN F) = a :: F
    rw [fc_toN (fun x hx => h x (List.mem_cons_of_mem _ hx)), Int.toNat_of_nonneg (h a (List.mem_cons_self ..))]
/-- the tiles before number k, where all are right so far -/
structure PreF (l : List Wg) (wd : Nat) (F : List Int) (k : Nat) : Prop where
  fc : fc (toN (F.take k)) = F.take k
  inT : inT l (toN (F.take k))
  len : k ≤ F.length → (toN (F.take k)).length = k
theorem preF {l : List Wg} {wd k : Nat} {F : List Int} (h : ∀ i < k, okF l wd F i = true) : PreF l wd F k := by
  have hin : ∀ x ∈ F.take k, 0 ≤ x ∧ x < (l.length : Int) := by
    intro x hx
    obtain ⟨i, hi⟩ := List.getElem?_of_mem hx
    have hik : i < k := by
      have := (List.getElem?_eq_some_iff.1 hi).1
      rw [List.length_take] at this
      omega
    rw [List.getElem?_take, if_pos hik] at hi
    have := h i hik
    rw [okF_at hi, Bool.and_eq_true, inW_iff] at this
    omega
  refine ⟨fc_toN fun x hx => (hin x hx).1, ?_, fun hk => ?_⟩
  · intro t ht
    obtain ⟨x, hx, rfl⟩ := List.mem_map.1 ht
    have := hin x hx
    omega
  · unfold toN
    rw [List.length_map, List.length_take]
    omega
theorem ints_take {w : World} {n c k : Nat} {A : Option Addr} {F : List Int} (h : IntsRd w 0 w.heap.size (.slice A n c) F) (hk : k ≤ n) : IntsRd w 0 w.heap.size (.slice A k c) (F.take k) := by
  obtain ⟨A', c', he, hm, hr⟩ := h
  injection he with h1 h2 h3
  subst h1 h2 h3
  have hkl : (F.take k).length = k := by rw [List.length_take]; omega
  refine ⟨_, c, by rw [hkl], by rw [hkl]; omega, by rw [ic_length, hkl]; omega, fun h0 => ?_⟩
  obtain ⟨b', off', e, h1, h2, h3⟩ := hr.2 (by rw [hkl] at h0; omega)
  refine ⟨b', off', e, h1, h2, fun j u hu => h3 j u ?_⟩
  have hj : j < k := by have := (List.getElem?_eq_some_iff.1 hu).1; rw [ic_length, hkl] at this; exact this
  simp only [ic, List.map_take, List.getElem?_take, if_pos hj] at hu
  simpa [ic] using hu
theorem ints_atF {w : World} {l : List Int} {A : Option Addr} {n c i : Nat} {x : Int} (h : IntsRd w 0 w.heap.size (.slice A n c) l) (hi : l[i]? = some x) : ∃ b off, A = some ⟨b, off, none⟩ ∧ b < w.heap.size ∧ w.cell? ⟨b, off + i, none⟩ = some (.int .i64 x) := by
  obtain ⟨A', c', he, hm, hr⟩ := h
  injection he with h1 h2 h3
  subst h1 h2 h3
  have hil := (List.getElem?_eq_some_iff.1 hi).1
  obtain ⟨b, off, e, _, h2, h4⟩ := hr.2 (by omega)
  exact ⟨b, off, e, h2, h4 i (.int .i64 x) (by simp [ic, hi])⟩
theorem areW_len {l : List Wg} (h : areW l = true) : 1 ≤ l.length ∧ l.length ≤ 6 := by
  unfold areW at h
  rw [Bool.and_eq_true, inW_iff] at h
  omega
set_option maxRecDepth 100000 in
set_option maxHeartbeats 3200000 in
theorem impl_fillF_c {v : Value} {A' : Option Addr} {n c' : Nat} {l : List Wg} {F : List Int} (wd h : Int) (w : World) (hl0 : WangsRd w 0 w.heap.size v l) (hf : IntsRd w 0 w.heap.size (.slice A' n c') F) (hcap : n ≤ c') :
    Calls Tryz.prog 147 #[v, .int .i64 wd, .int .i64 h, .slice A' n c'] w fun e w' => e = .returned (.bool (fillB l wd h F)) ∧ Below w.heap.size w w' := by
  have HLW : Hid (∀ w1, Below w.heap.size w w1 → WangsRd w1 0 w1.heap.size v l) := Lib.hid fun w1 b1 => (hl0.keep (SameIn.of_below b1 (Nat.le_refl _))).more (Nat.le_refl _) b1.size
  have HRF : Hid (∀ w1, Below w.heap.size w w1 → IntsRd w1 0 w1.heap.size (.slice A' n c') F) := Lib.hid fun w1 b1 => (hf.keep (SameIn.of_below b1 (Nat.le_refl _))).more (Nat.le_refl _) b1.size
  obtain ⟨A, c, rfl, hmm, hr⟩ := id hl0
  have hnl : n = F.length := by obtain ⟨_, _, he, _, _⟩ := hf; injection he
  have hn63 : n ≤ 9223372036854775807 := by obtain ⟨_, _, he, hm, _⟩ := hf; injection he with _ he2 _; unfold maxLen at hm; omega
  have hl63 : l.length ≤ 9223372036854775807 := by unfold maxLen at hmm; omega
  obtain ⟨T, hT⟩ : ∃ T, T = fillB l wd h F := ⟨_, rfl⟩
  rw [← hT]
  have HT := Lib.hid hT
  have HN := Lib.hid hnl
  have HAW := Lib.hid (impl_areW_c (l := l) w hl0)
  obtain ⟨K, hK⟩ : ∃ K, K = areW l := ⟨_, rfl⟩
  rw [← hK] at HAW
  have HK := Lib.hid hK
  clear hT hK hnl hr hmm
  go_enter Tryz.func147, Tryz.ntmps147
  go_wp2_with fail
  refine (HAW.out).mono ?_
  rintro e w1 ⟨rfl, b1⟩
  clear HAW
  cases K
  · obtain rfl : T = false := by rw [HT.out, fillB, ← HK.out]; rfl
    go_wp2
    go_ret
    exact ⟨rfl, b1⟩
  have HGR := Lib.hid (impl_gridF_c wd h w1)
  obtain ⟨G, hG⟩ : ∃ G, G = gridF wd h := ⟨_, rfl⟩
  rw [← hG] at HGR
  have HG := Lib.hid hG
  clear hG
  cases G
  · obtain rfl : T = false := by rw [HT.out, fillB, ← HG.out, Bool.false_and, Bool.and_false]
    go_wp2_with fail
    refine (HGR.out).mono ?_
    rintro e w2 ⟨rfl, rfl⟩
    go_wp2
    go_ret
    exact ⟨rfl, b1⟩
  have hg2 : (1 ≤ wd ∧ wd ≤ 4) ∧ (1 ≤ h ∧ h ≤ 4) := by
    have := HG.out.symm
    unfold gridF at this
    rw [Bool.and_eq_true, inW_iff, inW_iff] at this
    exact this
  obtain ⟨⟨q1, q2⟩, q3, q4⟩ := hg2
  obtain ⟨wn, rfl⟩ : ∃ wn : Nat, wd = (wn : Int) := ⟨wd.toNat, by omega⟩
  obtain ⟨hh, rfl⟩ : ∃ hh : Nat, h = (hh : Int) := ⟨h.toNat, by omega⟩
  obtain ⟨z, hz⟩ : ∃ z, z = wn * hh := ⟨_, rfl⟩
  have hz16 : z ≤ 16 := by rw [hz]; exact Nat.le_trans (Nat.mul_le_mul (show wn ≤ 4 by omega) (show hh ≤ 4 by omega)) (by decide)
  have hz1 : 1 ≤ z := by rw [hz]; exact Nat.mul_pos (by omega) (by omega)
  have hmul : (wn : Int) * (hh : Int) = (z : Int) := by rw [hz]; simp
  have hmul2 : IntKind.i64.wrap ((wn : Int) * (hh : Int)) = (z : Int) := by rw [hmul]; exact IntWalk.i64_in _ (by omega)
  have hmul3 : wrap64 ((wn : Int) * (hh : Int)) = (z : Int) := by rw [hmul]; exact IntWalk.wrap64_in _ (by omega)
  have HZ := Lib.hid hmul
  clear hz hmul
  by_cases hnz : n = z
  rotate_left
  · have hne : ((n : Int) != (z : Int)) = true := by simp; omega
    obtain rfl : T = false := by rw [HT.out, fillB, HZ.out, decide_eq_false (by rw [← HN.out]; omega), Bool.false_and, Bool.and_false, Bool.and_false]
    go_wp2_with fail
    refine (HGR.out).mono ?_
    rintro e w2 ⟨rfl, rfl⟩
    go_wp2
    go_ret
    exact ⟨rfl, b1⟩
  have hne : ((n : Int) != (n : Int)) = false := by simp
  have HTA : Hid (T = (List.range F.length).all (okF l wn F)) := Lib.hid (by rw [HT.out, fillB, ← HK.out, ← HG.out, HZ.out, decide_eq_true (by rw [← HN.out]; omega), Int.toNat_natCast]; rfl)
  have hn16 : n ≤ 16 := by omega
  have hn1 : 1 ≤ n := by omega
  have hL := areW_len HK.out.symm
  have hL1 := hL.1
  have hL6 := hL.2
  obtain ⟨L, hLL⟩ : ∃ L, L = l.length := ⟨_, rfl⟩
  have HLN := Lib.hid hLL
  have HWR1 : Hid (wrap64 ((L : Int) - 1) = (L : Int) - 1) := Lib.hid (IntWalk.wrap64_in _ (by omega))
  have HWR2 : Hid (IntKind.i64.wrap ((L : Int) - 1) = (L : Int) - 1) := Lib.hid (IntWalk.i64_in _ (by omega))
  rw [← hLL] at hL1 hL6 ⊢
  rw [← hnz] at hmul2 hmul3
  clear hnz hL hLL hl63 hz16 hz1 HZ
  go_wp2_with fail
  refine (HGR.out).mono ?_
  rintro e w2 ⟨rfl, rfl⟩
  clear HGR
  go_wp2
  clear hmul2 hmul3 hne
  go_loopw [30] (fun iv wx => ∃ k : Nat, k ≤ n ∧ iv = .int .i64 k ∧ Hid (∀ i < k, okF l wn F i = true) ∧ Below w.heap.size w wx) (fun iv _ => n - (intOf iv).toNat)
  case atStart => exact ⟨0, Nat.zero_le _, rfl, Lib.hid (fun i hi => absurd hi (Nat.not_lt_zero _)), b1⟩
  case round =>
    clear b1
    obtain ⟨k, hk, rfl, HO, hbel⟩ := hrel
    by_cases hlt : k < n
    · have hlti : (k : Int) < (n : Int) := by omega
      obtain ⟨x, hx⟩ : ∃ x, F[k]? = some x := ⟨F[k]'(by rw [← HN.out]; exact hlt), List.getElem?_eq_getElem _⟩
      obtain ⟨b, off, hA1, hb, y0⟩ := ints_atF (HRF.out wr hbel) hx
      subst hA1
      have HOK := Lib.hid (okF_at (l := l) (wd := wn) hx)
      rw [← HLN.out] at HOK
      have HBT := Lib.hid (between_w x 0 ((L : Int) - 1) wr)
      obtain ⟨I, hI⟩ : ∃ I, I = inW x 0 ((L : Int) - 1) := ⟨_, rfl⟩
      rw [← hI] at HBT HOK
      have HI := Lib.hid hI
      have HX := Lib.hid hx
      clear hI hx
      cases I
      · obtain rfl : T = false := fill_no HN.out HTA.out hlt (by rw [HOK.out]; rfl)
        have hwr1 := HWR1.out
        have hwr2 := HWR2.out
        go_wp2_with fail
        refine (HBT.out).mono ?_
        rintro e w2 ⟨rfl, rfl⟩
        go_wp2
        go_ret
        exact ⟨rfl, hbel⟩
      have hxr := inW_iff.1 HI.out.symm
      obtain ⟨t, rfl⟩ := Int.eq_ofNat_of_zero_le hxr.1
      have HP := preF HO.out
      have HK1 : Hid (wrap64 ((k : Int) + 1) = ((k + 1 : Nat) : Int)) := Lib.hid (by rw [IntWalk.wrap64_in _ (by omega)]; omega)
      have htk : F.take (k + 1) = fc (toN (F.take k) ++ [t]) := by
        rw [List.take_add_one, HX.out, fc_append, HP.fc]
        rfl
      have HFT := Lib.hid (impl_fits_c (f := toN (F.take k)) wn t wr (HLW.out wr hbel) (by rw [← htk]; exact ints_take (HRF.out wr hbel) (show k + 1 ≤ n by omega)) HP.inT (by rw [← HLN.out]; omega) (by rw [← HLN.out]; exact hL6) (by omega) (by omega) (by rw [HP.len (by rw [← HN.out]; omega)]; omega))
      rw [← HLN.out] at HFT
      rw [Int.toNat_natCast] at HOK
      obtain ⟨B, hB⟩ : ∃ B, B = fitsW l wn (toN (F.take k)) t := ⟨_, rfl⟩
      rw [← hB] at HFT HOK
      have s1 : k + 1 ≤ c' := by omega
      have s2 : (0 : Int) ≤ ((k + 1 : Nat) : Int) := by omega
      have s3 : ((k + 1 : Nat) : Int) ≤ (c' : Int) := by omega
      have s4 : (k : Int) + 1 ≤ (c' : Int) := by omega
      have s5 : (0 : Int) ≤ (k : Int) + 1 := by omega
      have s6 : (0 : Int) ≤ (k : Int) + 1 ∧ (k : Int) + 1 ≤ (c' : Int) := ⟨s5, s4⟩
      clear hB htk HP hxr
      have hwr1 := HWR1.out
      have hwr2 := HWR2.out
      have hk1 := HK1.out
      go_wp2_with fail
      refine (HBT.out).mono ?_
      rintro e w2 ⟨rfl, rfl⟩
      go_wp2_with fail
      refine (HFT.out).mono ?_
      rintro e w3 ⟨rfl, b3⟩
      have hb3 := hbel.trans (b3.mono hbel.size)
      clear HFT HBT b3 hbel hwr1 hwr2 hk1 s1 s2 s3 s4 s5 s6 y0
      cases B
      · obtain rfl : T = false := fill_no HN.out HTA.out hlt (by rw [HOK.out]; rfl)
        go_wp2
        go_ret
        exact ⟨rfl, hb3⟩
      · have HO2 : Hid (∀ i < k + 1, okF l wn F i = true) := Lib.hid (fun i hi => by
          by_cases e : i = k
          · rw [e, HOK.out]; rfl
          · exact HO.out i (by omega))
        go_wp2
        go_roundw
        case rel => exact ⟨k + 1, by omega, by go_num, HO2, hb3⟩
        case measure => simp [intOf]; omega
    · obtain rfl : k = n := by omega
      obtain rfl : T = true := fill_all HN.out HTA.out HO.out
      go_wp2
      go_ret
      exact ⟨rfl, hbel⟩
set_option maxRecDepth 100000 in
set_option maxHeartbeats 3200000 in
theorem spec_fillF_c {v : Value} {A' : Option Addr} {n c' : Nat} {l : List Wg} {F : List Int} (wd h : Int) (w : World) (hl0 : WangsRd w 0 w.heap.size v l) (hf : IntsRd w 0 w.heap.size (.slice A' n c') F) (hcap : n ≤ c') :
    Calls Tryz.prog 135 #[v, .int .i64 wd, .int .i64 h, .slice A' n c'] w fun e w' => e = .returned (.bool (fillB l wd h F)) ∧ Below w.heap.size w w' := by
  have HLW : Hid (∀ w1, Below w.heap.size w w1 → WangsRd w1 0 w1.heap.size v l) := Lib.hid fun w1 b1 => (hl0.keep (SameIn.of_below b1 (Nat.le_refl _))).more (Nat.le_refl _) b1.size
  have HRF : Hid (∀ w1, Below w.heap.size w w1 → IntsRd w1 0 w1.heap.size (.slice A' n c') F) := Lib.hid fun w1 b1 => (hf.keep (SameIn.of_below b1 (Nat.le_refl _))).more (Nat.le_refl _) b1.size
  obtain ⟨A, c, rfl, hmm, hr⟩ := id hl0
  have hnl : n = F.length := by obtain ⟨_, _, he, _, _⟩ := hf; injection he
  have hn63 : n ≤ 9223372036854775807 := by obtain ⟨_, _, he, hm, _⟩ := hf; injection he with _ he2 _; unfold maxLen at hm; omega
  have hl63 : l.length ≤ 9223372036854775807 := by unfold maxLen at hmm; omega
  obtain ⟨T, hT⟩ : ∃ T, T = fillB l wd h F := ⟨_, rfl⟩
  rw [← hT]
  have HT := Lib.hid hT
  have HN := Lib.hid hnl
  have HAW := Lib.hid (spec_areW_c (l := l) w hl0)
  obtain ⟨K, hK⟩ : ∃ K, K = areW l := ⟨_, rfl⟩
  rw [← hK] at HAW
  have HK := Lib.hid hK
  clear hT hK hnl hr hmm
  go_enter Tryz.func135, Tryz.ntmps135
  go_wp2_with fail
  refine (HAW.out).mono ?_
  rintro e w1 ⟨rfl, b1⟩
  clear HAW
  cases K
  · obtain rfl : T = false := by rw [HT.out, fillB, ← HK.out]; rfl
    go_wp2
    go_ret
    exact ⟨rfl, b1⟩
  have HGR := Lib.hid (spec_gridF_c wd h w1)
  obtain ⟨G, hG⟩ : ∃ G, G = gridF wd h := ⟨_, rfl⟩
  rw [← hG] at HGR
  have HG := Lib.hid hG
  clear hG
  cases G
  · obtain rfl : T = false := by rw [HT.out, fillB, ← HG.out, Bool.false_and, Bool.and_false]
    go_wp2_with fail
    refine (HGR.out).mono ?_
    rintro e w2 ⟨rfl, rfl⟩
    go_wp2
    go_ret
    exact ⟨rfl, b1⟩
  have hg2 : (1 ≤ wd ∧ wd ≤ 4) ∧ (1 ≤ h ∧ h ≤ 4) := by
    have := HG.out.symm
    unfold gridF at this
    rw [Bool.and_eq_true, inW_iff, inW_iff] at this
    exact this
  obtain ⟨⟨q1, q2⟩, q3, q4⟩ := hg2
  obtain ⟨wn, rfl⟩ : ∃ wn : Nat, wd = (wn : Int) := ⟨wd.toNat, by omega⟩
  obtain ⟨hh, rfl⟩ : ∃ hh : Nat, h = (hh : Int) := ⟨h.toNat, by omega⟩
  obtain ⟨z, hz⟩ : ∃ z, z = wn * hh := ⟨_, rfl⟩
  have hz16 : z ≤ 16 := by rw [hz]; exact Nat.le_trans (Nat.mul_le_mul (show wn ≤ 4 by omega) (show hh ≤ 4 by omega)) (by decide)
  have hz1 : 1 ≤ z := by rw [hz]; exact Nat.mul_pos (by omega) (by omega)
  have hmul : (wn : Int) * (hh : Int) = (z : Int) := by rw [hz]; simp
  have hmul2 : IntKind.i64.wrap ((wn : Int) * (hh : Int)) = (z : Int) := by rw [hmul]; exact IntWalk.i64_in _ (by omega)
  have hmul3 : wrap64 ((wn : Int) * (hh : Int)) = (z : Int) := by rw [hmul]; exact IntWalk.wrap64_in _ (by omega)
  have HZ := Lib.hid hmul
  clear hz hmul
  by_cases hnz : n = z
  rotate_left
  · have hne : ((n : Int) != (z : Int)) = true := by simp; omega
    obtain rfl : T = false := by rw [HT.out, fillB, HZ.out, decide_eq_false (by rw [← HN.out]; omega), Bool.false_and, Bool.and_false, Bool.and_false]
    go_wp2_with fail
    refine (HGR.out).mono ?_
    rintro e w2 ⟨rfl, rfl⟩
    go_wp2
    go_ret
    exact ⟨rfl, b1⟩
  have hne : ((n : Int) != (n : Int)) = false := by simp
  have HTA : Hid (T = (List.range F.length).all (okF l wn F)) := Lib.hid (by rw [HT.out, fillB, ← HK.out, ← HG.out, HZ.out, decide_eq_true (by rw [← HN.out]; omega), Int.toNat_natCast]; rfl)
  have hn16 : n ≤ 16 := by omega
  have hn1 : 1 ≤ n := by omega
  have hL := areW_len HK.out.symm
  have hL1 := hL.1
  have hL6 := hL.2
  obtain ⟨L, hLL⟩ : ∃ L, L = l.length := ⟨_, rfl⟩
  have HLN := Lib.hid hLL
  have HWR1 : Hid (wrap64 ((L : Int) - 1) = (L : Int) - 1) := Lib.hid (IntWalk.wrap64_in _ (by omega))
  have HWR2 : Hid (IntKind.i64.wrap ((L : Int) - 1) = (L : Int) - 1) := Lib.hid (IntWalk.i64_in _ (by omega))
  rw [← hLL] at hL1 hL6 ⊢
  rw [← hnz] at hmul2 hmul3
  clear hnz hL hLL hl63 hz16 hz1 HZ
  go_wp2_with fail
  refine (HGR.out).mono ?_
  rintro e w2 ⟨rfl, rfl⟩
  clear HGR
  go_wp2
  clear hmul2 hmul3 hne
  go_loopw [9] (fun iv wx => ∃ k : Nat, k ≤ n ∧ iv = .int .i64 k ∧ Hid (∀ i < k, okF l wn F i = true) ∧ Below w.heap.size w wx) (fun iv _ => n - (intOf iv).toNat)
  case atStart => exact ⟨0, Nat.zero_le _, rfl, Lib.hid (fun i hi => absurd hi (Nat.not_lt_zero _)), b1⟩
  case round =>
    clear b1
    obtain ⟨k, hk, rfl, HO, hbel⟩ := hrel
    by_cases hlt : k < n
    · have hlti : (k : Int) < (n : Int) := by omega
      obtain ⟨x, hx⟩ : ∃ x, F[k]? = some x := ⟨F[k]'(by rw [← HN.out]; exact hlt), List.getElem?_eq_getElem _⟩
      obtain ⟨b, off, hA1, hb, y0⟩ := ints_atF (HRF.out wr hbel) hx
      subst hA1
      have l1 := Later.cell y0 hb
      have HOK := Lib.hid (okF_at (l := l) (wd := wn) hx)
      rw [← HLN.out] at HOK
      have HLI : Hid (∀ u : Later wr, Calls Tryz.prog 36 #[.int .i64 x, .int .i64 0, .int .i64 ((L : Int) - 1)] u.w fun e w' => e = .returned (.bool (inW x 0 ((L : Int) - 1))) ∧ u.w = w') := Lib.hid fun u => l1In_w x 0 ((L : Int) - 1) u.w
      obtain ⟨I, hI⟩ : ∃ I, I = inW x 0 ((L : Int) - 1) := ⟨_, rfl⟩
      rw [← hI] at HLI HOK
      have HI := Lib.hid hI
      have HX := Lib.hid hx
      clear hI hx y0
      cases I
      · obtain rfl : T = false := fill_no HN.out HTA.out hlt (by rw [HOK.out]; rfl)
        have HLC : Hid True := Lib.hid trivial
        have hwr1 := HWR1.out
        have hwr2 := HWR2.out
        go_wp2_with fail
        refine wp_region_later (by kernel_rfl) (by kernel_rfl) ?_
        repeat (go_big_quiet_step ((go_at_call 36; with_reducible exact Later.same (HLI.out _))))
        refine wpQuiet_nil ?_
        intro w3 hw3
        obtain ⟨u3, hu3⟩ := hw3
        subst hu3
        have hb3 := hbel.trans (u3.h.mono hbel.size)
        clear l1 HLI HLC
        generalize u3.w = w3 at *
        go_wp2
        go_ret
        exact ⟨rfl, hb3⟩
      have hxr := inW_iff.1 HI.out.symm
      obtain ⟨t, rfl⟩ := Int.eq_ofNat_of_zero_le hxr.1
      have HP := preF HO.out
      have HLC : Hid (∀ u : Later wr, Calls Tryz.prog 174 #[.slice A L c, .int .i64 (wn : Int), .slice (some ⟨b, off, none⟩) k c', .int .i64 (t : Int)] u.w fun e w' => e = .returned (.bool (fitsW l wn (toN (F.take k)) t)) ∧ Below u.w.heap.size u.w w') := Lib.hid fun u => by
        have hbu := hbel.trans (u.h.mono hbel.size)
        have := spec_fits_c (f := toN (F.take k)) wn t u.w (HLW.out u.w hbu) (by rw [HP.fc]; exact ints_take (HRF.out u.w hbu) (show k ≤ n by omega)) HP.inT (by rw [← HLN.out]; omega) (by rw [← HLN.out]; exact hL6) (by omega) (by omega) (by rw [HP.len (by rw [← HN.out]; omega)]; omega)
        rwa [← HLN.out] at this
      rw [Int.toNat_natCast] at HOK
      obtain ⟨B, hB⟩ : ∃ B, B = fitsW l wn (toN (F.take k)) t := ⟨_, rfl⟩
      rw [← hB] at HLC HOK
      have s1 : k ≤ c' := by omega
      clear hB HP hxr
      cases B
      · obtain rfl : T = false := fill_no HN.out HTA.out hlt (by rw [HOK.out]; rfl)
        have hwr1 := HWR1.out
        have hwr2 := HWR2.out
        go_wp2_with fail
        refine wp_region_later (by kernel_rfl) (by kernel_rfl) ?_
        repeat (go_big_quiet_step ((first
          | (go_at_call 36; with_reducible exact Later.same (HLI.out _))
          | (go_at_call 174; with_reducible exact Later.call (HLC.out _)))))
        refine wpQuiet_nil ?_
        intro w3 hw3
        obtain ⟨u3, hu3⟩ := hw3
        subst hu3
        have hb3 := hbel.trans (u3.h.mono hbel.size)
        clear l1 HLI HLC hwr1 hwr2
        generalize u3.w = w3 at *
        go_wp2
        go_ret
        exact ⟨rfl, hb3⟩
      · have HO2 : Hid (∀ i < k + 1, okF l wn F i = true) := Lib.hid (fun i hi => by
          by_cases e : i = k
          · rw [e, HOK.out]; rfl
          · exact HO.out i (by omega))
        have hwr1 := HWR1.out
        have hwr2 := HWR2.out
        go_wp2_with fail
        refine wp_region_later (by kernel_rfl) (by kernel_rfl) ?_
        repeat (go_big_quiet_step ((first
          | (go_at_call 36; with_reducible exact Later.same (HLI.out _))
          | (go_at_call 174; with_reducible exact Later.call (HLC.out _)))))
        refine wpQuiet_nil ?_
        intro w3 hw3
        obtain ⟨u3, hu3⟩ := hw3
        subst hu3
        have hb3 := hbel.trans (u3.h.mono hbel.size)
        clear l1 HLI HLC hwr1 hwr2
        generalize u3.w = w3 at *
        go_wp2
        go_roundw
        case rel => exact ⟨k + 1, by omega, by go_num, HO2, hb3⟩
        case measure => simp [intOf]; omega
    · obtain rfl : k = n := by omega
      obtain rfl : T = true := fill_all HN.out HTA.out HO.out
      go_wp2
      go_ret
      exact ⟨rfl, hbel⟩
/-- what a fill that is right says -/
structure FillOk (l : List Wg) (wd h : Int) (F : List Int) : Prop where
  are : areW l = true
  w1 : 1 ≤ wd
  w4 : wd ≤ 4
  h1 : 1 ≤ h
  h4 : h ≤ 4
  len : (toN F).length = wd.toNat * h.toNat
  fc : fc (toN F) = F
  inT : inT l (toN F)
  laid : laidOk l wd.toNat (toN F)
theorem fill_ok {l : List Wg} {wd h : Int} {F : List Int} (hb : fillB l wd h F = true) : FillOk l wd h F := by
  unfold fillB gridF at hb
  simp only [Bool.and_eq_true, decide_eq_true_eq, List.all_eq_true, List.mem_range, inW_iff] at hb
  obtain ⟨h1, ⟨⟨h2, h3⟩, h4, h5⟩, h6, h7⟩ := hb
  have hp : PreF l wd.toNat F F.length := preF h7
  have h8 := hp.fc
  have h9 := hp.inT
  rw [List.take_length] at h8 h9
  obtain ⟨a, rfl⟩ := Int.eq_ofNat_of_zero_le (show 0 ≤ wd by omega)
  obtain ⟨b, rfl⟩ := Int.eq_ofNat_of_zero_le (show 0 ≤ h by omega)
  refine ⟨h1, h2, h3, h4, h5, ?_, h8, h9, ?_⟩
  · rw [Int.toNat_natCast, Int.toNat_natCast]
    unfold toN
    rw [List.length_map]
    have : ((F.length : Nat) : Int) = ((a * b : Nat) : Int) := by rw [h6]; simp
    omega
  · intro k x hx
    obtain ⟨y, hy, rfl⟩ : ∃ y, F[k]? = some y ∧ y.toNat = x := by
      unfold toN at hx
      rw [List.getElem?_map, Option.map_eq_some_iff] at hx
      exact hx
    have hk := (List.getElem?_eq_some_iff.1 hy).1
    have := h7 k hk
    rw [okF_at hy, Bool.and_eq_true] at this
    have e : (toN F).take k = toN (F.take k) := by unfold toN; rw [List.map_take]
    rw [e]
    exact this.2
set_option maxRecDepth 100000 in
set_option maxHeartbeats 1600000 in
theorem impl_perF_c {v : Value} {A' : Option Addr} {n c' : Nat} {l : List Wg} {F : List Int} (wd h : Int) (w : World) (hl0 : WangsRd w 0 w.heap.size v l) (hf : IntsRd w 0 w.heap.size (.slice A' n c') F) (hcap : n ≤ c') :
    Calls Tryz.prog 85 #[v, .int .i64 wd, .int .i64 h, .slice A' n c'] w fun e w' => e = .returned (.bool (perB l wd h F)) ∧ Below w.heap.size w w' := by
  have HLW : Hid (∀ w1, Below w.heap.size w w1 → WangsRd w1 0 w1.heap.size v l) := Lib.hid fun w1 b1 => (hl0.keep (SameIn.of_below b1 (Nat.le_refl _))).more (Nat.le_refl _) b1.size
  have HRF : Hid (∀ w1, Below w.heap.size w w1 → IntsRd w1 0 w1.heap.size (.slice A' n c') F) := Lib.hid fun w1 b1 => (hf.keep (SameIn.of_below b1 (Nat.le_refl _))).more (Nat.le_refl _) b1.size
  have HFI := Lib.hid (impl_fillF_c wd h w hl0 hf hcap)
  obtain ⟨B, hB⟩ : ∃ B, B = fillB l wd h F := ⟨_, rfl⟩
  obtain ⟨T, hT⟩ : ∃ T, T = perB l wd h F := ⟨_, rfl⟩
  rw [← hB] at HFI
  rw [← hT]
  have HB := Lib.hid hB
  have HT := Lib.hid hT
  obtain ⟨A, c, rfl, _, _⟩ := id hl0
  clear hB hT hf hl0
  go_enter Tryz.func85, Tryz.ntmps85
  go_wp2_with fail
  refine (HFI.out).mono ?_
  rintro e w1 ⟨rfl, b1⟩
  cases B
  · obtain rfl : T = false := by rw [HT.out, perB, ← HB.out]; rfl
    go_wp2
    go_ret
    exact ⟨rfl, b1⟩
  have HO := fill_ok HB.out.symm
  have hL := areW_len HO.are
  have e1 : ((wd.toNat : Nat) : Int) = wd := Int.toNat_of_nonneg (by have := HO.w1; omega)
  have e2 : ((h.toNat : Nat) : Int) = h := Int.toNat_of_nonneg (by have := HO.h1; omega)
  have HC := Lib.hid (impl_closes_c (f := toN F) wd.toNat h.toNat w1 (HLW.out w1 b1) (by rw [HO.fc]; exact HRF.out w1 b1) HO.inT hL.1 hL.2 (by have := HO.w1; omega) (by have := HO.w4; omega) (by have := HO.h1; omega) (by have := HO.h4; omega) HO.len)
  rw [e1, e2] at HC
  have hT2 : closesW l wd.toNat h.toNat (toN F) = T := by rw [HT.out, perB, ← HB.out]; rfl
  rw [hT2] at HC
  clear HO hL e1 e2 hT2 HFI
  go_wp2_with fail
  refine (HC.out).mono ?_
  rintro e w2 ⟨rfl, b2⟩
  have hb2 := b1.trans (b2.mono b1.size)
  go_wp2
  go_ret
  exact ⟨rfl, hb2⟩
set_option maxRecDepth 100000 in
set_option maxHeartbeats 1600000 in
theorem spec_perF_c {v : Value} {A' : Option Addr} {n c' : Nat} {l : List Wg} {F : List Int} (wd h : Int) (w : World) (hl0 : WangsRd w 0 w.heap.size v l) (hf : IntsRd w 0 w.heap.size (.slice A' n c') F) (hcap : n ≤ c') :
    Calls Tryz.prog 74 #[v, .int .i64 wd, .int .i64 h, .slice A' n c'] w fun e w' => e = .returned (.bool (perB l wd h F)) ∧ Below w.heap.size w w' := by
  by_cases hb : fillB l wd h F = true
  · have HO := fill_ok hb
    have hL := areW_len HO.are
    have e1 : ((wd.toNat : Nat) : Int) = wd := Int.toNat_of_nonneg (by have := HO.w1; omega)
    have e2 : ((h.toNat : Nat) : Int) = h := Int.toNat_of_nonneg (by have := HO.h1; omega)
    have hnl : n = (toN F).length := by
      obtain ⟨_, _, he, _, _⟩ := hf
      injection he with _ he2 _
      unfold toN
      rw [List.length_map, he2]
    have := spec_periodic_c (f := toN F) wd.toNat h.toNat w hl0 (by rw [HO.fc]; exact hf) ⟨A', c', by rw [hnl], by rw [← hnl]; exact hcap⟩ HO.are HO.inT HO.laid hL.1 hL.2 (by have := HO.w1; omega) (by have := HO.w4; omega) (by have := HO.h1; omega) (by have := HO.h4; omega) HO.len
    rw [e1, e2] at this
    rw [perB, hb, Bool.true_and]
    exact this
  · have hbf : fillB l wd h F = false := by simpa using hb
    have HFI := Lib.hid (spec_fillF_c wd h w hl0 hf hcap)
    rw [hbf] at HFI
    rw [perB, hbf, Bool.false_and]
    obtain ⟨A, c, rfl, _, _⟩ := id hl0
    clear hb hbf hf hl0
    go_enter Tryz.func74, Tryz.ntmps74
    go_wp2_with fail
    refine (HFI.out).mono ?_
    rintro e w1 ⟨rfl, b1⟩
    go_wp2
    go_ret
    exact ⟨rfl, b1⟩
end Go.Proofs.YtppbkiajcpdkiaaGreatDoor
