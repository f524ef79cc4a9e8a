
/-
  Numbers put in order, each once: the library's sort, the program's walk.
-/
import Derived.Test.YtelneohlpljblaaGreatDoorPlcP
import Derived.Test.YtelneohlpljblaaGreatDoorFlipX
import Derived.Test.YtelneohlpljblaaGreatDoorShelf
import Derived.Sort.OwnSortedInts
namespace Go.Proofs.YtelneohlpljblaaGreatDoor
open Go.RowKit

set_option maxRecDepth 100000 in
theorem sortInts_c {v : Value} {n : Nat} {l : List Int} {L : List Res} {w0 w : World} (H : Sep w0 w (Res.row v 3 1 n (ic l) :: L)) (hn : n = l.length) (hn8 : n ≤ 1000000) :
    Calls Tryz.prog 111 #[v] w fun e w' => e = .returned (.tuple #[]) ∧ ∃ s : List Int, s.length = n ∧ s.Pairwise (· ≤ ·) ∧ (∀ c, c ∈ s ↔ c ∈ l) ∧ Sep w0 w' (Res.row v 3 1 n (ic s) :: L) := by
  by_cases h0 : n = 0
  · obtain ⟨A, c, rfl, _, _, _⟩ := Res.row_at H.h0
    subst h0
    have hl : l = [] := List.eq_nil_of_length_eq_zero hn.symm
    subst hl
    refine (Tryz.sort_Ints_none A c w).mono ?_
    rintro e w' ⟨rfl, rfl⟩
    exact ⟨rfl, [], rfl, List.Pairwise.nil, fun c => Iff.rfl, H⟩
  · obtain ⟨g, o, c, rfl, h1, h2, h3⟩ := own_shape H.h0 (by omega)
    obtain ⟨rfl, cs, hb, h4, h5, h6, h7⟩ := own_blk H.h0
    subst hn
    have hH := holds_of_blockI (ss := l) hb (by rw [Nat.mul_one] at h7; exact h7)
    refine (Tryz.sort_Ints g 0 c l w hH h3 (by omega)).mono ?_
    rintro e w' ⟨rfl, n', os, rfl⟩
    have hlen : (l.mergeSort fun x y => decide (x ≤ y)).length = l.length := List.length_mergeSort l
    refine ⟨rfl, l.mergeSort fun x y => decide (x ≤ y), hlen, ?_, fun c => (List.mergeSort_perm l _).mem_iff, ?_⟩
    · have := List.pairwise_mergeSort (le := fun x y : Int => decide (x ≤ y)) (fun a b c h1 h2 => by simp at *; omega) (fun a b => by simp; omega) l
      exact this.imp fun h => by simpa using h
    · refine H.turn (Only.of_grown (row := some g) (grownBy_sortedI _) |> fun h => ⟨h.os, h.tape, h.output, h.size, fun b hb' hd => h.block b hb' (fun e => hd (by simpa [Res.row, Value.ownBlock] using e))⟩) ?_ fun b hb => .inl hb
      exact ownsRow_sortedI hlen (Nat.zero_le _) hb h4 h5 h6
theorem uniqTo_new {s : List Int} {i : Nat} {x : Int} (h : s[i]? = some x) (hc : i = 0 ∨ ¬ s[i - 1]? = some x) : uniqTo s (i + 1) = uniqTo s i ++ [x] := by
  rw [uniqTo, h, if_pos hc]
  simp [List.getD, h]
theorem uniqTo_keep {s : List Int} {i : Nat} {x : Int} (hi : i ≠ 0) (h : s[i]? = some x) (hp : s[i - 1]? = some x) : uniqTo s (i + 1) = uniqTo s i := by
  rw [uniqTo, h, hp, if_neg]
  rintro (q | q)
  · exact hi q
  · exact q rfl
set_option maxRecDepth 100000 in
set_option maxHeartbeats 1600000 in
theorem impl_ordered_c {v : Value} {l : List Int} (w : World) (h : IntsRd w 0 w.heap.size v l) (hn : l.length ≤ 1000000) :
    Calls Tryz.prog 86 #[v] w fun e w' => ∃ v', e = .returned v' ∧ IntsIn w' w.heap.size w'.heap.size v' (srtU l) ∧ Below w.heap.size w w' := by
  obtain ⟨j0, hj, hy0, hy1, hy2⟩ := info_parts infoIntC
  have HC := Lib.hid (impl_copyInts_c w h (by omega))
  obtain ⟨A, c, rfl, _, _⟩ := h
  obtain ⟨n, hnn⟩ : ∃ n, n = l.length := ⟨_, rfl⟩
  rw [← hnn] at hn HC ⊢
  have HNN := Lib.hid hnn
  clear hnn
  go_enter Tryz.func86, Tryz.ntmps86
  go_wp2_with fail
  refine (HC.out).mono ?_
  rintro e w1 ⟨v1, rfl, o1, b1⟩
  have H1 : Sep w w1 [Res.row v1 3 1 n (ic l)] := by rw [HNN.out]; exact (Sep.start w).oiNew b1 o1
  have HS := Lib.hid (sortInts_c H1 HNN.out hn)
  obtain ⟨A1, c1, rfl, hc1, _, _⟩ := Res.row_at H1.h0
  clear b1 o1 HC H1
  go_wp2_with fail
  refine (HS.out).mono ?_
  rintro e w2 ⟨rfl, s, hsl, hsw, hsm, H2⟩
  have H3 := (H2.nil 3 1)
  have HSL := Lib.hid hsl
  have HFIN : Hid (uniqTo s n = srtU l) := Lib.hid (by rw [← hsl]; exact uniq_srtU hsw hsm)
  clear HS H2 hsl hsw hsm
  go_wp2
  go_loopw [4, 13] (fun ov iv wx => ∃ i m : Nat, i ≤ n ∧ iv = .int .i64 i ∧ Hid (m = (uniqTo s i).length) ∧ Sep w wx [Res.row ov 3 1 m (ic (uniqTo s i)), Res.row (.slice A1 n c1) 3 1 n (ic s)]) (fun _ iv _ => n - (intOf iv).toNat)
  case atStart => exact ⟨0, 0, Nat.zero_le _, rfl, Lib.hid rfl, H3⟩
  case round =>
    clear H3
    obtain ⟨i, m, hi, rfl, HM, H⟩ := hrel
    by_cases hlt : i < n
    · have hlti : (i : Int) < (n : Int) := by omega
      obtain ⟨g, o, cc', he, _, _, _⟩ := own_shape H.h1 (by omega)
      injection he with he1 he2 he3
      subst he1 he3
      obtain ⟨rfl, _⟩ := own_blk H.h1
      obtain ⟨x, hx⟩ : ∃ x, s[i]? = some x := ⟨s[i]'(by rw [HSL.out]; exact hlt), List.getElem?_eq_getElem _⟩
      have x1 := own_cell1 H.h1 hx
      rw [Nat.zero_add] at x1
      have HX := Lib.hid hx
      clear hx
      by_cases hi0 : i = 0
      · have hz : ((i : Int) == 0) = true := by simp; exact hi0
        have HI0 := Lib.hid hi0
        clear hi0
        have HU : Hid (ic (uniqTo s (i + 1)) = ic (uniqTo s i) ++ [.int .i64 x]) := Lib.hid (by rw [uniqTo_new HX.out (.inl HI0.out), ic_append]; rfl)
        have HM2 : Hid (m + 1 = (uniqTo s (i + 1)).length) := Lib.hid (by
          have := congrArg List.length HU.out
          rw [ic_length, List.length_append, ic_length, ← HM.out] at this
          exact this.symm)
        have hmi : m ≤ i := by rw [HM.out]; exact uniqTo_len i
        clear HI0
        go_wp2_with (at_builtin; refine wpList_app rfl _ _ 23 rfl 3 j0 _ 1 8 Tryz.underlying23 hj hy0 hy1 hy2 rfl (by decide) _ _ _ rfl (H.alloc _) _ _ _ [.int .i64 x] rfl (Rd.fresh wr _ #[.int .i64 x] 1 1 rfl) oc1 (by unfold maxLen; omega) (by omega) ?_; intro v5 w5 H5; clear H)
        rw [← HU.out] at H5
        go_roundw
        case rel => exact ⟨i + 1, m + 1, by omega, by go_num, HM2, H5⟩
        case measure => simp [intOf]; omega
      · have hz : ((i : Int) == 0) = false := by simp; exact hi0
        obtain ⟨p, hp⟩ : ∃ p, p = i - 1 := ⟨_, rfl⟩
        have HP := Lib.hid hp
        have e1 : (i : Int) - 1 = (p : Int) := by omega
        have e2 : IntKind.i64.wrap ((i : Int) - 1) = (p : Int) := by rw [e1]; exact IntWalk.i64_in _ (by omega)
        have e3 : (p : Int) < (n : Int) := by omega
        have e4 : p < n := by omega
        obtain ⟨y, hy⟩ : ∃ y, s[p]? = some y := ⟨s[p]'(by rw [HSL.out]; omega), List.getElem?_eq_getElem _⟩
        have x2 := own_cell1 H.h1 hy
        rw [Nat.zero_add] at x2
        have HY := Lib.hid hy
        have HI0 := Lib.hid hi0
        clear hp hy hi0
        by_cases hyx : y = x
        · have hb : (y != x) = false := by simpa using hyx
          have HU : Hid (uniqTo s (i + 1) = uniqTo s i) := Lib.hid (uniqTo_keep HI0.out HX.out (by rw [← HP.out, HY.out, hyx]))
          clear hyx
          go_wp2
          go_roundw
          case rel => exact ⟨i + 1, m, by omega, by go_num, by rw [HU.out]; exact HM, by rw [HU.out]; exact H⟩
          case measure => simp [intOf]; omega
        · have hb : (y != x) = true := by simpa using hyx
          have HNE : Hid (¬ s[i - 1]? = some x) := Lib.hid (by rw [← HP.out, HY.out]; intro q; injection q with q; exact hyx q)
          clear hyx
          have HU : Hid (ic (uniqTo s (i + 1)) = ic (uniqTo s i) ++ [.int .i64 x]) := Lib.hid (by rw [uniqTo_new HX.out (.inr HNE.out), ic_append]; rfl)
          have HM2 : Hid (m + 1 = (uniqTo s (i + 1)).length) := Lib.hid (by
            have := congrArg List.length HU.out
            rw [ic_length, List.length_append, ic_length, ← HM.out] at this
            exact this.symm)
          have hmi : m ≤ i := by rw [HM.out]; exact uniqTo_len i
          clear HNE
          go_wp2_with (at_builtin; refine wpList_app rfl _ _ 23 rfl 3 j0 _ 1 8 Tryz.underlying23 hj hy0 hy1 hy2 rfl (by decide) _ _ _ rfl (H.alloc _) _ _ _ [.int .i64 x] rfl (Rd.fresh wr _ #[.int .i64 x] 1 1 rfl) oc1 (by unfold maxLen; omega) (by omega) ?_; intro v5 w5 H5; clear H)
          rw [← HU.out] at H5
          go_roundw
          case rel => exact ⟨i + 1, m + 1, by omega, by go_num, HM2, H5⟩
          case measure => simp [intOf]; omega
    · obtain rfl : i = n := by omega
      go_wp2
      go_ret
      refine ⟨_, rfl, ?_, H.below⟩
      have := H.oi
      unfold IntsIn
      rw [← HFIN.out, ← HM.out]
      exact this
end Go.Proofs.YtelneohlpljblaaGreatDoor
