
/-
  Rows that follow one another: plain. A turned shape is a shape: plain. Rows that follow one another: the program's walk. Convex shapes: both walks. Perimeter, trees and convex shapes: the contracts for any list of cells.
-/
import Derived.Test.YtghpkfihdcjlaaaSymS
import Derived.Test.YtghpkfihdcjlaaaHngX
import Derived.Test.YtghpkfihdcjlaaaOuN
namespace Go.Proofs.Ytghpkfihdcjlaaa
open Go.RowKit

/-- each cell follows the one before in its row -/
def rcAt (s : List Cell) (i : Nat) : Bool := match s[i - 1]?, s[i]? with
  | some a, some b => !(decide (b.y = a.y)) || decide (b.x = a.x + 1)
  | _, _ => true
def rcB (s : List Cell) : Bool := (List.range s.length).all fun i => i == 0 || rcAt s i
theorem rcAt_is {s : List Cell} {i : Nat} {a b : Cell} (ha : s[i]? = some a) (hb : s[i + 1]? = some b) : rcAt s (i + 1) = (!(decide (b.y = a.y)) || decide (b.x = a.x + 1)) := by
  unfold rcAt
  rw [Nat.add_sub_cancel, ha, hb]
theorem rc_no {s : List Cell} {i : Nat} (hi : i + 1 < s.length) (h : rcAt s (i + 1) = false) : rcB s = false := by
  unfold rcB
  rw [List.all_eq_false]
  exact ⟨i + 1, List.mem_range.2 hi, by rw [h]; simp⟩
theorem rc_yes {s : List Cell} (h : ∀ i, i + 1 < s.length → rcAt s (i + 1) = true) : rcB s = true := by
  unfold rcB
  rw [List.all_eq_true]
  intro i hi
  have := List.mem_range.1 hi
  cases i with
  | zero => rfl
  | succ i => rw [h i this]; simp
theorem rc_at {s : List Cell} (h : rcB s = true) {i : Nat} {a b : Cell} (ha : s[i]? = some a) (hb : s[i + 1]? = some b) (hy : b.y = a.y) : b.x = a.x + 1 := by
  unfold rcB at h
  rw [List.all_eq_true] at h
  have h1 := h (i + 1) (List.mem_range.2 (List.getElem?_eq_some_iff.1 hb).1)
  rw [rcAt_is ha hb] at h1
  simpa [hy] using h1
theorem rc_run {s : List Cell} (hs : Srt s) (h : rcB s = true) {i j : Nat} {a b : Cell} (ha : s[i]? = some a) (hb : s[j]? = some b) (hy : a.y = b.y) : ∀ t, i + t ≤ j → s[i + t]? = some (⟨a.x + (t : Int), a.y⟩ : Cell)
  | 0, _ => by
    rw [Nat.add_zero, ha]
    simp
  | t + 1, ht => by
    have ih := rc_run hs h ha hb hy t (by omega)
    have hj : j < s.length := (List.getElem?_eq_some_iff.1 hb).1
    obtain ⟨d, hd⟩ : ∃ d, s[i + (t + 1)]? = some d := ⟨s[i + (t + 1)], List.getElem?_eq_getElem (by omega)⟩
    have h1 := srt_lt hs (i := i) (j := i + (t + 1)) (by omega) ha hd
    have h2 : d.y ≤ b.y := by
      by_cases e : i + (t + 1) = j
      · subst e; rw [hd] at hb; injection hb with hb; rw [hb]; exact Int.le_refl _
      · have := srt_lt hs (i := i + (t + 1)) (j := j) (by omega) hd hb
        rw [bef_iff] at this
        omega
    rw [bef_iff] at h1
    have hdy : d.y = a.y := by omega
    have hx := rc_at h (i := i + t) ih hd (by simp only; omega)
    simp only at hx
    rw [hd]
    obtain ⟨dx, dy⟩ := d
    simp only at hx hdy
    rw [hdy, hx]
    congr 2
    omega
theorem rc_in {s : List Cell} (hs : Srt s) (h : rcB s = true) {a b : Cell} (ha : a ∈ s) (hb : b ∈ s) (hy : a.y = b.y) {x : Int} (h1 : a.x < x) (h2 : x < b.x) : (⟨x, a.y⟩ : Cell) ∈ s := by
  obtain ⟨i, hi, e1⟩ := List.getElem_of_mem ha
  obtain ⟨j, hj, e2⟩ := List.getElem_of_mem hb
  have ga : s[i]? = some a := by rw [List.getElem?_eq_getElem hi, e1]
  have gb : s[j]? = some b := by rw [List.getElem?_eq_getElem hj, e2]
  have hij : i ≤ j := by
    rcases Nat.lt_or_ge j i with hlt | hge
    · have := srt_lt hs hlt gb ga
      rw [bef_iff] at this
      omega
    · exact hge
  have he := rc_run hs h ga gb hy (j - i) (by omega)
  rw [show i + (j - i) = j by omega, gb] at he
  injection he with he
  have hbx : b.x = a.x + ((j - i : Nat) : Int) := by rw [he]
  have hm := rc_run hs h ga gb hy (x - a.x).toNat (by omega)
  have := List.mem_of_getElem? hm
  rw [show a.x + (((x - a.x).toNat : Nat) : Int) = x by omega] at this
  exact this
/-- a gap is found -/
theorem rc_gap {s : List Cell} (hs : Srt s) {a b : Cell} (ha : a ∈ s) (hb : b ∈ s) (hy : a.y = b.y) {x : Int} (h1 : a.x < x) (h2 : x < b.x) (hn : ¬ (⟨x, a.y⟩ : Cell) ∈ s) : rcB s = false := by
  cases h : rcB s with
  | false => rfl
  | true => exact absurd (rc_in hs h ha hb hy h1 h2) hn
/-- no gap is found -/
theorem rc_full {s : List Cell} (hs : Srt s) (h : ∀ a ∈ s, ∀ b ∈ s, a.y = b.y → ∀ x, a.x < x → x < b.x → (⟨x, a.y⟩ : Cell) ∈ s) : rcB s = true := by
  refine rc_yes fun i hi => ?_
  obtain ⟨a, ha⟩ : ∃ a, s[i]? = some a := ⟨s[i], List.getElem?_eq_getElem (by omega)⟩
  obtain ⟨b, hb⟩ : ∃ b, s[i + 1]? = some b := ⟨s[i + 1], List.getElem?_eq_getElem hi⟩
  rw [rcAt_is ha hb]
  by_cases hy : b.y = a.y
  · have hlt := srt_lt hs (i := i) (j := i + 1) (by omega) ha hb
    rw [bef_iff] at hlt
    have hx : b.x = a.x + 1 := by
      rcases Int.lt_trichotomy b.x (a.x + 1) with h3 | h3 | h3
      · omega
      · exact h3
      · have hm := h a (List.mem_of_getElem? ha) b (List.mem_of_getElem? hb) hy.symm (a.x + 1) (by omega) h3
        obtain ⟨k, hk, e⟩ := List.getElem_of_mem hm
        have gk : s[k]? = some (⟨a.x + 1, a.y⟩ : Cell) := by rw [List.getElem?_eq_getElem hk, e]
        exfalso
        rcases Nat.lt_or_ge i k with hik | hik
        · by_cases e2 : k = i + 1
          · subst e2
            rw [hb] at gk
            injection gk with gk
            rw [gk] at h3
            simp only at h3
            omega
          · have := srt_lt hs (i := i + 1) (j := k) (by omega) hb gk
            rw [bef_iff] at this
            simp only at this
            omega
        · by_cases e2 : k = i
          · subst e2
            rw [ha] at gk
            injection gk with gk
            have := congrArg Cell.x gk
            simp only at this
            omega
          · have := srt_lt hs (i := k) (j := i) (by omega) gk ha
            rw [bef_iff] at this
            simp only at this
            omega
    rw [decide_eq_true hx, Bool.or_true]
  · rw [decide_eq_false hy]
    rfl
end Go.Proofs.Ytghpkfihdcjlaaa

namespace Go.Proofs.Ytghpkfihdcjlaaa
open Go.RowKit

def nr7 (d e : Cell) : Prop := (-7 ≤ d.x - e.x ∧ d.x - e.x ≤ 7) ∧ (-7 ≤ d.y - e.y ∧ d.y - e.y ≤ 7)
theorem nr7_rot {d e : Cell} (h : nr7 d e) : ∀ k, nr7 (rotC k d) (rotC k e)
  | 0 => h
  | k + 1 => by
    have ih := nr7_rot h k
    obtain ⟨⟨h1, h2⟩, h3, h4⟩ := ih
    simp only [rotC]
    refine ⟨⟨?_, ?_⟩, ?_, ?_⟩ <;> simp only <;> omega
theorem nr7_carry {d e : Cell} (h : nr7 d e) (m : Nat) : nr7 (carryC m d) (carryC m e) := by
  unfold carryC
  refine nr7_rot ?_ _
  unfold flipC
  obtain ⟨⟨h1, h2⟩, h3, h4⟩ := h
  split
  · refine ⟨⟨?_, ?_⟩, ?_, ?_⟩ <;> simp only <;> omega
  · exact ⟨⟨h1, h2⟩, h3, h4⟩
theorem srt_cornerS {s : List Cell} (h : Srt s) : Srt (corner s) := List.pairwise_map.2 (List.Pairwise.imp (fun {a b} hab => by rw [bef_iff] at hab ⊢; simp only; omega) h)
theorem srt_turn {m : Nat} {s : List Cell} : Srt (turnS m s) := srt_cornerS srt_sortC
theorem turn_onS {m : Nat} {s : List Cell} (h : isShape s = true) : ∀ c ∈ turnS m s, On c := by
  intro c hc
  unfold turnS corner shift at hc
  obtain ⟨d, hd, rfl⟩ := List.mem_map.1 hc
  generalize hL : sortC (s.map (carryC m)) = L at *
  have hl : 0 < L.length := List.length_pos_of_mem hd
  have h1 := minX_le hd
  have h2 : minY L ≤ d.y := by
    obtain ⟨j, hj, e⟩ := List.getElem_of_mem hd
    exact mnTo_le (f := fun c => c.y) L.length (Nat.le_refl _) j d hj (by rw [List.getElem?_eq_getElem hj, e])
  obtain ⟨ex, hex, mx⟩ := mnTo_mem (f := fun c => c.x) (l := L) L.length hl (Nat.le_refl _)
  obtain ⟨ey, hey, my⟩ := mnTo_mem (f := fun c => c.y) (l := L) L.length hl (Nat.le_refl _)
  have hnr : ∀ e ∈ L, nr7 d e := by
    intro e he
    rw [← hL, mem_sortC] at hd he
    obtain ⟨d0, hd0, rfl⟩ := List.mem_map.1 hd
    obtain ⟨e0, he0, rfl⟩ := List.mem_map.1 he
    have o1 := shp_on h hd0
    have o2 := shp_on h he0
    unfold On at o1 o2
    exact nr7_carry ⟨⟨by omega, by omega⟩, by omega, by omega⟩ m
  have n1 := hnr ex hex
  have n2 := hnr ey hey
  unfold nr7 at n1 n2
  have mx' : minX L = ex.x := mx
  have my' : minY L = ey.y := my
  unfold On
  simp only
  omega
theorem turn_shape {m : Nat} {s : List Cell} (h : isShape s = true) : isShape (turnS m s) = true := by
  rw [isShape_srt srt_turn (turn_onS h), turn_len (shp_nodup h)]
  have := shp_len h
  exact inR_iff.2 (by omega)
end Go.Proofs.Ytghpkfihdcjlaaa

namespace Go.Proofs.Ytghpkfihdcjlaaa
open Go.RowKit

/-- between two cells of a row all is in s -/
def gapOk (s : List Cell) (a b : Cell) : Prop := a.y = b.y → ∀ x, a.x < x → x < b.x → (⟨x, a.y⟩ : Cell) ∈ s
def gapTo (s : List Cell) (a : Cell) (k : Nat) : Prop := ∀ (j : Nat) (c : Cell), j < k → s[j]? = some c → gapOk s a c
theorem gapTo_succ {s : List Cell} {a b : Cell} {k : Nat} (h : gapTo s a k) (hb : s[k]? = some b) (hg : gapOk s a b) : gapTo s a (k + 1) := fun j c hj hc => by
  by_cases e : j = k
  · subst e; rw [hb] at hc; injection hc with hc; subst hc; exact hg
  · exact h j c (by omega) hc
def gapAll (s : List Cell) (i : Nat) : Prop := ∀ (j : Nat) (c : Cell), j < i → s[j]? = some c → gapTo s c s.length
theorem gapAll_succ {s : List Cell} {a : Cell} {i : Nat} (h : gapAll s i) (ha : s[i]? = some a) (hg : gapTo s a s.length) : gapAll s (i + 1) := fun j c hj hc => by
  by_cases e : j = i
  · subst e; rw [ha] at hc; injection hc with hc; subst hc; exact hg
  · exact h j c (by omega) hc
theorem gapAll_rc {s : List Cell} (hs : Srt s) (h : gapAll s s.length) : rcB s = true := rc_full hs fun a ha b hb hy => by
  obtain ⟨i, hi, rfl⟩ := List.getElem_of_mem ha
  obtain ⟨j, hj, rfl⟩ := List.getElem_of_mem hb
  exact h i _ hi (List.getElem?_eq_getElem hi) j _ hj (List.getElem?_eq_getElem hj) hy
set_option maxRecDepth 100000 in
set_option maxHeartbeats 3200000 in
theorem impl_follow_c {v : Value} {s : List Cell} (w : World) (h : CellsRd w 0 w.heap.size v s) (hsh : isShape s = true) (hsr : Srt s) :
    Calls Try.prog 42 #[v] w fun e w' => e = .returned (.bool (rcB s)) ∧ Below w.heap.size w w' := by
  obtain ⟨hl1, hl8⟩ := shp_len hsh
  have HSH := Lib.hid hsh
  have HSR := Lib.hid hsr
  have HHC : Hid (∀ (x y : Int) w1, Below w.heap.size w w1 → Calls Try.prog 36 #[v, .int .i64 x, .int .i64 y] w1 fun e w' => e = .returned (.bool (decide ((⟨x, y⟩ : Cell) ∈ s))) ∧ Below w1.heap.size w1 w') := Lib.hid fun x y w1 b1 => impl_has2_c x y w1 ((h.keep (SameIn.of_below b1 (Nat.le_refl _))).more (Nat.le_refl _) b1.size) (by omega)
  obtain ⟨R, hR⟩ : ∃ R, R = rcB s := ⟨_, rfl⟩
  rw [← hR]
  have HR := Lib.hid hR
  obtain ⟨A, c, rfl, _, hr⟩ := h
  obtain ⟨b, off, hA, _, hb, hcc⟩ := hr.2 (by omega)
  subst hA
  have HCE := Lib.hid hcc
  clear hsh hr hcc hR hsr
  go_enter Try.func42, Try.ntmps42
  go_wp2
  go_loopw [10] (fun iv wx => ∃ i : Nat, i ≤ s.length ∧ iv = .int .i64 i ∧ Hid (gapAll s i) ∧ Below w.heap.size w wx) (fun iv _ => s.length - (intOf iv).toNat)
  case atStart => exact ⟨0, Nat.zero_le _, rfl, Lib.hid (fun j c hj => absurd hj (by omega)), Below.refl _ _⟩
  case round =>
    obtain ⟨i, hi, rfl, HGA, hbw⟩ := hrel
    by_cases hlt : i < s.length
    · have hlti : (i : Int) < (s.length : Int) := by omega
      obtain ⟨a, ha⟩ : ∃ d, s[i]? = some d := ⟨s[i], List.getElem?_eq_getElem hlt⟩
      have q1 : wr.cell? ⟨b, off + i * 2, none⟩ = some (.int .i64 a.x) := (hbw.cell (p := ⟨b, off + i * 2, none⟩) hb).trans (HCE.out _ _ (cc_at ha).1)
      have q2 : wr.cell? ⟨b, off + i * 2 + 1, none⟩ = some (.int .i64 a.y) := (hbw.cell (p := ⟨b, off + i * 2 + 1, none⟩) hb).trans (by rw [Nat.add_assoc]; exact HCE.out _ _ (cc_at ha).2)
      have HAM := Lib.hid ha
      have HAO := Lib.hid (shp_on HSH.out (List.mem_of_getElem? ha))
      have H1 := ((Sep.start w).step hbw).box 41 #[.int .i64 a.x, .int .i64 a.y]
      clear ha
      go_upto_region 4 with fail
      obtain ⟨ga, hga⟩ : ∃ k, k = wr.heap.size := ⟨_, rfl⟩
      rw [← hga] at H1 ⊢
      generalize wr.alloc (.cells #[.int .i64 a.x, .int .i64 a.y] 41) = W4 at *
      clear hga q1 q2 hbw
      go_wp2
      go_loopw [16] (fun kv wx => ∃ k : Nat, k ≤ s.length ∧ kv = .int .i64 k ∧ Hid (gapTo s a k) ∧ Sep w wx [Res.box ga 41 #[.int .i64 a.x, .int .i64 a.y]]) (fun kv _ => s.length - (intOf kv).toNat)
      case atStart => exact ⟨0, Nat.zero_le _, rfl, Lib.hid (fun j c hj => absurd hj (by omega)), H1⟩
      case round =>
        clear H1
        obtain ⟨k, hk, rfl, HGT, H⟩ := hrel
        by_cases hlk : k < s.length
        · have hlki : (k : Int) < (s.length : Int) := by omega
          obtain ⟨d, hd⟩ : ∃ d, s[k]? = some d := ⟨s[k], List.getElem?_eq_getElem hlk⟩
          have hbw := H.below
          have q1 : wr.cell? ⟨b, off + k * 2, none⟩ = some (.int .i64 d.x) := (hbw.cell (p := ⟨b, off + k * 2, none⟩) hb).trans (HCE.out _ _ (cc_at hd).1)
          have q2 : wr.cell? ⟨b, off + k * 2 + 1, none⟩ = some (.int .i64 d.y) := (hbw.cell (p := ⟨b, off + k * 2 + 1, none⟩) hb).trans (by rw [Nat.add_assoc]; exact HCE.out _ _ (cc_at hd).2)
          have HDM := Lib.hid hd
          have HDO := Lib.hid (shp_on HSH.out (List.mem_of_getElem? hd))
          have H2 := H.box 41 #[.int .i64 d.x, .int .i64 d.y]
          clear hd H hbw
          go_upto_region 7 with fail
          obtain ⟨gd, hgd⟩ : ∃ k, k = wr.heap.size := ⟨_, rfl⟩
          rw [← hgd] at H2 ⊢
          generalize wr.alloc (.cells #[.int .i64 d.x, .int .i64 d.y] 41) = W7 at *
          clear hgd q1 q2
          have k0 : W7.cell? ⟨ga, 0, none⟩ = some (.int .i64 a.x) := H2.h1.cell 0
          have hon := HAO.out
          have hdn := HDO.out
          unfold On at hon hdn
          have m1 : wrap64 (a.x + 1) = a.x + 1 := IntWalk.wrap64_in _ (by omega)
          go_wp2
          clear m1 k0
          go_loopw [7] (fun xv wx => ∃ x : Int, xv = .int .i64 x ∧ a.x + 1 ≤ x ∧ (x ≤ d.x ∨ x = a.x + 1) ∧ Hid (∀ y, a.x < y → y < x → (⟨y, a.y⟩ : Cell) ∈ s) ∧ Sep w wx [Res.box gd 41 #[.int .i64 d.x, .int .i64 d.y], Res.box ga 41 #[.int .i64 a.x, .int .i64 a.y]]) (fun xv _ => (8 - intOf xv).toNat)
          case atStart => exact ⟨a.x + 1, rfl, by omega, Or.inr rfl, Lib.hid (fun y h1 h2 => absurd h2 (by omega)), H2⟩
          case round =>
            clear H2
            obtain ⟨x, rfl, hx1, hx2, HX, H⟩ := hrel
            have c1 : wr.cell? ⟨ga, 0, none⟩ = some (.int .i64 a.x) := H.h1.cell 0
            have c2 : wr.cell? ⟨ga, 1, none⟩ = some (.int .i64 a.y) := H.h1.cell 1
            have c3 : wr.cell? ⟨gd, 0, none⟩ = some (.int .i64 d.x) := H.h0.cell 0
            have c4 : wr.cell? ⟨gd, 1, none⟩ = some (.int .i64 d.y) := H.h0.cell 1
            by_cases hy : a.y = d.y
            · have hyd : (a.y == d.y) = true := beq_iff_eq.2 hy
              have HY := Lib.hid hy
              clear hy
              by_cases hxd : x < d.x
              · have hxdd : decide (x < d.x) = true := decide_eq_true hxd
                have HQ := Lib.hid (HHC.out x a.y wr H.below)
                obtain ⟨g, hg⟩ : ∃ g, g = decide ((⟨x, a.y⟩ : Cell) ∈ s) := ⟨_, rfl⟩
                rw [← hg] at HQ
                have HG := Lib.hid hg
                clear hg
                go_wp2_with fail
                refine (HQ.out).mono ?_
                rintro e w8 ⟨rfl, b8⟩
                have H3 := H.step b8
                clear HQ b8 c1 c2 c3 c4 H
                cases g
                · have HRF : Hid (R = false) := Lib.hid (by
                    rw [HR.out]
                    exact rc_gap HSR.out (List.mem_of_getElem? HAM.out) (List.mem_of_getElem? HDM.out) HY.out (by omega) hxd (of_decide_eq_false HG.out.symm))
                  obtain rfl : R = false := HRF.out
                  have hbe := H3.below
                  clear H3
                  go_wp2
                  go_ret
                  exact ⟨rfl, hbe⟩
                · have HX2 : Hid (∀ y, a.x < y → y < x + 1 → (⟨y, a.y⟩ : Cell) ∈ s) := Lib.hid fun y h1 h2 => by
                    by_cases e : y = x
                    · rw [e]; exact of_decide_eq_true HG.out.symm
                    · exact HX.out y h1 (by omega)
                  have m1 : wrap64 (x + 1) = x + 1 := IntWalk.wrap64_in _ (by omega)
                  go_wp2
                  clear m1
                  go_roundw
                  case rel => exact ⟨x + 1, rfl, by omega, by omega, HX2, H3⟩
                  case measure => simp only [intOf]; omega
              · have hxdd : decide (x < d.x) = false := decide_eq_false hxd
                have HG2 : Hid (gapTo s a (k + 1)) := Lib.hid (gapTo_succ HGT.out HDM.out fun _ y h1 h2 => HX.out y h1 (by omega))
                have H3 := H.drop
                go_wp2
                go_roundw
                case rel => exact ⟨k + 1, by omega, by go_num, HG2, H3⟩
                case measure => simp [intOf]; omega
            · have hyd : (a.y == d.y) = false := beq_eq_false_iff_ne.2 hy
              have HG2 : Hid (gapTo s a (k + 1)) := Lib.hid (gapTo_succ HGT.out HDM.out fun e => absurd e hy)
              have H3 := H.drop
              clear hy
              go_wp2
              go_roundw
              case rel => exact ⟨k + 1, by omega, by go_num, HG2, H3⟩
              case measure => simp [intOf]; omega
        · obtain rfl : k = s.length := by omega
          have HG2 : Hid (gapAll s (i + 1)) := Lib.hid (gapAll_succ HGA.out HAM.out HGT.out)
          have hbe := H.below
          clear H
          go_wp2
          go_roundw
          case rel => exact ⟨i + 1, by omega, by go_num, HG2, hbe⟩
          case measure => simp [intOf]; omega
    · obtain rfl : i = s.length := by omega
      have HRF : Hid (R = true) := Lib.hid (by rw [HR.out]; exact gapAll_rc HSR.out HGA.out)
      obtain rfl : R = true := HRF.out
      go_wp2
      go_ret
      exact ⟨rfl, hbw⟩
end Go.Proofs.Ytghpkfihdcjlaaa

namespace Go.Proofs.Ytghpkfihdcjlaaa
open Go.RowKit

set_option maxRecDepth 100000 in
set_option maxHeartbeats 3200000 in
theorem spec_rowcx_c {v : Value} {s : List Cell} (w : World) (h : CellsRd w 0 w.heap.size v s) (hsh : isShape s = true) :
    Calls Try.prog 18 #[v] w fun e w' => e = .returned (.bool (rcB s)) ∧ Below w.heap.size w w' := by
  obtain ⟨hl1, hl8⟩ := shp_len hsh
  have HSH := Lib.hid hsh
  have HS : Hid (∀ w1, Below w.heap.size w w1 → Calls Try.prog 23 #[v] w1 fun e w' => e = .returned (.bool true) ∧ Below w1.heap.size w1 w') := Lib.hid fun w1 b1 => by
    have := spec_isShape_c w1 ((h.keep (SameIn.of_below b1 (Nat.le_refl _))).more (Nat.le_refl _) b1.size) (by omega)
    rwa [hsh] at this
  obtain ⟨R, hR⟩ : ∃ R, R = rcB s := ⟨_, rfl⟩
  rw [← hR]
  have HR := Lib.hid hR
  obtain ⟨A, c, rfl, _, hr⟩ := h
  obtain ⟨b, off, hA, _, hb, hcc⟩ := hr.2 (by omega)
  subst hA
  have HCE := Lib.hid hcc
  clear hsh hr hcc hR
  go_enter Try.func18, Try.ntmps18
  go_wp2
  go_loopw [3] (fun kv wx => ∃ k : Nat, 1 ≤ k ∧ k ≤ s.length ∧ kv = .int .i64 k ∧ Hid (∀ j, j + 1 < k → rcAt s (j + 1) = true) ∧ Below w.heap.size w wx) (fun kv _ => s.length - (intOf kv).toNat)
  case atStart => exact ⟨1, Nat.le_refl _, hl1, rfl, Lib.hid (fun j hj => absurd hj (by omega)), Below.refl _ _⟩
  case round =>
    obtain ⟨k, hk1, hk, rfl, HA, hbw⟩ := hrel
    by_cases hlt : k < s.length
    · have hlti : (k : Int) < (s.length : Int) := by omega
      have hltd : decide ((k : Int) < (s.length : Int)) = true := decide_eq_true hlti
      go_wp2_with fail
      refine (HS.out _ hbw).mono ?_
      rintro e w1 ⟨rfl, b1⟩
      replace hbw := hbw.trans (b1.mono hbw.size)
      clear b1
      obtain ⟨i, hi⟩ : ∃ i, i = k - 1 := ⟨_, rfl⟩
      have hik : k = i + 1 := by omega
      have m1 : wrap64 ((k : Int) - 1) = (k : Int) - 1 := IntWalk.wrap64_in _ (by omega)
      obtain ⟨ca, hca⟩ : ∃ ck, s[i]? = some ck := ⟨s[i], List.getElem?_eq_getElem (by omega)⟩
      obtain ⟨cb, hcb⟩ : ∃ ck, s[k]? = some ck := ⟨s[k], List.getElem?_eq_getElem hlt⟩
      have hbr : b < w1.heap.size := by have := hbw.size; omega
      have l1 := Later.cell ((hbw.cell (p := ⟨b, off + k * 2, none⟩) hb).trans (HCE.out _ _ (cc_at hcb).1)) hbr
      have l2 := Later.cell ((hbw.cell (p := ⟨b, off + k * 2 + 1, none⟩) hb).trans (by rw [Nat.add_assoc]; exact HCE.out _ _ (cc_at hcb).2)) hbr
      have l3 := Later.cell ((hbw.cell (p := ⟨b, off + i * 2, none⟩) hb).trans (HCE.out _ _ (cc_at hca).1)) hbr
      have l4 := Later.cell ((hbw.cell (p := ⟨b, off + i * 2 + 1, none⟩) hb).trans (by rw [Nat.add_assoc]; exact HCE.out _ _ (cc_at hca).2)) hbr
      have hax := shp_on HSH.out (List.mem_of_getElem? hca)
      unfold On at hax
      have m2 : wrap64 (ca.x + 1) = ca.x + 1 := IntWalk.wrap64_in _ (by omega)
      have HRC : Hid (rcAt s (i + 1) = (!(decide (cb.y = ca.y)) || decide (cb.x = ca.x + 1))) := Lib.hid (rcAt_is hca (by rw [← hik]; exact hcb))
      have HIK := Lib.hid hik
      subst hi
      clear hca hcb hax hik
      by_cases hy : cb.y = ca.y
      · have hyb : (cb.y == ca.y) = true := beq_iff_eq.2 hy
        by_cases hx : cb.x = ca.x + 1
        · have hxb : (cb.x == ca.x + 1) = true := beq_iff_eq.2 hx
          have HRT : Hid (rcAt s (k - 1 + 1) = true) := Lib.hid (by rw [HRC.out, decide_eq_true hx, Bool.or_true])
          clear hx hy
          go_wp2_with fail
          refine wp_region_later (by kernel_rfl) (by kernel_rfl) ?_
          repeat (go_big_quiet_step (fail))
          refine wpQuiet_nil ?_
          intro w3 hw3
          obtain ⟨u3, hu3⟩ := hw3
          subst hu3
          have hb3 := hbw.trans (u3.h.mono hbw.size)
          clear l1 l2 l3 l4 m1 hbw
          generalize u3.w = w3 at *
          have HA2 : Hid (∀ j, j + 1 < k + 1 → rcAt s (j + 1) = true) := Lib.hid fun j hj => by
            by_cases e : j = k - 1
            · subst e; exact HRT.out
            · exact HA.out j (by have := HIK.out; omega)
          go_wp2
          go_roundw
          case rel => exact ⟨k + 1, by omega, by omega, by go_num, HA2, hb3⟩
          case measure => simp [intOf]; omega
        · have hxb : (cb.x == ca.x + 1) = false := beq_eq_false_iff_ne.2 hx
          have HRT : Hid (R = false) := Lib.hid (by rw [HR.out]; exact rc_no (i := k - 1) (by have := HIK.out; omega) (by rw [HRC.out, decide_eq_true hy, decide_eq_false hx]; rfl))
          obtain rfl : R = false := HRT.out
          clear hx hy
          go_wp2_with fail
          refine wp_region_later (by kernel_rfl) (by kernel_rfl) ?_
          repeat (go_big_quiet_step (fail))
          refine wpQuiet_nil ?_
          intro w3 hw3
          obtain ⟨u3, hu3⟩ := hw3
          subst hu3
          have hb3 := hbw.trans (u3.h.mono hbw.size)
          clear l1 l2 l3 l4 m1 hbw
          generalize u3.w = w3 at *
          go_wp2
          go_ret
          exact ⟨rfl, hb3⟩
      · have hyb : (cb.y == ca.y) = false := beq_eq_false_iff_ne.2 hy
        have HRT : Hid (rcAt s (k - 1 + 1) = true) := Lib.hid (by rw [HRC.out, decide_eq_false hy]; rfl)
        clear hy
        go_wp2_with fail
        refine wp_region_later (by kernel_rfl) (by kernel_rfl) ?_
        repeat (go_big_quiet_step (fail))
        refine wpQuiet_nil ?_
        intro w3 hw3
        obtain ⟨u3, hu3⟩ := hw3
        subst hu3
        have hb3 := hbw.trans (u3.h.mono hbw.size)
        clear l1 l2 l3 l4 m1 hbw
        generalize u3.w = w3 at *
        have HA2 : Hid (∀ j, j + 1 < k + 1 → rcAt s (j + 1) = true) := Lib.hid fun j hj => by
          by_cases e : j = k - 1
          · subst e; exact HRT.out
          · exact HA.out j (by have := HIK.out; omega)
        go_wp2
        go_roundw
        case rel => exact ⟨k + 1, by omega, by omega, by go_num, HA2, hb3⟩
        case measure => simp [intOf]; omega
    · obtain rfl : k = s.length := by omega
      have hltd : decide ((s.length : Int) < (s.length : Int)) = false := decide_eq_false (by omega)
      have HRT : Hid (R = true) := Lib.hid (by rw [HR.out]; exact rc_yes HA.out)
      obtain rfl : R = true := HRT.out
      go_wp2_with fail
      refine (HS.out _ hbw).mono ?_
      rintro e w1 ⟨rfl, b1⟩
      replace hbw := hbw.trans (b1.mono hbw.size)
      go_wp2
      go_ret
      exact ⟨rfl, hbw⟩
noncomputable def cvxB (s : List Cell) : Bool := connS s && rcB s && rcB (turnS 1 s)
set_option maxRecDepth 100000 in
set_option maxHeartbeats 1600000 in
theorem impl_convex_c {v : Value} {s : List Cell} (w : World) (h : CellsRd w 0 w.heap.size v s) (hsh : isShape s = true) :
    Calls Try.prog 19 #[v] w fun e w' => e = .returned (.bool (cvxB s)) ∧ Below w.heap.size w w' := by
  obtain ⟨hl1, hl8⟩ := shp_len hsh
  have HRD : Hid (∀ w1, Below w.heap.size w w1 → CellsRd w1 0 w1.heap.size v s) := Lib.hid fun w1 b1 => (h.keep (SameIn.of_below b1 (Nat.le_refl _))).more (Nat.le_refl _) b1.size
  have HSH := Lib.hid hsh
  have HTU : Hid (∀ w1, Below w.heap.size w w1 → Calls Try.prog 44 #[v, .int .i64 1] w1 fun e w' => ∃ v', e = .returned v' ∧ CellsIn w' w1.heap.size w'.heap.size v' (turnS 1 s) ∧ Below w1.heap.size w1 w') := Lib.hid fun w1 b1 => impl_turned_c 1 w1 (HRD.out w1 b1) (by decide) hl1 (by omega) (sml_of hsh _ (by decide))
  have hts := turn_shape (m := 1) hsh
  have HF2 : Hid (∀ (u : Value) w1, CellsRd w1 0 w1.heap.size u (turnS 1 s) → Calls Try.prog 42 #[u] w1 fun e w' => e = .returned (.bool (rcB (turnS 1 s))) ∧ Below w1.heap.size w1 w') := Lib.hid fun u w1 hu => impl_follow_c w1 hu hts srt_turn
  have HF1 : Hid (∀ w1, Below w.heap.size w w1 → Calls Try.prog 42 #[v] w1 fun e w' => e = .returned (.bool (rcB s)) ∧ Below w1.heap.size w1 w') := Lib.hid fun w1 b1 => impl_follow_c w1 (HRD.out w1 b1) hsh (shp_srtS hsh)
  have HC : Hid (∀ w1, Below w.heap.size w w1 → Calls Try.prog 43 #[v] w1 fun e w' => e = .returned (.bool (connS s)) ∧ Below w1.heap.size w1 w') := Lib.hid fun w1 b1 => impl_conn_c w1 (HRD.out w1 b1) (by omega)
  have HS := Lib.hid (impl_isShape_c w h (by omega))
  rw [hsh] at HS
  obtain ⟨R, hR⟩ : ∃ R, R = cvxB s := ⟨_, rfl⟩
  rw [← hR]
  unfold cvxB at hR
  have HR := Lib.hid hR
  obtain ⟨A, c, rfl, _, _⟩ := h
  obtain ⟨b1, h1⟩ : ∃ b, b = connS s := ⟨_, rfl⟩
  obtain ⟨b2, h2⟩ : ∃ b, b = rcB s := ⟨_, rfl⟩
  obtain ⟨b3, h3⟩ : ∃ b, b = rcB (turnS 1 s) := ⟨_, rfl⟩
  rw [← h1, ← h2, ← h3] at HR
  rw [← h1] at HC
  rw [← h2] at HF1
  rw [← h3] at HF2
  clear hR hsh h1 h2 h3 hts
  go_enter Try.func19, Try.ntmps19
  (have bS := Below.refl w.heap.size w; go_wp2_with fail)
  refine (HC.out _ bS).mono ?_
  rintro e wc ⟨rfl, bc⟩
  have bC := bS.trans (bc.mono bS.size)
  cases b1
  · obtain rfl : R = false := by rw [HR.out]; rfl
    go_wp2
    go_ret
    exact ⟨rfl, bC⟩
  go_wp2_with fail
  refine (HF1.out _ bC).mono ?_
  rintro e wd ⟨rfl, bd⟩
  have bD := bC.trans (bd.mono bC.size)
  cases b2
  · obtain rfl : R = false := by rw [HR.out]; rfl
    go_wp2
    go_ret
    exact ⟨rfl, bD⟩
  go_wp2_with fail
  refine (HTU.out _ bD).mono ?_
  rintro e we ⟨vT, rfl, oT, be⟩
  have bE := bD.trans (be.mono bD.size)
  have hrT := Lib.hid (HF2.out vT we ((CellsIn.rd oT).more (Nat.zero_le _) (Nat.le_refl _)))
  go_wp2_with fail
  refine (hrT.out).mono ?_
  rintro e wf ⟨rfl, bf⟩
  have bF := bE.trans (bf.mono bE.size)
  obtain rfl : R = b3 := by rw [HR.out]; rfl
  go_wp2
  go_ret
  exact ⟨rfl, bF⟩
set_option maxRecDepth 100000 in
set_option maxHeartbeats 1600000 in
theorem spec_convex_c {v : Value} {s : List Cell} (w : World) (h : CellsRd w 0 w.heap.size v s) (hsh : isShape s = true) :
    Calls Try.prog 20 #[v] w fun e w' => e = .returned (.bool (cvxB s)) ∧ Below w.heap.size w w' := by
  obtain ⟨hl1, hl8⟩ := shp_len hsh
  have HRD : Hid (∀ w1, Below w.heap.size w w1 → CellsRd w1 0 w1.heap.size v s) := Lib.hid fun w1 b1 => (h.keep (SameIn.of_below b1 (Nat.le_refl _))).more (Nat.le_refl _) b1.size
  have HSH := Lib.hid hsh
  have HTU : Hid (∀ w1, Below w.heap.size w w1 → Calls Try.prog 46 #[v, .int .i64 1] w1 fun e w' => ∃ v', e = .returned v' ∧ CellsIn w' w1.heap.size w'.heap.size v' (turnS 1 s) ∧ Below w1.heap.size w1 w') := Lib.hid fun w1 b1 => spec_turn_c 1 w1 (HRD.out w1 b1) (by decide) hl1 (by omega) (sml_of hsh _ (by decide))
  have hts := turn_shape (m := 1) hsh
  have HF2 : Hid (∀ (u : Value) w1, CellsRd w1 0 w1.heap.size u (turnS 1 s) → Calls Try.prog 18 #[u] w1 fun e w' => e = .returned (.bool (rcB (turnS 1 s))) ∧ Below w1.heap.size w1 w') := Lib.hid fun u w1 hu => spec_rowcx_c w1 hu hts
  have HF1 : Hid (∀ w1, Below w.heap.size w w1 → Calls Try.prog 18 #[v] w1 fun e w' => e = .returned (.bool (rcB s)) ∧ Below w1.heap.size w1 w') := Lib.hid fun w1 b1 => spec_rowcx_c w1 (HRD.out w1 b1) hsh
  have HC : Hid (∀ w1, Below w.heap.size w w1 → Calls Try.prog 45 #[v] w1 fun e w' => e = .returned (.bool (connS s)) ∧ Below w1.heap.size w1 w') := Lib.hid fun w1 b1 => spec_conn_c w1 (HRD.out w1 b1) (by omega)
  have HS := Lib.hid (spec_isShape_c w h (by omega))
  rw [hsh] at HS
  obtain ⟨R, hR⟩ : ∃ R, R = cvxB s := ⟨_, rfl⟩
  rw [← hR]
  unfold cvxB at hR
  have HR := Lib.hid hR
  obtain ⟨A, c, rfl, _, _⟩ := h
  obtain ⟨b1, h1⟩ : ∃ b, b = connS s := ⟨_, rfl⟩
  obtain ⟨b2, h2⟩ : ∃ b, b = rcB s := ⟨_, rfl⟩
  obtain ⟨b3, h3⟩ : ∃ b, b = rcB (turnS 1 s) := ⟨_, rfl⟩
  rw [← h1, ← h2, ← h3] at HR
  rw [← h1] at HC
  rw [← h2] at HF1
  rw [← h3] at HF2
  clear hR hsh h1 h2 h3 hts
  go_enter Try.func20, Try.ntmps20
  (go_wp2_with fail; refine (HS.out).mono ?_; rintro e w1 ⟨rfl, bS⟩; go_wp2_with fail)
  refine (HC.out _ bS).mono ?_
  rintro e wc ⟨rfl, bc⟩
  have bC := bS.trans (bc.mono bS.size)
  cases b1
  · obtain rfl : R = false := by rw [HR.out]; rfl
    go_wp2
    go_ret
    exact ⟨rfl, bC⟩
  go_wp2_with fail
  refine (HF1.out _ bC).mono ?_
  rintro e wd ⟨rfl, bd⟩
  have bD := bC.trans (bd.mono bC.size)
  cases b2
  · obtain rfl : R = false := by rw [HR.out]; rfl
    go_wp2
    go_ret
    exact ⟨rfl, bD⟩
  go_wp2_with fail
  refine (HTU.out _ bD).mono ?_
  rintro e we ⟨vT, rfl, oT, be⟩
  have bE := bD.trans (be.mono bD.size)
  have hrT := Lib.hid (HF2.out vT we ((CellsIn.rd oT).more (Nat.zero_le _) (Nat.le_refl _)))
  go_wp2_with fail
  refine (hrT.out).mono ?_
  rintro e wf ⟨rfl, bf⟩
  have bF := bE.trans (bf.mono bE.size)
  obtain rfl : R = b3 := by rw [HR.out]; rfl
  go_wp2
  go_ret
  exact ⟨rfl, bF⟩
end Go.Proofs.Ytghpkfihdcjlaaa

namespace Go.Proofs.Ytghpkfihdcjlaaa
open Go.RowKit

def perQ (s : List Cell) : Int := if isShape s then perZ s else -1
noncomputable def rcQ (s : List Cell) : Bool := isShape s && rcB s
set_option maxRecDepth 100000 in
set_option maxHeartbeats 800000 in
theorem impl_perQ_c {v : Value} {s : List Cell} (w : World) (h : CellsRd w 0 w.heap.size v s) (hn : s.length ≤ 1048576) :
    Calls Try.prog 7 #[v] w fun e w' => e = .returned (.int .i64 (perQ s)) ∧ Below w.heap.size w w' := by
  cases hsh : isShape s
  case true =>
    rw [perQ, if_pos hsh]
    exact impl_per_c w h hsh
  case false =>
    rw [perQ, hsh]
    have HS := Lib.hid (impl_isShape_c w h hn)
    rw [hsh] at HS
    obtain ⟨A, c, rfl, _, _⟩ := h
    clear hsh
    go_enter Try.func7, Try.ntmps7
    go_wp2_with fail
    refine (HS.out).mono ?_
    rintro e w1 ⟨rfl, b1⟩
    go_wp2
    go_ret
    exact ⟨rfl, b1⟩
set_option maxRecDepth 100000 in
set_option maxHeartbeats 800000 in
theorem spec_perQ_c {v : Value} {s : List Cell} (w : World) (h : CellsRd w 0 w.heap.size v s) (hn : s.length ≤ 1048576) :
    Calls Try.prog 11 #[v] w fun e w' => e = .returned (.int .i64 (perQ s)) ∧ Below w.heap.size w w' := by
  cases hsh : isShape s
  case true =>
    rw [perQ, if_pos hsh]
    exact spec_per_c w h hsh
  case false =>
    rw [perQ, hsh]
    have HS := Lib.hid (spec_isShape_c w h hn)
    rw [hsh] at HS
    obtain ⟨A, c, rfl, _, _⟩ := h
    clear hsh
    go_enter Try.func11, Try.ntmps11
    go_wp2_with fail
    refine (HS.out).mono ?_
    rintro e w1 ⟨rfl, b1⟩
    go_wp2
    go_ret
    exact ⟨rfl, b1⟩
theorem conn_no {s : List Cell} (h : isShape s = false) : connS s = false := by unfold connS; rw [h, Bool.false_and]
theorem tree_no {s : List Cell} (h : isShape s = false) : treeB s = false := by unfold treeB; rw [conn_no h, Bool.false_and]
theorem cvx_no {s : List Cell} (h : isShape s = false) : cvxB s = false := by unfold cvxB; rw [conn_no h, Bool.false_and, Bool.false_and]
set_option maxRecDepth 100000 in
set_option maxHeartbeats 800000 in
theorem impl_treeQ_c {v : Value} {s : List Cell} (w : World) (h : CellsRd w 0 w.heap.size v s) (hn : s.length ≤ 1048576) :
    Calls Try.prog 21 #[v] w fun e w' => e = .returned (.bool (treeB s)) ∧ Below w.heap.size w w' := by
  cases hsh : isShape s
  case true => exact impl_tree_c w h hsh
  case false =>
    rw [tree_no hsh]
    have HC := Lib.hid (impl_conn_c w h (by omega))
    rw [conn_no hsh] at HC
    obtain ⟨A, c, rfl, _, _⟩ := h
    clear hsh
    go_enter Try.func21, Try.ntmps21
    go_wp2_with fail
    refine (HC.out).mono ?_
    rintro e w1 ⟨rfl, b1⟩
    go_wp2
    go_ret
    exact ⟨rfl, b1⟩
set_option maxRecDepth 100000 in
set_option maxHeartbeats 800000 in
theorem spec_treeQ_c {v : Value} {s : List Cell} (w : World) (h : CellsRd w 0 w.heap.size v s) (hn : s.length ≤ 1048576) :
    Calls Try.prog 22 #[v] w fun e w' => e = .returned (.bool (treeB s)) ∧ Below w.heap.size w w' := by
  cases hsh : isShape s
  case true => exact spec_tree_c w h hsh
  case false =>
    rw [tree_no hsh]
    have HC := Lib.hid (spec_conn_c w h (by omega))
    rw [conn_no hsh] at HC
    obtain ⟨A, c, rfl, _, _⟩ := h
    clear hsh
    go_enter Try.func22, Try.ntmps22
    go_wp2_with fail
    refine (HC.out).mono ?_
    rintro e w1 ⟨rfl, b1⟩
    go_wp2
    go_ret
    exact ⟨rfl, b1⟩
set_option maxRecDepth 100000 in
set_option maxHeartbeats 800000 in
theorem impl_cvxQ_c {v : Value} {s : List Cell} (w : World) (h : CellsRd w 0 w.heap.size v s) (hn : s.length ≤ 1048576) :
    Calls Try.prog 19 #[v] w fun e w' => e = .returned (.bool (cvxB s)) ∧ Below w.heap.size w w' := by
  cases hsh : isShape s
  case true => exact impl_convex_c w h hsh
  case false =>
    rw [cvx_no hsh]
    have HC := Lib.hid (impl_conn_c w h (by omega))
    rw [conn_no hsh] at HC
    obtain ⟨A, c, rfl, _, _⟩ := h
    clear hsh
    go_enter Try.func19, Try.ntmps19
    go_wp2_with fail
    refine (HC.out).mono ?_
    rintro e w1 ⟨rfl, b1⟩
    go_wp2
    go_ret
    exact ⟨rfl, b1⟩
set_option maxRecDepth 100000 in
set_option maxHeartbeats 800000 in
theorem spec_cvxQ_c {v : Value} {s : List Cell} (w : World) (h : CellsRd w 0 w.heap.size v s) (hn : s.length ≤ 1048576) :
    Calls Try.prog 20 #[v] w fun e w' => e = .returned (.bool (cvxB s)) ∧ Below w.heap.size w w' := by
  cases hsh : isShape s
  case true => exact spec_convex_c w h hsh
  case false =>
    rw [cvx_no hsh]
    have HC := Lib.hid (spec_isShape_c w h hn)
    rw [hsh] at HC
    obtain ⟨A, c, rfl, _, _⟩ := h
    clear hsh
    go_enter Try.func20, Try.ntmps20
    go_wp2_with fail
    refine (HC.out).mono ?_
    rintro e w1 ⟨rfl, b1⟩
    go_wp2
    go_ret
    exact ⟨rfl, b1⟩
set_option maxRecDepth 100000 in
set_option maxHeartbeats 800000 in
theorem impl_rowQ_c {v : Value} {s : List Cell} (w : World) (h : CellsRd w 0 w.heap.size v s) (hn : s.length ≤ 1048576) :
    Calls Try.prog 17 #[v] w fun e w' => e = .returned (.bool (rcQ s)) ∧ Below w.heap.size w w' := by
  have HS := Lib.hid (impl_isShape_c w h hn)
  have HF : Hid (isShape s = true → ∀ w1, Below w.heap.size w w1 → Calls Try.prog 42 #[v] w1 fun e w' => e = .returned (.bool (rcB s)) ∧ Below w1.heap.size w1 w') := Lib.hid fun hsh w1 b1 => impl_follow_c w1 ((h.keep (SameIn.of_below b1 (Nat.le_refl _))).more (Nat.le_refl _) b1.size) hsh (shp_srtS hsh)
  obtain ⟨R, hR⟩ : ∃ R, R = rcQ s := ⟨_, rfl⟩
  rw [← hR]
  unfold rcQ at hR
  have HR := Lib.hid hR
  obtain ⟨A, c, rfl, _, _⟩ := h
  obtain ⟨rb, hrb⟩ : ∃ b, b = rcB s := ⟨_, rfl⟩
  rw [← hrb] at HR HF
  obtain ⟨sb, hsb⟩ : ∃ b, b = isShape s := ⟨_, rfl⟩
  rw [← hsb] at HR HF HS
  clear hR hrb hsb
  go_enter Try.func17, Try.ntmps17
  go_wp2_with fail
  refine (HS.out).mono ?_
  rintro e w1 ⟨rfl, b1⟩
  cases sb
  · obtain rfl : R = false := by rw [HR.out]; rfl
    go_wp2
    go_ret
    exact ⟨rfl, b1⟩
  · obtain rfl : R = rb := by rw [HR.out]; rfl
    have HC := Lib.hid (HF.out rfl _ b1)
    go_wp2_with fail
    refine (HC.out).mono ?_
    rintro e w2 ⟨rfl, b2⟩
    have hb := b1.trans (b2.mono b1.size)
    go_wp2
    go_ret
    exact ⟨rfl, hb⟩
set_option maxRecDepth 100000 in
set_option maxHeartbeats 800000 in
theorem spec_rowQ_c {v : Value} {s : List Cell} (w : World) (h : CellsRd w 0 w.heap.size v s) (hn : s.length ≤ 1048576) :
    Calls Try.prog 18 #[v] w fun e w' => e = .returned (.bool (rcQ s)) ∧ Below w.heap.size w w' := by
  cases hsh : isShape s
  case true =>
    rw [rcQ, hsh, Bool.true_and]
    exact spec_rowcx_c w h hsh
  case false =>
    rw [rcQ, hsh, Bool.false_and]
    have HS : Hid (∀ w1, Below w.heap.size w w1 → Calls Try.prog 23 #[v] w1 fun e w' => e = .returned (.bool false) ∧ Below w1.heap.size w1 w') := Lib.hid fun w1 b1 => by
      have := spec_isShape_c w1 ((h.keep (SameIn.of_below b1 (Nat.le_refl _))).more (Nat.le_refl _) b1.size) hn
      rwa [hsh] at this
    obtain ⟨A, c, rfl, _, _⟩ := h
    clear hsh
    go_enter Try.func18, Try.ntmps18
    go_wp2
    go_loopw [3] (fun iv wx => iv = .int .i64 1 ∧ Below w.heap.size w wx) (fun _ _ => 0)
    case atStart => exact ⟨rfl, Below.refl _ _⟩
    case round =>
      obtain ⟨rfl, hbw⟩ := hrel
      by_cases h0 : 1 < s.length
      · have hlt : decide ((1 : Int) < (s.length : Int)) = true := decide_eq_true (by omega)
        have hlt2 : (1 : Int) < (s.length : Int) := by omega
        clear h0
        go_wp2_with fail
        refine (HS.out _ hbw).mono ?_
        rintro e w1 ⟨rfl, b1⟩
        replace hbw := hbw.trans (b1.mono hbw.size)
        clear b1
        go_wp2_with fail
        refine (HS.out _ hbw).mono ?_
        rintro e w1 ⟨rfl, b1⟩
        have hb := hbw.trans (b1.mono hbw.size)
        go_wp2
        go_ret
        exact ⟨rfl, hb⟩
      · have hlt : decide ((1 : Int) < (s.length : Int)) = false := decide_eq_false (by omega)
        have hlt2 : ¬ (1 : Int) < (s.length : Int) := by omega
        clear h0
        go_wp2_with fail
        refine (HS.out _ hbw).mono ?_
        rintro e w1 ⟨rfl, b1⟩
        have hb := hbw.trans (b1.mono hbw.size)
        go_wp2
        go_ret
        exact ⟨rfl, hb⟩
end Go.Proofs.Ytghpkfihdcjlaaa
