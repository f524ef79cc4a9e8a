
/-
  Squares of four cells: both walks. The helpers of the laws over bytes: too many bytes, lists compared. The law FnOutlines, walked by contracts.
-/
import Derived.Test.YtghpkfihdcjlaaaOuW
import Derived.Test.YtghpkfihdcjlaaaDraw
import Derived.Test.YtghpkfihdcjlaaaCwWalks
import Derived.Test.YtghpkfihdcjlaaaEqW
import Derived.Test.YtghpkfihdcjlaaaOuD
import Derived.Test.YtghpkfihdcjlaaaOuC
import Derived.Test.YtghpkfihdcjlaaaOuQ
import Derived.Test.YtghpkfihdcjlaaaOuB
namespace Go.Proofs.Ytghpkfihdcjlaaa
open Go.RowKit

structure HcIs (s : List Cell) (x y : Int) (g : Bool) : Prop where
  out : g = decide ((⟨x, y⟩ : Cell) ∈ s)
set_option maxRecDepth 100000 in
set_option maxHeartbeats 3200000 in
theorem impl_sq_c {v : Value} {s : List Cell} (w : World) (h : CellsRd w 0 w.heap.size v s) (hn : s.length ≤ 1048576) :
    Calls Try.prog 10 #[v] w fun e w' => e = .returned (.int .i64 (sqN s : Nat)) ∧ Below w.heap.size w w' := by
  have HS0 := Lib.hid (impl_isShape_c w h hn)
  have HHC : Hid (∀ (x y : Int) (g : Bool) w1, g = decide ((⟨x, y⟩ : Cell) ∈ s) → Below w.heap.size w w1 → Calls Try.prog 36 #[v, .int .i64 x, .int .i64 y] w1 fun e w' => e = .returned (.bool g) ∧ Below w1.heap.size w1 w') := Lib.hid fun x y g w1 hg b1 => by rw [hg]; exact impl_has2_c x y w1 ((h.keep (SameIn.of_below b1 (Nat.le_refl _))).more (Nat.le_refl _) b1.size) (by omega)
  obtain ⟨R, hR⟩ : ∃ R, R = sqN s := ⟨_, rfl⟩
  rw [← hR]
  have HR := Lib.hid hR
  obtain ⟨A, c, rfl, hm, hr⟩ := h
  have HRS := Lib.hid hr
  clear hr hm hR
  go_enter Try.func10, Try.ntmps10
  go_wp2_with fail
  refine (HS0.out).mono ?_
  rintro e w1 ⟨rfl, b1⟩
  clear HS0
  cases hsh : isShape s
  · obtain rfl : R = 0 := by rw [HR.out, sqN, hsh]; rfl
    clear hsh
    go_wp2
    go_ret
    exact ⟨rfl, b1⟩
  obtain ⟨hl1, hl8⟩ := shp_len hsh
  have HSH := Lib.hid hsh
  have HRT : Hid (R = sqTo s s.length) := Lib.hid (by rw [HR.out, sqN, if_pos hsh])
  obtain ⟨b, off, hA, _, hb, hc⟩ := HRS.out.2 (by omega)
  subst hA
  have HCE := Lib.hid hc
  clear hc hsh
  go_wp2
  go_loopw [3, 11] (fun av iv wx => ∃ i : Nat, i ≤ s.length ∧ iv = .int .i64 i ∧ av = .int .i64 (sqTo s i : Nat) ∧ Below w.heap.size w wx) (fun _ iv _ => s.length - (intOf iv).toNat)
  case atStart => exact ⟨0, Nat.zero_le _, rfl, rfl, b1⟩
  case round =>
    clear b1
    obtain ⟨i, hi, rfl, rfl, hbw⟩ := hrel
    by_cases hlt : i < s.length
    · have hlti : (i : Int) < (s.length : Int) := by omega
      obtain ⟨d, hd⟩ : ∃ d, s[i]? = some d := ⟨s[i], List.getElem?_eq_getElem hlt⟩
      have q1 : wr.cell? ⟨b, off + i * 2, none⟩ = some (.int .i64 d.x) := (hbw.cell (p := ⟨b, off + i * 2, none⟩) hb).trans (HCE.out _ _ (cc_at hd).1)
      have q2 : wr.cell? ⟨b, off + i * 2 + 1, none⟩ = some (.int .i64 d.y) := (hbw.cell (p := ⟨b, off + i * 2 + 1, none⟩) hb).trans (by rw [Nat.add_assoc]; exact HCE.out _ _ (cc_at hd).2)
      have HSQ := Lib.hid (sqTo_at hd)
      have hon := shp_on HSH.out (List.mem_of_getElem? hd)
      unfold On at hon
      have m1 : wrap64 (d.x + 1) = d.x + 1 := IntWalk.wrap64_in _ (by omega)
      have m2 : wrap64 (d.y + 1) = d.y + 1 := IntWalk.wrap64_in _ (by omega)
      have H2 := ((Sep.start w).step hbw).box 41 #[.int .i64 d.x, .int .i64 d.y]
      clear hd hbw
      go_upto_region 7 with fail
      obtain ⟨gd, hgd⟩ : ∃ k, k = wr.heap.size := ⟨_, rfl⟩
      rw [← hgd] at H2 ⊢
      generalize wr.alloc (.cells #[.int .i64 d.x, .int .i64 d.y] 41) = W7 at *
      clear hgd q1 q2
      have k0 : W7.cell? ⟨gd, 0, none⟩ = some (.int .i64 d.x) := H2.h0.cell 0
      have k1 : W7.cell? ⟨gd, 1, none⟩ = some (.int .i64 d.y) := H2.h0.cell 1
      obtain ⟨g1, hg1⟩ : ∃ g, g = decide ((⟨d.x + 1, d.y⟩ : Cell) ∈ s) := ⟨_, rfl⟩
      obtain ⟨g2, hg2⟩ : ∃ g, g = decide ((⟨d.x, d.y + 1⟩ : Cell) ∈ s) := ⟨_, rfl⟩
      obtain ⟨g3, hg3⟩ : ∃ g, g = decide ((⟨d.x + 1, d.y + 1⟩ : Cell) ∈ s) := ⟨_, rfl⟩
      have HSB : Hid (sqB s d = (g1 && (g2 && g3))) := Lib.hid (by rw [hg1, hg2, hg3]; rfl)
      have HQ1 := Lib.hid (HHC.out (d.x + 1) d.y g1 W7 hg1 H2.below)
      have HG2 := Lib.hid hg2
      have HG3 := Lib.hid hg3
      clear hg1 hg2 hg3
      go_wp2_with fail
      refine (HQ1.out).mono ?_
      rintro e w8 ⟨rfl, b8⟩
      have H3 := H2.step b8
      clear HQ1 b8 k0 k1 H2
      cases g1
      ·
        have HIR : Hid (sqTo s (i + 1) = sqTo s i) := Lib.hid (by rw [HSQ.out, HSB.out]; simp)
        have hb3 := H3.below
        clear H3 m1 m2
        go_wp2
        go_roundw
        case rel => exact ⟨i + 1, by omega, by go_num, by rw [HIR.out], hb3⟩
        case measure => simp [intOf]; omega
      have k0 : w8.cell? ⟨gd, 0, none⟩ = some (.int .i64 d.x) := H3.h0.cell 0
      have k1 : w8.cell? ⟨gd, 1, none⟩ = some (.int .i64 d.y) := H3.h0.cell 1
      have HQ1 := Lib.hid (HHC.out d.x (d.y + 1) g2 w8 HG2.out H3.below)
      go_wp2_with fail
      refine (HQ1.out).mono ?_
      rintro e w9 ⟨rfl, b9⟩
      have H4 := H3.step b9
      clear HQ1 b9 k0 k1 H3
      cases g2
      ·
        have HIR : Hid (sqTo s (i + 1) = sqTo s i) := Lib.hid (by rw [HSQ.out, HSB.out]; simp)
        have hb3 := H4.below
        clear H4 m1 m2
        go_wp2
        go_roundw
        case rel => exact ⟨i + 1, by omega, by go_num, by rw [HIR.out], hb3⟩
        case measure => simp [intOf]; omega
      have k0 : w9.cell? ⟨gd, 0, none⟩ = some (.int .i64 d.x) := H4.h0.cell 0
      have k1 : w9.cell? ⟨gd, 1, none⟩ = some (.int .i64 d.y) := H4.h0.cell 1
      have HQ1 := Lib.hid (HHC.out (d.x + 1) (d.y + 1) g3 w9 HG3.out H4.below)
      go_wp2_with fail
      refine (HQ1.out).mono ?_
      rintro e w10 ⟨rfl, b10⟩
      have H5 := H4.step b10
      clear HQ1 b10 k0 k1 H4
      cases g3
      ·
        have HIR : Hid (sqTo s (i + 1) = sqTo s i) := Lib.hid (by rw [HSQ.out, HSB.out]; simp)
        have hb3 := H5.below
        clear H5 m1 m2
        go_wp2
        go_roundw
        case rel => exact ⟨i + 1, by omega, by go_num, by rw [HIR.out], hb3⟩
        case measure => simp [intOf]; omega
      ·
        have HIR : Hid (sqTo s (i + 1) = sqTo s i + 1) := Lib.hid (by rw [HSQ.out, HSB.out]; simp)
        have hb3 := H5.below
        have n1 := sqTo_le s i
        have m9 : wrap64 (((sqTo s i : Nat) : Int) + 1) = ((sqTo s i + 1 : Nat) : Int) := by rw [IntWalk.wrap64_in _ (by omega)]; omega
        clear H5 m1 m2
        go_wp2
        clear m9
        go_roundw
        case rel => exact ⟨i + 1, by omega, by go_num, by rw [HIR.out]; first | rfl | (congr 1; omega), hb3⟩
        case measure => simp [intOf]; omega
    · obtain rfl : i = s.length := by omega
      rw [← HRT.out]
      go_wp2
      go_ret
      exact ⟨rfl, hbw⟩
set_option maxRecDepth 100000 in
set_option maxHeartbeats 3200000 in
theorem spec_sq_c {v : Value} {s : List Cell} (w : World) (h : CellsRd w 0 w.heap.size v s) (hn : s.length ≤ 1000000) :
    Calls Try.prog 14 #[v] w fun e w' => e = .returned (.int .i64 (sqN s : Nat)) ∧ Below w.heap.size w w' := by
  have HS0 : Hid (∀ w1, Below w.heap.size w w1 → Calls Try.prog 23 #[v] w1 fun e w' => e = .returned (.bool (isShape s)) ∧ Below w1.heap.size w1 w') := Lib.hid fun w1 b1 => spec_isShape_c w1 ((h.keep (SameIn.of_below b1 (Nat.le_refl _))).more (Nat.le_refl _) b1.size) (by omega)
  have HHC : Hid (∀ (x y : Int) (g : Bool) w1, g = decide ((⟨x, y⟩ : Cell) ∈ s) → Below w.heap.size w w1 → Calls Try.prog 40 #[v, .int .i64 x, .int .i64 y] w1 fun e w' => e = .returned (.bool g) ∧ w1 = w') := Lib.hid fun x y g w1 hg b1 => by rw [hg]; exact spec_has2_c x y w1 ((h.keep (SameIn.of_below b1 (Nat.le_refl _))).more (Nat.le_refl _) b1.size) (by omega)
  obtain ⟨R, hR⟩ : ∃ R, R = sqN s := ⟨_, rfl⟩
  rw [← hR]
  have HR := Lib.hid hR
  obtain ⟨A, c, rfl, hm, hr⟩ := h
  have HRS := Lib.hid hr
  clear hr hm hR
  cases hsh : isShape s
  · rw [hsh] at HS0
    obtain rfl : R = 0 := by rw [HR.out, sqN, hsh]; rfl
    clear hsh
    go_enter Try.func14, Try.ntmps14
    go_wp2
    go_loopw [3, 4] (fun av iv wx => av = .int .i64 0 ∧ iv = .int .i64 0 ∧ Below w.heap.size w wx) (fun _ _ _ => 0)
    case atStart => exact ⟨rfl, rfl, Below.refl _ _⟩
    case round =>
      obtain ⟨rfl, rfl, hbw⟩ := hrel
      by_cases h0 : s.length = 0
      · have hlt : decide ((0 : Int) < (s.length : Int)) = false := decide_eq_false (by omega)
        have hlt2 : ¬ (0 : Int) < (s.length : Int) := by omega
        clear h0
        go_wp2
        go_ret
        exact ⟨rfl, hbw⟩
      · have hlt : decide ((0 : Int) < (s.length : Int)) = true := decide_eq_true (by omega)
        have hlt2 : (0 : Int) < (s.length : Int) := by omega
        clear h0
        go_wp2_with fail
        refine (HS0.out _ hbw).mono ?_
        rintro e w1 ⟨rfl, b1⟩
        have hb := hbw.trans (b1.mono hbw.size)
        go_wp2
        go_ret
        exact ⟨rfl, hb⟩
  obtain ⟨hl1, hl8⟩ := shp_len hsh
  have HSH := Lib.hid hsh
  have HRT : Hid (R = sqTo s s.length) := Lib.hid (by rw [HR.out, sqN, if_pos hsh])
  rw [hsh] at HS0
  obtain ⟨b, off, hA, _, hb, hc⟩ := HRS.out.2 (by omega)
  subst hA
  have HCE := Lib.hid hc
  clear hc hsh
  go_enter Try.func14, Try.ntmps14
  go_wp2
  go_loopw [3, 4] (fun av iv wx => ∃ i : Nat, i ≤ s.length ∧ iv = .int .i64 i ∧ av = .int .i64 (sqTo s i : Nat) ∧ Below w.heap.size w wx) (fun _ iv _ => s.length - (intOf iv).toNat)
  case atStart => exact ⟨0, Nat.zero_le _, rfl, rfl, Below.refl _ _⟩
  case round =>
    obtain ⟨i, hi, rfl, rfl, hbw⟩ := hrel
    by_cases hlt : i < s.length
    · have hlti : (i : Int) < (s.length : Int) := by omega
      have hltd : decide ((i : Int) < (s.length : Int)) = true := decide_eq_true hlti
      go_wp2_with fail
      refine (HS0.out _ hbw).mono ?_
      rintro e w1 ⟨rfl, b1⟩
      replace hbw := hbw.trans (b1.mono hbw.size)
      clear b1
      obtain ⟨d, hd⟩ : ∃ d, s[i]? = some d := ⟨s[i], List.getElem?_eq_getElem hlt⟩
      have hbr : b < w1.heap.size := by have := hbw.size; omega
      have l1 := Later.cell ((hbw.cell (p := ⟨b, off + i * 2, none⟩) hb).trans (HCE.out _ _ (cc_at hd).1)) hbr
      have l2 := Later.cell ((hbw.cell (p := ⟨b, off + i * 2 + 1, none⟩) hb).trans (by rw [Nat.add_assoc]; exact HCE.out _ _ (cc_at hd).2)) hbr
      have HSQ := Lib.hid (sqTo_at hd)
      have hon := shp_on HSH.out (List.mem_of_getElem? hd)
      unfold On at hon
      have m1 : wrap64 (d.x + 1) = d.x + 1 := IntWalk.wrap64_in _ (by omega)
      have m2 : wrap64 (d.y + 1) = d.y + 1 := IntWalk.wrap64_in _ (by omega)
      obtain ⟨g1, hg1⟩ : ∃ g, g = decide ((⟨d.x + 1, d.y⟩ : Cell) ∈ s) := ⟨_, rfl⟩
      obtain ⟨g2, hg2⟩ : ∃ g, g = decide ((⟨d.x, d.y + 1⟩ : Cell) ∈ s) := ⟨_, rfl⟩
      obtain ⟨g3, hg3⟩ : ∃ g, g = decide ((⟨d.x + 1, d.y + 1⟩ : Cell) ∈ s) := ⟨_, rfl⟩
      have HSB : Hid (sqB s d = (g1 && (g2 && g3))) := Lib.hid (by rw [hg1, hg2, hg3]; rfl)
      have HQ : Hid (∀ (x y : Int) (g : Bool) (u : Later w1), HcIs s x y g → Calls Try.prog 40 #[.slice (some ⟨b, off, none⟩) s.length c, .int .i64 x, .int .i64 y] u.w fun e w' => e = .returned (.bool g) ∧ u.w = w') := Lib.hid fun x y g u hg => HHC.out x y g u.w hg.out (hbw.trans (u.h.mono hbw.size))
      have i1 : HcIs s (d.x + 1) d.y g1 := ⟨hg1⟩
      have i2 : HcIs s d.x (d.y + 1) g2 := ⟨hg2⟩
      have i3 : HcIs s (d.x + 1) (d.y + 1) g3 := ⟨hg3⟩
      clear hg1 hg2 hg3 hd hbr
      cases g1
      ·
        go_wp2_with fail
        refine wp_region_later (by kernel_rfl) (by kernel_rfl) ?_
        repeat (go_big_quiet_step ((go_at_call 40; exact Later.same (HQ.out _ _ _ _ (by assumption)))))
        refine wpQuiet_nil ?_
        intro w3 hw3
        obtain ⟨u3, hu3⟩ := hw3
        subst hu3
        have hb0 := hbw.trans (u3.h.mono hbw.size)
        clear l1 l2 HQ i1 i2 i3 hbw m1 m2
        generalize u3.w = w3 at *
        have HIR : Hid (sqTo s (i + 1) = sqTo s i) := Lib.hid (by rw [HSQ.out, HSB.out]; simp)
        have hb3 := hb0
        clear hltd
        go_wp2
        go_roundw
        case rel => exact ⟨i + 1, by omega, by go_num, by rw [HIR.out], hb3⟩
        case measure => simp [intOf]; omega
      cases g2
      ·
        go_wp2_with fail
        refine wp_region_later (by kernel_rfl) (by kernel_rfl) ?_
        repeat (go_big_quiet_step ((go_at_call 40; exact Later.same (HQ.out _ _ _ _ (by assumption)))))
        refine wpQuiet_nil ?_
        intro w3 hw3
        obtain ⟨u3, hu3⟩ := hw3
        subst hu3
        have hb0 := hbw.trans (u3.h.mono hbw.size)
        clear l1 l2 HQ i1 i2 i3 hbw m1 m2
        generalize u3.w = w3 at *
        have HIR : Hid (sqTo s (i + 1) = sqTo s i) := Lib.hid (by rw [HSQ.out, HSB.out]; simp)
        have hb3 := hb0
        clear hltd
        go_wp2
        go_roundw
        case rel => exact ⟨i + 1, by omega, by go_num, by rw [HIR.out], hb3⟩
        case measure => simp [intOf]; omega
      cases g3
      ·
        go_wp2_with fail
        refine wp_region_later (by kernel_rfl) (by kernel_rfl) ?_
        repeat (go_big_quiet_step ((go_at_call 40; exact Later.same (HQ.out _ _ _ _ (by assumption)))))
        refine wpQuiet_nil ?_
        intro w3 hw3
        obtain ⟨u3, hu3⟩ := hw3
        subst hu3
        have hb0 := hbw.trans (u3.h.mono hbw.size)
        clear l1 l2 HQ i1 i2 i3 hbw m1 m2
        generalize u3.w = w3 at *
        have HIR : Hid (sqTo s (i + 1) = sqTo s i) := Lib.hid (by rw [HSQ.out, HSB.out]; simp)
        have hb3 := hb0
        clear hltd
        go_wp2
        go_roundw
        case rel => exact ⟨i + 1, by omega, by go_num, by rw [HIR.out], hb3⟩
        case measure => simp [intOf]; omega
      ·
        go_wp2_with fail
        refine wp_region_later (by kernel_rfl) (by kernel_rfl) ?_
        repeat (go_big_quiet_step ((go_at_call 40; exact Later.same (HQ.out _ _ _ _ (by assumption)))))
        refine wpQuiet_nil ?_
        intro w3 hw3
        obtain ⟨u3, hu3⟩ := hw3
        subst hu3
        have hb0 := hbw.trans (u3.h.mono hbw.size)
        clear l1 l2 HQ i1 i2 i3 hbw m1 m2
        generalize u3.w = w3 at *
        have HIR : Hid (sqTo s (i + 1) = sqTo s i + 1) := Lib.hid (by rw [HSQ.out, HSB.out]; simp)
        have hb3 := hb0
        have n1 := sqTo_le s i
        have m9 : wrap64 (((sqTo s i : Nat) : Int) + 1) = ((sqTo s i + 1 : Nat) : Int) := by rw [IntWalk.wrap64_in _ (by omega)]; omega
        clear hltd
        go_wp2
        clear m9
        go_roundw
        case rel => exact ⟨i + 1, by omega, by go_num, by rw [HIR.out]; first | rfl | (congr 1; omega), hb3⟩
        case measure => simp [intOf]; omega
    · obtain rfl : i = s.length := by omega
      have hltd : decide ((s.length : Int) < (s.length : Int)) = false := decide_eq_false (by omega)
      rw [← HRT.out]
      go_wp2
      go_ret
      exact ⟨rfl, hbw⟩
end Go.Proofs.Ytghpkfihdcjlaaa

namespace Go.Proofs.Ytghpkfihdcjlaaa
open Go.RowKit

set_option maxRecDepth 100000 in
theorem big_no {v : Value} {l : List UInt8} (w : World) (h : BytesRd w 0 w.heap.size v l) (hl : l.length ≤ 1048576) :
    Calls Try.prog 5 #[v] w fun e w' => e = .returned (.bool false) ∧ w = w' := by
  obtain ⟨A, c, rfl, hm, hr⟩ := h
  have hd : decide ((1048576 : Int) < (l.length : Int)) = false := by simp; omega
  clear hr
  go_enter Try.func5, Try.ntmps5
  go_wp2
  go_ret
  exact ⟨rfl, rfl⟩
set_option maxRecDepth 100000 in
theorem big_yes {v : Value} {l : List UInt8} (w : World) (h : BytesRd w 0 w.heap.size v l) (hl : 1048576 < l.length) :
    Calls Try.prog 5 #[v] w fun e w' => e = .returned (.bool true) ∧ w = w' := by
  obtain ⟨A, c, rfl, hm, hr⟩ := h
  have hd : decide ((1048576 : Int) < (l.length : Int)) = true := by simp; omega
  clear hr
  go_enter Try.func5, Try.ntmps5
  go_wp2
  go_ret
  exact ⟨rfl, rfl⟩

end Go.Proofs.Ytghpkfihdcjlaaa

namespace Go.Proofs.Ytghpkfihdcjlaaa
open Go.RowKit

set_option maxRecDepth 100000 in
set_option maxHeartbeats 6400000 in
theorem law_out (v : Value) (l : List UInt8) (w : World) (h : BytesRd w 0 w.heap.size v l) :
    Calls Try.prog 3 #[v] w fun e w' => e = .returned (.bool true) ∧ Below w.heap.size w w' := by
  by_cases hl : l.length ≤ 1048576
  · go_enter Try.func3, Try.ntmps3
    go_wp2_with fail
    refine (big_no w h hl).mono ?_
    rintro e w' ⟨rfl, rfl⟩
    go_wp2_with fail
    refine (drawHoles_c w h hl).mono ?_
    rintro e W ⟨va, s, rfl, hs, hs8, b1⟩
    have HW1 := Lib.hid b1
    have HA : Hid (∀ w', Below W.heap.size W w' → CellsRd w' 0 w'.heap.size va s) := Lib.hid fun w' b => (hs.keep (SameIn.of_below b (Nat.le_refl _))).more (Nat.le_refl _) b.size
    clear b1 h
    obtain ⟨P, hP⟩ : ∃ k, k = perQ s := ⟨_, rfl⟩
    obtain ⟨Hh, hH⟩ : ∃ k, k = holesZ s := ⟨_, rfl⟩
    obtain ⟨E, hE⟩ : ∃ k : Int, k = if isShape s then (innN s : Int) else 0 := ⟨_, rfl⟩
    obtain ⟨Q, hQ⟩ : ∃ k, k = sqN s := ⟨_, rfl⟩
    obtain ⟨N, hN⟩ : ∃ k, k = nbZ s := ⟨_, rfl⟩
    obtain ⟨rc, hrc⟩ : ∃ k, k = rcQ s := ⟨_, rfl⟩
    obtain ⟨cv, hcv⟩ : ∃ k, k = cvxB s := ⟨_, rfl⟩
    obtain ⟨tr, htr⟩ : ∃ k, k = treeB s := ⟨_, rfl⟩
    obtain ⟨sh, hsh⟩ : ∃ k, k = isShape s := ⟨_, rfl⟩
    obtain ⟨ok, hok⟩ : ∃ k, k = bordOk s := ⟨_, rfl⟩
    obtain ⟨B, hB⟩ : ∃ k, k = wstr (bordW s) := ⟨_, rfl⟩
    have H1 : Hid (∀ w', Below W.heap.size W w' → Calls Try.prog 7 #[va] w' fun e w'' => e = .returned (.int .i64 P) ∧ Below w'.heap.size w' w'') := Lib.hid fun w' b => by rw [hP]; exact impl_perQ_c w' (HA.out w' b) (by omega)
    have H2 : Hid (∀ w', Below W.heap.size W w' → Calls Try.prog 8 #[va] w' fun e w'' => e = .returned (.int .i64 Hh) ∧ Below w'.heap.size w' w'') := Lib.hid fun w' b => by rw [hH]; exact impl_holes_c w' (HA.out w' b) (by omega)
    have H3 : Hid (∀ w', Below W.heap.size W w' → Calls Try.prog 9 #[va] w' fun e w'' => e = .returned (.int .i64 E) ∧ Below w'.heap.size w' w'') := Lib.hid fun w' b => by rw [hE]; exact impl_inner_c w' (HA.out w' b) (by omega)
    have H4 : Hid (∀ w', Below W.heap.size W w' → Calls Try.prog 10 #[va] w' fun e w'' => e = .returned (.int .i64 (Q : Nat)) ∧ Below w'.heap.size w' w'') := Lib.hid fun w' b => by rw [hQ]; exact impl_sq_c w' (HA.out w' b) (by omega)
    have H5 : Hid (∀ w', Below W.heap.size W w' → Calls Try.prog 11 #[va] w' fun e w'' => e = .returned (.int .i64 P) ∧ Below w'.heap.size w' w'') := Lib.hid fun w' b => by rw [hP]; exact spec_perQ_c w' (HA.out w' b) (by omega)
    have H6 : Hid (∀ w', Below W.heap.size W w' → Calls Try.prog 12 #[va] w' fun e w'' => e = .returned (.int .i64 Hh) ∧ Below w'.heap.size w' w'') := Lib.hid fun w' b => by rw [hH]; exact spec_holes_c w' (HA.out w' b) (by omega)
    have H7 : Hid (∀ w', Below W.heap.size W w' → Calls Try.prog 13 #[va] w' fun e w'' => e = .returned (.int .i64 E) ∧ Below w'.heap.size w' w'') := Lib.hid fun w' b => by rw [hE]; exact spec_inner_c w' (HA.out w' b) (by omega)
    have H8 : Hid (∀ w', Below W.heap.size W w' → Calls Try.prog 14 #[va] w' fun e w'' => e = .returned (.int .i64 (Q : Nat)) ∧ Below w'.heap.size w' w'') := Lib.hid fun w' b => by rw [hQ]; exact spec_sq_c w' (HA.out w' b) (by omega)
    have H9 : Hid (∀ w', Below W.heap.size W w' → Calls Try.prog 15 #[va] w' fun e w'' => e = .returned (.int .i64 N) ∧ Below w'.heap.size w' w'') := Lib.hid fun w' b => by rw [hN]; exact impl_nq_c w' (HA.out w' b) (by omega)
    have H10 : Hid (∀ w', Below W.heap.size W w' → Calls Try.prog 16 #[va] w' fun e w'' => e = .returned (.int .i64 N) ∧ Below w'.heap.size w' w'') := Lib.hid fun w' b => by rw [hN]; exact spec_nq_c w' (HA.out w' b) (by omega)
    have H11 : Hid (∀ w', Below W.heap.size W w' → Calls Try.prog 17 #[va] w' fun e w'' => e = .returned (.bool rc) ∧ Below w'.heap.size w' w'') := Lib.hid fun w' b => by rw [hrc]; exact impl_rowQ_c w' (HA.out w' b) (by omega)
    have H12 : Hid (∀ w', Below W.heap.size W w' → Calls Try.prog 18 #[va] w' fun e w'' => e = .returned (.bool rc) ∧ Below w'.heap.size w' w'') := Lib.hid fun w' b => by rw [hrc]; exact spec_rowQ_c w' (HA.out w' b) (by omega)
    have HCI : Hid (∀ w', Below W.heap.size W w' → Calls Try.prog 19 #[va] w' fun e w'' => e = .returned (.bool cv) ∧ Below w'.heap.size w' w'') := Lib.hid fun w' b => by rw [hcv]; exact impl_cvxQ_c w' (HA.out w' b) (by omega)
    have HCS : Hid (∀ w', Below W.heap.size W w' → Calls Try.prog 20 #[va] w' fun e w'' => e = .returned (.bool cv) ∧ Below w'.heap.size w' w'') := Lib.hid fun w' b => by rw [hcv]; exact spec_cvxQ_c w' (HA.out w' b) (by omega)
    have HTI : Hid (∀ w', Below W.heap.size W w' → Calls Try.prog 21 #[va] w' fun e w'' => e = .returned (.bool tr) ∧ Below w'.heap.size w' w'') := Lib.hid fun w' b => by rw [htr]; exact impl_treeQ_c w' (HA.out w' b) (by omega)
    have HTS : Hid (∀ w', Below W.heap.size W w' → Calls Try.prog 22 #[va] w' fun e w'' => e = .returned (.bool tr) ∧ Below w'.heap.size w' w'') := Lib.hid fun w' b => by rw [htr]; exact spec_treeQ_c w' (HA.out w' b) (by omega)
    have HSS : Hid (∀ w', Below W.heap.size W w' → Calls Try.prog 23 #[va] w' fun e w'' => e = .returned (.bool sh) ∧ Below w'.heap.size w' w'') := Lib.hid fun w' b => by rw [hsh]; exact spec_isShape_c w' (HA.out w' b) (by omega)
    have HBW : Hid (∀ w', Below W.heap.size W w' → Calls Try.prog 24 #[va] w' fun e w'' => e = .returned (.tuple #[.string B, .bool ok]) ∧ Below w'.heap.size w' w'') := Lib.hid fun w' b => by rw [hB, hok]; exact spec_bord_c w' (HA.out w' b) (by omega)
    have HPE : Hid (sh = true → P = 4 * (s.length : Int) - 2 * E) := Lib.hid fun hh => by
      rw [hsh] at hh
      rw [hP, hE, perQ, if_pos hh, if_pos hh]
      rfl
    have HCV : Hid (cv = true → Hh ≤ 0) := Lib.hid fun hh => by
      rw [hcv] at hh
      have h1 : isShape s = true := by
        cases h2 : isShape s
        · rw [cvx_no h2] at hh; cases hh
        · rfl
      unfold cvxB at hh
      simp only [Bool.and_eq_true] at hh
      rw [hH, holesZ, if_pos h1, convex_holes h1 (shp_srtS h1) hh.1.2]
      decide
    have HTR : Hid (tr = true → Q = 0) := Lib.hid fun hh => by
      rw [htr] at hh
      have h1 : isShape s = true := by
        cases h2 : isShape s
        · rw [tree_no h2] at hh; cases hh
        · rfl
      rw [hQ]
      exact tree_sqN hh h1
    have HSZ : Hid (ok = true → (B.size : Int) = P) := Lib.hid fun hh => by
      rw [hok] at hh
      have h1 : isShape s = true := by
        have h3 := hh
        unfold bordOk connS at h3
        simp only [Bool.and_eq_true] at h3
        exact h3.1.1.1
      rw [hP, perQ, if_pos h1, ← bord_len hh, hB, wstr_size]
    have hE1 : 0 ≤ E := by rw [hE]; split <;> omega
    have hE2 : E ≤ 64 := by
      rw [hE]
      split
      · rename_i h1
        have := inn_le64 h1
        omega
      · omega
    obtain ⟨A1, c1, rfl, _, _⟩ := hs
    clear hP hH hE hQ hN hrc hcv htr hsh hok hB HA
    have HH : Below W.heap.size W W := Below.refl _ _
    have hn8 := hs8
    generalize s.length = n at *
    go_wp2_with fail
    refine (H1.out _ HH).mono ?_
    rintro e w2 ⟨rfl, bb⟩
    replace HH := HH.trans (bb.mono HH.size)
    clear bb
    go_wp2_with fail
    refine (H2.out _ HH).mono ?_
    rintro e w3 ⟨rfl, bb⟩
    replace HH := HH.trans (bb.mono HH.size)
    clear bb
    go_wp2_with fail
    refine (H3.out _ HH).mono ?_
    rintro e w4 ⟨rfl, bb⟩
    replace HH := HH.trans (bb.mono HH.size)
    clear bb
    go_wp2_with fail
    refine (H4.out _ HH).mono ?_
    rintro e w5 ⟨rfl, bb⟩
    replace HH := HH.trans (bb.mono HH.size)
    clear bb
    go_wp2_with fail
    refine (H5.out _ HH).mono ?_
    rintro e w6 ⟨rfl, bb⟩
    replace HH := HH.trans (bb.mono HH.size)
    clear bb
    go_wp2_with fail
    refine (H6.out _ HH).mono ?_
    rintro e w7 ⟨rfl, bb⟩
    replace HH := HH.trans (bb.mono HH.size)
    clear bb
    go_wp2_with fail
    refine (H7.out _ HH).mono ?_
    rintro e w8 ⟨rfl, bb⟩
    replace HH := HH.trans (bb.mono HH.size)
    clear bb
    go_wp2_with fail
    refine (H8.out _ HH).mono ?_
    rintro e w9 ⟨rfl, bb⟩
    replace HH := HH.trans (bb.mono HH.size)
    clear bb
    go_wp2_with fail
    refine (H9.out _ HH).mono ?_
    rintro e w10 ⟨rfl, bb⟩
    replace HH := HH.trans (bb.mono HH.size)
    clear bb
    go_wp2_with fail
    refine (H10.out _ HH).mono ?_
    rintro e w11 ⟨rfl, bb⟩
    replace HH := HH.trans (bb.mono HH.size)
    clear bb
    go_wp2_with fail
    refine (H11.out _ HH).mono ?_
    rintro e w12 ⟨rfl, bb⟩
    replace HH := HH.trans (bb.mono HH.size)
    clear bb
    go_wp2_with fail
    refine (H12.out _ HH).mono ?_
    rintro e w13 ⟨rfl, bb⟩
    replace HH := HH.trans (bb.mono HH.size)
    clear bb
    go_wp2_with fail
    refine (HCI.out _ HH).mono ?_
    rintro e w14 ⟨rfl, bb⟩
    replace HH := HH.trans (bb.mono HH.size)
    clear bb
    go_wp2_with fail
    refine (HCS.out _ HH).mono ?_
    rintro e w15 ⟨rfl, bb⟩
    replace HH := HH.trans (bb.mono HH.size)
    clear bb
    go_wp2_with fail
    refine (HTI.out _ HH).mono ?_
    rintro e w16 ⟨rfl, bb⟩
    replace HH := HH.trans (bb.mono HH.size)
    clear bb
    go_wp2_with fail
    refine (HTS.out _ HH).mono ?_
    rintro e w17 ⟨rfl, bb⟩
    replace HH := HH.trans (bb.mono HH.size)
    clear bb
    clear H1 H2 H3 H4 H5 H6 H7 H8 H9 H10 H11 H12 HCS HTS
    go_wp2_with fail
    refine (HSS.out _ HH).mono ?_
    rintro e w18 ⟨rfl, bb⟩
    replace HH := HH.trans (bb.mono HH.size)
    clear bb
    cases sh
    ·
      go_wp2_with fail
      refine (HTI.out _ HH).mono ?_
      rintro e w28 ⟨rfl, bb⟩
      replace HH := HH.trans (bb.mono HH.size)
      clear bb
      cases tr
      ·
        go_wp2_with fail
        refine (HCI.out _ HH).mono ?_
        rintro e w29 ⟨rfl, bb⟩
        replace HH := HH.trans (bb.mono HH.size)
        clear bb
        cases cv
        ·
          go_wp2_with fail
          refine (HBW.out _ HH).mono ?_
          rintro e w30 ⟨rfl, bb⟩
          have HE := HW1.out.trans ((HH.trans (bb.mono HH.size)).mono HW1.out.size)
          clear bb HH
          cases ok
          · go_wp2
            go_ret
            exact ⟨rfl, HE⟩
          · have hsz := HSZ.out rfl
            go_wp2
            go_ret
            exact ⟨rfl, HE⟩
        ·
          have hc0 := HCV.out rfl
          have hc1 : decide ((0 : Int) < Hh) = false := decide_eq_false (by omega)
          have hc2 : ¬ (0 : Int) < Hh := by omega
          go_wp2_with fail
          refine (HBW.out _ HH).mono ?_
          rintro e w30 ⟨rfl, bb⟩
          have HE := HW1.out.trans ((HH.trans (bb.mono HH.size)).mono HW1.out.size)
          clear bb HH
          cases ok
          · go_wp2
            go_ret
            exact ⟨rfl, HE⟩
          · have hsz := HSZ.out rfl
            go_wp2
            go_ret
            exact ⟨rfl, HE⟩
      ·
        obtain rfl := HTR.out rfl
        go_wp2_with fail
        refine (HCI.out _ HH).mono ?_
        rintro e w29 ⟨rfl, bb⟩
        replace HH := HH.trans (bb.mono HH.size)
        clear bb
        cases cv
        ·
          go_wp2_with fail
          refine (HBW.out _ HH).mono ?_
          rintro e w30 ⟨rfl, bb⟩
          have HE := HW1.out.trans ((HH.trans (bb.mono HH.size)).mono HW1.out.size)
          clear bb HH
          cases ok
          · go_wp2
            go_ret
            exact ⟨rfl, HE⟩
          · have hsz := HSZ.out rfl
            go_wp2
            go_ret
            exact ⟨rfl, HE⟩
        ·
          have hc0 := HCV.out rfl
          have hc1 : decide ((0 : Int) < Hh) = false := decide_eq_false (by omega)
          have hc2 : ¬ (0 : Int) < Hh := by omega
          go_wp2_with fail
          refine (HBW.out _ HH).mono ?_
          rintro e w30 ⟨rfl, bb⟩
          have HE := HW1.out.trans ((HH.trans (bb.mono HH.size)).mono HW1.out.size)
          clear bb HH
          cases ok
          · go_wp2
            go_ret
            exact ⟨rfl, HE⟩
          · have hsz := HSZ.out rfl
            go_wp2
            go_ret
            exact ⟨rfl, HE⟩
    ·
      obtain rfl := HPE.out rfl
      have hne : (4 * (n : Int) - 2 * E != 4 * (n : Int) - 2 * E) = false := by simp
      go_wp2_with fail
      refine (HTI.out _ HH).mono ?_
      rintro e w28 ⟨rfl, bb⟩
      replace HH := HH.trans (bb.mono HH.size)
      clear bb
      cases tr
      ·
        go_wp2_with fail
        refine (HCI.out _ HH).mono ?_
        rintro e w29 ⟨rfl, bb⟩
        replace HH := HH.trans (bb.mono HH.size)
        clear bb
        cases cv
        ·
          go_wp2_with fail
          refine (HBW.out _ HH).mono ?_
          rintro e w30 ⟨rfl, bb⟩
          have HE := HW1.out.trans ((HH.trans (bb.mono HH.size)).mono HW1.out.size)
          clear bb HH
          cases ok
          · go_wp2
            go_ret
            exact ⟨rfl, HE⟩
          · have hsz := HSZ.out rfl
            go_wp2
            go_ret
            exact ⟨rfl, HE⟩
        ·
          have hc0 := HCV.out rfl
          have hc1 : decide ((0 : Int) < Hh) = false := decide_eq_false (by omega)
          have hc2 : ¬ (0 : Int) < Hh := by omega
          go_wp2_with fail
          refine (HBW.out _ HH).mono ?_
          rintro e w30 ⟨rfl, bb⟩
          have HE := HW1.out.trans ((HH.trans (bb.mono HH.size)).mono HW1.out.size)
          clear bb HH
          cases ok
          · go_wp2
            go_ret
            exact ⟨rfl, HE⟩
          · have hsz := HSZ.out rfl
            go_wp2
            go_ret
            exact ⟨rfl, HE⟩
      ·
        obtain rfl := HTR.out rfl
        go_wp2_with fail
        refine (HCI.out _ HH).mono ?_
        rintro e w29 ⟨rfl, bb⟩
        replace HH := HH.trans (bb.mono HH.size)
        clear bb
        cases cv
        ·
          go_wp2_with fail
          refine (HBW.out _ HH).mono ?_
          rintro e w30 ⟨rfl, bb⟩
          have HE := HW1.out.trans ((HH.trans (bb.mono HH.size)).mono HW1.out.size)
          clear bb HH
          cases ok
          · go_wp2
            go_ret
            exact ⟨rfl, HE⟩
          · have hsz := HSZ.out rfl
            go_wp2
            go_ret
            exact ⟨rfl, HE⟩
        ·
          have hc0 := HCV.out rfl
          have hc1 : decide ((0 : Int) < Hh) = false := decide_eq_false (by omega)
          have hc2 : ¬ (0 : Int) < Hh := by omega
          go_wp2_with fail
          refine (HBW.out _ HH).mono ?_
          rintro e w30 ⟨rfl, bb⟩
          have HE := HW1.out.trans ((HH.trans (bb.mono HH.size)).mono HW1.out.size)
          clear bb HH
          cases ok
          · go_wp2
            go_ret
            exact ⟨rfl, HE⟩
          · have hsz := HSZ.out rfl
            go_wp2
            go_ret
            exact ⟨rfl, HE⟩
  · go_enter Try.func3, Try.ntmps3
    go_wp2_with fail
    refine (big_yes w h (by omega)).mono ?_
    rintro e w' ⟨rfl, rfl⟩
    go_wp2
    go_ret
    exact ⟨rfl, Below.refl _ _⟩
end Go.Proofs.Ytghpkfihdcjlaaa
