
/-
  The walks over regions: is a place a cell, a cell removed.
-/
import Derived.Test.YtjmeplchabehfaaRegCopy
import Derived.Test.YtjmeplchabehfaaRegFlip
import Derived.IntWalk
namespace Go.Proofs.Ytjmeplchabehfaa
open Go.RowKit

def Reg.isIn (r : Reg) (x y : Int) : Bool := r.valid && r.has x y
def Reg.less (r : Reg) (x y : Int) : Reg := if r.isIn x y then r.flip x.toNat y.toNat else r
theorem Reg.less_len {r : Reg} {x y : Int} : (r.less x y).rows.length = r.rows.length := by
  unfold Reg.less
  split
  · exact Reg.flip_len
  · rfl
theorem andNot_small : ∀ m, m < 64 → ∀ x, x < 6 → m.testBit x = true → m &&& (18446744073709551616 - (2 ^ x + 1)) = m ^^^ 2 ^ x := by decide +kernel

set_option maxRecDepth 100000 in
set_option maxHeartbeats 800000 in
theorem impl_inRegion_c {v : Value} {r : Reg} (x y : Int) (w : World) (h : RegRd w 0 w.heap.size v r) :
    Calls Try.prog 37 #[v, .int .i64 x, .int .i64 y] w fun en w' => en = .returned (.bool (r.isIn x y)) ∧ Below w.heap.size w w' := by
  obtain ⟨s, rfl, hs⟩ := h
  have H := (Sep.start w).box 31 #[.int .i64 r.w, s]
  obtain ⟨q, hq⟩ : ∃ q, q = r.isIn x y := ⟨_, rfl⟩
  rw [← hq]
  have HQ := Lib.hid hq
  clear hq
  go_enter Try.func37, Try.ntmps37
  go_wp2_with fail
  generalize w.alloc (.cells #[.int .i64 r.w, s] 31) = W at *
  refine (impl_IsRegion_c (r := r) W ⟨s, rfl, (hs.keep (SameIn.of_below H.below (Nat.le_refl _))).more (Nat.le_refl _) H.size⟩).mono ?_
  rintro e w1 ⟨rfl, b1⟩
  have H1 := H.step b1
  clear b1 H
  cases hv : r.valid
  · have hq0 : q = false := by rw [HQ.out, Reg.isIn, hv]; rfl
    subst hq0
    clear hv
    have hB := H1.below
    go_wp2
    go_ret
    exact ⟨rfl, hB⟩
  · have hq0 : q = r.has x y := by rw [HQ.out, Reg.isIn, hv]; rfl
    have HQ2 := Lib.hid hq0
    have hV := Reg.valid_iff.1 hv
    have c0 := H1.h0.cell 0
    have c1 := H1.h0.cell 1
    simp at c0 c1
    clear hv hq0
    go_wp2_with fail
    clear c0 c1
    refine (impl_has_c (r := r) x y w1 ⟨s, rfl, (hs.keep (SameIn.of_below H1.below (Nat.le_refl _))).more (Nat.le_refl _) H1.size⟩ hV).mono ?_
    rintro e w2 ⟨rfl, b2⟩
    rw [← HQ2.out]
    have H2 := H1.step b2
    clear b2 H1
    have hB := H2.below
    go_wp2
    go_ret
    exact ⟨rfl, hB⟩
set_option maxRecDepth 100000 in
set_option maxHeartbeats 800000 in
theorem spec_inRegion_c {v : Value} {r : Reg} (x y : Int) (w : World) (h : RegRd w 0 w.heap.size v r) :
    Calls Try.prog 127 #[v, .int .i64 x, .int .i64 y] w fun en w' => en = .returned (.bool (r.isIn x y)) ∧ Below w.heap.size w w' := by
  obtain ⟨s, rfl, hs⟩ := h
  have H := (Sep.start w).box 31 #[.int .i64 r.w, s]
  obtain ⟨q, hq⟩ : ∃ q, q = r.isIn x y := ⟨_, rfl⟩
  rw [← hq]
  have HQ := Lib.hid hq
  clear hq
  go_enter Try.func127, Try.ntmps127
  go_wp2_with fail
  generalize w.alloc (.cells #[.int .i64 r.w, s] 31) = W at *
  refine (spec_IsRegion_c (r := r) W ⟨s, rfl, (hs.keep (SameIn.of_below H.below (Nat.le_refl _))).more (Nat.le_refl _) H.size⟩).mono ?_
  rintro e w1 ⟨rfl, b1⟩
  have H1 := H.step b1
  clear b1 H
  cases hv : r.valid
  · have hq0 : q = false := by rw [HQ.out, Reg.isIn, hv]; rfl
    subst hq0
    clear hv
    have hB := H1.below
    go_wp2
    go_ret
    exact ⟨rfl, hB⟩
  · have hq0 : q = r.has x y := by rw [HQ.out, Reg.isIn, hv]; rfl
    have HQ2 := Lib.hid hq0
    have hV := Reg.valid_iff.1 hv
    have c0 := H1.h0.cell 0
    have c1 := H1.h0.cell 1
    simp at c0 c1
    clear hv hq0
    go_wp2_with fail
    clear c0 c1
    refine (spec_has_c (r := r) x y w1 ⟨s, rfl, (hs.keep (SameIn.of_below H1.below (Nat.le_refl _))).more (Nat.le_refl _) H1.size⟩ hV).mono ?_
    rintro e w2 ⟨rfl, b2⟩
    rw [← HQ2.out]
    have H2 := H1.step b2
    clear b2 H1
    have hB := H2.below
    go_wp2
    go_ret
    exact ⟨rfl, hB⟩

theorem shl_one {x : Nat} (h : 2 ^ x ≤ 64) : wrap64 ((2 ^ x : Nat) : Int) = ((2 ^ x : Nat) : Int) := by
  generalize 2 ^ x = p at *
  exact IntWalk.wrap64_in _ ⟨by omega, by omega⟩
set_option maxRecDepth 100000 in
set_option maxHeartbeats 1600000 in
theorem impl_remove_c {v : Value} {r : Reg} (x y : Int) (w : World) (h : RegRd w 0 w.heap.size v r) (hn : r.rows.length ≤ 1048576) :
    Calls Try.prog 99 #[v, .int .i64 x, .int .i64 y] w fun en w' => ∃ v1, en = .returned (.tuple #[v1, .bool (r.isIn x y)]) ∧ RegIn w' w.heap.size w'.heap.size v1 (r.less x y) ∧ Below w.heap.size w w' := by
  obtain ⟨s, rfl, hs⟩ := h
  obtain ⟨A, c, rfl, hm, hr⟩ := id hs
  have H := ((Sep.start w).box 31 #[.int .i64 r.w, .slice A r.rows.length c]).box 31 #[.int .i64 0, .slice none 0 0]
  simp only [World.size_alloc] at H
  clear hr
  obtain ⟨q, hq⟩ : ∃ q, q = r.isIn x y := ⟨_, rfl⟩
  obtain ⟨R, hR⟩ : ∃ R, R = r.less x y := ⟨_, rfl⟩
  rw [← hq, ← hR]
  have HQ := Lib.hid hq
  have HR := Lib.hid hR
  clear hq hR
  go_enter Try.func99, Try.ntmps99
  go_wp2_with fail
  generalize (w.alloc (.cells #[.int .i64 r.w, .slice A r.rows.length c] 31)).alloc (.cells #[.int .i64 0, .slice none 0 0] 31) = W at *
  refine (impl_copyRegion_c (r := r) W ⟨_, rfl, (hs.keep (SameIn.of_below H.below (Nat.le_refl _))).more (Nat.le_refl _) H.size⟩ hn).mono ?_
  rintro e w2 ⟨v2, rfl, ⟨s2, rfl, o2⟩, b2⟩
  obtain ⟨A2, c2, rfl, _, _⟩ := o2.rd
  have H2 := (H.oiNew b2 o2).box 31 #[.int .i64 r.w, .slice A2 r.rows.length c2]
  have hx0 : (w2.alloc (.cells #[.int .i64 r.w, .slice A2 r.rows.length c2] 31)).cell? ⟨w.heap.size, 0, none⟩ = some (.int .i64 r.w) := H2.h3.cell 0
  have hx1 : (w2.alloc (.cells #[.int .i64 r.w, .slice A2 r.rows.length c2] 31)).cell? ⟨w.heap.size, 1, none⟩ = some (.slice A r.rows.length c) := H2.h3.cell 1
  clear b2 H o2
  go_wp2_with fail
  clear hx0 hx1
  generalize w2.alloc (.cells #[.int .i64 r.w, .slice A2 r.rows.length c2] 31) = wa at *
  refine (impl_inRegion_c (r := r) x y wa ⟨_, rfl, (hs.keep (SameIn.of_below H2.below (Nat.le_refl _))).more (Nat.le_refl _) H2.size⟩).mono ?_
  rintro e w4 ⟨rfl, b4⟩
  rw [← HQ.out]
  have H4 := H2.step b4
  clear b4 H2
  cases q
  · have hR : R = r := by rw [HR.out, Reg.less, ← HQ.out]; rfl
    have HR2 := Lib.hid hR
    have z0 := H4.h2.cell 0
    have z1 := H4.h2.cell 1
    have y0 := H4.h0.cell 0
    have y1 := H4.h0.cell 1
    have f0 := H4.h2.frozen 0
    have f1 := H4.h2.frozen 1
    simp at z0 z1 y0 y1
    have H6 := ((H4.g2.set_ 0 (.int .i64 r.w)).set_ 1 (.slice A2 r.rows.length c2))
    have u0 := H6.h0.cell 0
    have u1 := H6.h0.cell 1
    simp at u0 u1
    clear hR
    go_wp2
    refine bodyPost_ret (v := .tuple #[.agg #[.int .i64 r.w, .slice A2 r.rows.length c2], .bool false]) (by simp [results, Try.results99, go_sem, u0, u1]) rfl ⟨_, rfl, ?_, H6.below⟩
    rw [HR2.out]
    exact ⟨_, rfl, H6.g2.oi⟩
  · have hin := HQ.out.symm
    simp only [Reg.isIn, Bool.and_eq_true] at hin
    have hV := Reg.valid_iff.1 hin.1
    have hhas := hin.2
    have hbnd : 0 ≤ x ∧ x < r.w ∧ 0 ≤ y ∧ y < r.rows.length := by
      by_cases hc : 0 ≤ x ∧ x < r.w ∧ 0 ≤ y ∧ y < r.rows.length
      · exact hc
      · rw [Reg.has_out hc] at hhas; cases hhas
    obtain ⟨xn, rfl⟩ := Int.eq_ofNat_of_zero_le hbnd.1
    obtain ⟨yn, rfl⟩ := Int.eq_ofNat_of_zero_le hbnd.2.2.1
    have hR : R = r.flip xn yn := by rw [HR.out, Reg.less, ← HQ.out]; rfl
    have hxw : (xn : Int) < r.w := hbnd.2.1
    have hyn : yn < r.rows.length := by omega
    have hv2 := hV.2.1
    have hv3 := hV.2.2.1
    have hv4 := hV.2.2.2.1
    obtain ⟨bo, oo, co, he, _, _, hbo⟩ := own_shape H4.h1 (by omega)
    injection he with he1 _ he3
    subst he1 he3
    have hrow := List.getElem?_eq_getElem hyn
    obtain ⟨ea1, hlt1⟩ := Reg.row_of hV hrow
    rw [ea1] at hrow
    have hp64 := Reg.two_pow_le hV
    have HRW := Lib.hid hrow
    have hyi0 : (0 : Int) ≤ (yn : Int) := Int.natCast_nonneg _
    have hyi1 : (yn : Int) < (r.rows.length : Int) := by omega
    obtain ⟨hsub, hle⟩ := Reg.flip_sub hV hxw hyn hhas
    have hbit : (r.row yn).testBit xn = true := by rw [← Reg.has_eq hxw hyn]; exact hhas
    obtain ⟨m, hmm⟩ : ∃ m, m = r.row yn := ⟨_, rfl⟩
    rw [← hmm] at hlt1 hsub hle hbit
    have HM := Lib.hid hmm
    have hm64 : m < 64 := by omega
    have hx6 : xn < 6 := by omega
    have h64 : 2 ^ xn ≤ 64 := Nat.le_trans (Nat.pow_le_pow_right (by decide) (show xn ≤ 6 by omega)) (by decide)
    have hval : bits .andNot .i64 (m : Int) (wrap64 (2 ^ xn)) = ((m ^^^ 2 ^ xn : Nat) : Int) := by
      have h1 : (2 : Int) ^ xn = ((2 ^ xn : Nat) : Int) := by simp
      rw [h1, shl_one h64, i64_andNot_nat m _ (by omega) (by omega), andNot_small m hm64 xn hx6 hbit]
    have HVAL := Lib.hid hval
    have HR2 := Lib.hid hR
    clear hval hR hrow ea1 hsub hbit hmm hin hhas hbnd hV HR
    have y0 := H4.h0.cell 0
    have y1 := H4.h0.cell 1
    have r0 := own_cell1 H4.h1 HRW.out
    rw [← HM.out] at r0
    simp at y0 y1
    go_wp2_with fail
    go_still_tail 9, (by kernel_rfl)
    change wpList _ _ _ _ _ w4.drew
    have H6 := H4.drew
    clear y0 y1 r0 H4
    generalize w4.drew = w5 at *
    have r0 := own_cell1 H6.h1 HRW.out
    have fr := own_free H6.h1 yn
    have H7 := (H6.g1.setRow (j := yn) (by rw [ic_length]; omega) (.int .i64 (bits .andNot .i64 (m : Int) (wrap64 (2 ^ xn))))).p1
    have y0 : (w5.setCell ⟨bo, oo + yn, none⟩ (.int .i64 (bits .andNot .i64 (m : Int) (wrap64 (2 ^ xn))))).cell? ⟨w2.heap.size, 0, none⟩ = some (.int .i64 r.w) := H7.h0.cell 0
    have y1 : (w5.setCell ⟨bo, oo + yn, none⟩ (.int .i64 (bits .andNot .i64 (m : Int) (wrap64 (2 ^ xn))))).cell? ⟨w2.heap.size, 1, none⟩ = some (.slice (some ⟨bo, oo, none⟩) r.rows.length c2) := H7.h0.cell 1
    have z0 : (w5.setCell ⟨bo, oo + yn, none⟩ (.int .i64 (bits .andNot .i64 (m : Int) (wrap64 (2 ^ xn))))).cell? ⟨w.heap.size + 1, 0, none⟩ = some (.int .i64 0) := H7.h2.cell 0
    have z1 : (w5.setCell ⟨bo, oo + yn, none⟩ (.int .i64 (bits .andNot .i64 (m : Int) (wrap64 (2 ^ xn))))).cell? ⟨w.heap.size + 1, 1, none⟩ = some (.slice none 0 0) := H7.h2.cell 1
    have f0 := H7.h2.frozen 0
    have f1 := H7.h2.frozen 1
    have H8 := (H7.g2.set_ 0 (.int .i64 r.w)).set_ 1 (.slice (some ⟨bo, oo, none⟩) r.rows.length c2)
    have u0 := H8.h0.cell 0
    have u1 := H8.h0.cell 1
    simp at u0 u1
    go_wp2
    refine bodyPost_ret (v := .tuple #[.agg #[.int .i64 r.w, .slice (some ⟨bo, oo, none⟩) r.rows.length c2], .bool true]) (by simp [results, Try.results99, go_sem, u0, u1]) rfl ⟨_, rfl, ?_, H8.below⟩
    have hoi := H8.g2.oi
    have hfl : (r.flip xn yn).rows = r.rows.set yn ((m ^^^ 2 ^ xn : Nat) : Int) := by rw [HM.out]; rfl
    rw [HR2.out]
    refine ⟨_, rfl, ?_⟩
    unfold IntsIn
    rw [Reg.flip_len, hfl, ← HVAL.out, ← ic_set]
    exact hoi
set_option maxRecDepth 100000 in
set_option maxHeartbeats 1600000 in
theorem spec_remove_c {v : Value} {r : Reg} (x y : Int) (w : World) (h : RegRd w 0 w.heap.size v r) (hn : r.rows.length ≤ 1048576) :
    Calls Try.prog 101 #[v, .int .i64 x, .int .i64 y] w fun en w' => ∃ v1, en = .returned (.tuple #[v1, .bool (r.isIn x y)]) ∧ RegIn w' w.heap.size w'.heap.size v1 (r.less x y) ∧ Below w.heap.size w w' := by
  obtain ⟨s, rfl, hs⟩ := h
  obtain ⟨A, c, rfl, hm, hr⟩ := id hs
  have H := ((Sep.start w).box 31 #[.int .i64 r.w, .slice A r.rows.length c]).box 31 #[.int .i64 0, .slice none 0 0]
  simp only [World.size_alloc] at H
  clear hr
  obtain ⟨q, hq⟩ : ∃ q, q = r.isIn x y := ⟨_, rfl⟩
  obtain ⟨R, hR⟩ : ∃ R, R = r.less x y := ⟨_, rfl⟩
  rw [← hq, ← hR]
  have HQ := Lib.hid hq
  have HR := Lib.hid hR
  clear hq hR
  go_enter Try.func101, Try.ntmps101
  go_wp2_with fail
  generalize (w.alloc (.cells #[.int .i64 r.w, .slice A r.rows.length c] 31)).alloc (.cells #[.int .i64 0, .slice none 0 0] 31) = W at *
  refine (spec_copy_c (r := r) W ⟨_, rfl, (hs.keep (SameIn.of_below H.below (Nat.le_refl _))).more (Nat.le_refl _) H.size⟩ hn).mono ?_
  rintro e w2 ⟨v2, rfl, ⟨s2, rfl, o2⟩, b2⟩
  obtain ⟨A2, c2, rfl, _, _⟩ := o2.rd
  have H2 := (H.oiNew b2 o2).box 31 #[.int .i64 r.w, .slice A2 r.rows.length c2]
  have hx0 : (w2.alloc (.cells #[.int .i64 r.w, .slice A2 r.rows.length c2] 31)).cell? ⟨w.heap.size, 0, none⟩ = some (.int .i64 r.w) := H2.h3.cell 0
  have hx1 : (w2.alloc (.cells #[.int .i64 r.w, .slice A2 r.rows.length c2] 31)).cell? ⟨w.heap.size, 1, none⟩ = some (.slice A r.rows.length c) := H2.h3.cell 1
  clear b2 H o2
  go_wp2_with fail
  clear hx0 hx1
  generalize w2.alloc (.cells #[.int .i64 r.w, .slice A2 r.rows.length c2] 31) = wa at *
  refine (spec_inRegion_c (r := r) x y wa ⟨_, rfl, (hs.keep (SameIn.of_below H2.below (Nat.le_refl _))).more (Nat.le_refl _) H2.size⟩).mono ?_
  rintro e w4 ⟨rfl, b4⟩
  rw [← HQ.out]
  have H4 := H2.step b4
  clear b4 H2
  cases q
  · have hR : R = r := by rw [HR.out, Reg.less, ← HQ.out]; rfl
    have HR2 := Lib.hid hR
    have z0 := H4.h2.cell 0
    have z1 := H4.h2.cell 1
    have y0 := H4.h0.cell 0
    have y1 := H4.h0.cell 1
    have f0 := H4.h2.frozen 0
    have f1 := H4.h2.frozen 1
    simp at z0 z1 y0 y1
    have H6 := ((H4.g2.set_ 0 (.int .i64 r.w)).set_ 1 (.slice A2 r.rows.length c2))
    have u0 := H6.h0.cell 0
    have u1 := H6.h0.cell 1
    simp at u0 u1
    clear hR
    go_wp2
    refine bodyPost_ret (v := .tuple #[.agg #[.int .i64 r.w, .slice A2 r.rows.length c2], .bool false]) (by simp [results, Try.results101, go_sem, u0, u1]) rfl ⟨_, rfl, ?_, H6.below⟩
    rw [HR2.out]
    exact ⟨_, rfl, H6.g2.oi⟩
  · have hin := HQ.out.symm
    simp only [Reg.isIn, Bool.and_eq_true] at hin
    have hV := Reg.valid_iff.1 hin.1
    have hhas := hin.2
    have hbnd : 0 ≤ x ∧ x < r.w ∧ 0 ≤ y ∧ y < r.rows.length := by
      by_cases hc : 0 ≤ x ∧ x < r.w ∧ 0 ≤ y ∧ y < r.rows.length
      · exact hc
      · rw [Reg.has_out hc] at hhas; cases hhas
    obtain ⟨xn, rfl⟩ := Int.eq_ofNat_of_zero_le hbnd.1
    obtain ⟨yn, rfl⟩ := Int.eq_ofNat_of_zero_le hbnd.2.2.1
    have hR : R = r.flip xn yn := by rw [HR.out, Reg.less, ← HQ.out]; rfl
    have hxw : (xn : Int) < r.w := hbnd.2.1
    have hyn : yn < r.rows.length := by omega
    have hv2 := hV.2.1
    have hv3 := hV.2.2.1
    have hv4 := hV.2.2.2.1
    obtain ⟨bo, oo, co, he, _, _, hbo⟩ := own_shape H4.h1 (by omega)
    injection he with he1 _ he3
    subst he1 he3
    have hrow := List.getElem?_eq_getElem hyn
    obtain ⟨ea1, hlt1⟩ := Reg.row_of hV hrow
    rw [ea1] at hrow
    have hp64 := Reg.two_pow_le hV
    have HRW := Lib.hid hrow
    have hyi0 : (0 : Int) ≤ (yn : Int) := Int.natCast_nonneg _
    have hyi1 : (yn : Int) < (r.rows.length : Int) := by omega
    obtain ⟨hsub, hle⟩ := Reg.flip_sub hV hxw hyn hhas
    have hbit : (r.row yn).testBit xn = true := by rw [← Reg.has_eq hxw hyn]; exact hhas
    obtain ⟨m, hmm⟩ : ∃ m, m = r.row yn := ⟨_, rfl⟩
    rw [← hmm] at hlt1 hsub hle hbit
    have HM := Lib.hid hmm
    have hm64 : m < 64 := by omega
    have hx6 : xn < 6 := by omega
    have h64 : 2 ^ xn ≤ 64 := Nat.le_trans (Nat.pow_le_pow_right (by decide) (show xn ≤ 6 by omega)) (by decide)
    have hval : wrap64 ((m : Int) - wrap64 (2 ^ xn)) = ((m ^^^ 2 ^ xn : Nat) : Int) := by
      have h1 : (2 : Int) ^ xn = ((2 ^ xn : Nat) : Int) := by simp
      rw [hsub, h1, shl_one h64]
      generalize 2 ^ xn = p2 at *
      rw [IntWalk.wrap64_in _ ⟨by omega, by omega⟩]
      omega
    have HVAL := Lib.hid hval
    have HR2 := Lib.hid hR
    clear hval hR hrow ea1 hsub hbit hmm hin hhas hbnd hV HR
    have y0 := H4.h0.cell 0
    have y1 := H4.h0.cell 1
    have r0 := own_cell1 H4.h1 HRW.out
    rw [← HM.out] at r0
    simp at y0 y1
    go_wp2_with fail
    go_still_tail 12, (by kernel_rfl)
    change wpList _ _ _ _ _ w4.drew
    have H6 := H4.drew
    clear y0 y1 r0 H4
    generalize w4.drew = w5 at *
    have r0 := own_cell1 H6.h1 HRW.out
    have fr := own_free H6.h1 yn
    have H7 := (H6.g1.setRow (j := yn) (by rw [ic_length]; omega) (.int .i64 (wrap64 ((m : Int) - wrap64 (2 ^ xn))))).p1
    have y0 : (w5.setCell ⟨bo, oo + yn, none⟩ (.int .i64 (wrap64 ((m : Int) - wrap64 (2 ^ xn))))).cell? ⟨w2.heap.size, 0, none⟩ = some (.int .i64 r.w) := H7.h0.cell 0
    have y1 : (w5.setCell ⟨bo, oo + yn, none⟩ (.int .i64 (wrap64 ((m : Int) - wrap64 (2 ^ xn))))).cell? ⟨w2.heap.size, 1, none⟩ = some (.slice (some ⟨bo, oo, none⟩) r.rows.length c2) := H7.h0.cell 1
    have z0 : (w5.setCell ⟨bo, oo + yn, none⟩ (.int .i64 (wrap64 ((m : Int) - wrap64 (2 ^ xn))))).cell? ⟨w.heap.size + 1, 0, none⟩ = some (.int .i64 0) := H7.h2.cell 0
    have z1 : (w5.setCell ⟨bo, oo + yn, none⟩ (.int .i64 (wrap64 ((m : Int) - wrap64 (2 ^ xn))))).cell? ⟨w.heap.size + 1, 1, none⟩ = some (.slice none 0 0) := H7.h2.cell 1
    have f0 := H7.h2.frozen 0
    have f1 := H7.h2.frozen 1
    have H8 := (H7.g2.set_ 0 (.int .i64 r.w)).set_ 1 (.slice (some ⟨bo, oo, none⟩) r.rows.length c2)
    have u0 := H8.h0.cell 0
    have u1 := H8.h0.cell 1
    simp at u0 u1
    go_wp2
    refine bodyPost_ret (v := .tuple #[.agg #[.int .i64 r.w, .slice (some ⟨bo, oo, none⟩) r.rows.length c2], .bool true]) (by simp [results, Try.results101, go_sem, u0, u1]) rfl ⟨_, rfl, ?_, H8.below⟩
    have hoi := H8.g2.oi
    have hfl : (r.flip xn yn).rows = r.rows.set yn ((m ^^^ 2 ^ xn : Nat) : Int) := by rw [HM.out]; rfl
    rw [HR2.out]
    refine ⟨_, rfl, ?_⟩
    unfold IntsIn
    rw [Reg.flip_len, hfl, ← HVAL.out, ← ic_set]
    exact hoi
end Go.Proofs.Ytjmeplchabehfaa
