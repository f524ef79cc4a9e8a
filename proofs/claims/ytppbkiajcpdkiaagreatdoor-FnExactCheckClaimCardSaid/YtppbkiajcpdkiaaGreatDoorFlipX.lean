
/-
  The walks over regions: copies. Regions in plain Lean: a place is turned; edits one by one. No program in sight. The walks over regions: is a place a cell, a cell removed.
-/
import Derived.Test.YtppbkiajcpdkiaaGreatDoorSepX
import Derived.Test.YtppbkiajcpdkiaaGreatDoorRegX
import Derived.Test.YtppbkiajcpdkiaaGreatDoorCwWalks
import Derived.Test.YtppbkiajcpdkiaaGreatDoorShpX
import Derived.IntWalk
namespace Go.Proofs.YtppbkiajcpdkiaaGreatDoor
open Go.RowKit

set_option maxRecDepth 100000 in
theorem infoIntC : (Tryz.prog.info? 3).map (fun i => (i.zero, i.size, i.bytes)) = some (some (.int .i64 0), 1, 8) := by kernel_rfl

set_option maxRecDepth 100000 in
set_option maxHeartbeats 400000 in
theorem impl_copyInts_c {v : Value} {l : List Int} (w : World) (h : IntsRd w 0 w.heap.size v l) (hn : l.length ≤ 1048576) :
    Calls Tryz.prog 164 #[v] w fun e w' => ∃ v', e = .returned v' ∧ IntsIn w' w.heap.size w'.heap.size v' l ∧ Below w.heap.size w w' := by
  obtain ⟨A, c, rfl, hm, hr⟩ := h
  obtain ⟨j0, hj, y0, y1, y2⟩ := info_parts infoIntC
  have H := (Sep.start w).nil 3 1
  go_enter Tryz.func164, Tryz.ntmps164
  go_wp2_with (at_builtin; refine wpList_app rfl _ _ 27 rfl 3 j0 _ 1 8 Tryz.underlying27 hj y0 y1 y2 rfl (by decide) _ _ _ rfl H A _ c (ic l) rfl hr ic_one (by unfold maxLen; omega) (by omega) ?_; intro v' w' H1)
  go_ret
  exact ⟨v', rfl, IntsIn.mk H1.oi.1 (by simp) (by simp), H1.below⟩

set_option maxRecDepth 100000 in
set_option maxHeartbeats 800000 in
theorem spec_copy_c {v : Value} {r : Reg} (w : World) (h : RegRd w 0 w.heap.size v r) (hn : r.rows.length ≤ 1048576) :
    Calls Tryz.prog 167 #[v] w fun e w' => ∃ v', e = .returned v' ∧ RegIn w' w.heap.size w'.heap.size v' r ∧ Below w.heap.size w w' := by
  obtain ⟨s, rfl, hs⟩ := h
  obtain ⟨A, c, rfl, hm, hr⟩ := id hs
  obtain ⟨j0, hj, y0, y1, y2⟩ := info_parts infoIntC
  have H := ((Sep.start w).box 29 #[.int .i64 r.w, .slice A r.rows.length c]).box 29 #[.int .i64 0, .slice none 0 0]
  simp only [World.size_alloc] at H
  go_enter Tryz.func167, Tryz.ntmps167
  go_wp2_with fail
  generalize (w.alloc (.cells #[.int .i64 r.w, .slice A r.rows.length c] 29)).alloc (.cells #[.int .i64 0, .slice none 0 0] 29) = W at *
  have x0 := H.h1.cell 0
  have x1 := H.h1.cell 1
  simp at x0 x1
  have hrw := hr.keep (SameIn.of_below H.below (Nat.le_refl _))
  have hrl : Rd (W.alloc (.cells #[] 3)).drew 0 w.heap.size 1 A r.rows.length (ic r.rows) := hrw.keep (SameIn.alloc H.size _)
  go_region_held3 (fun w' => w'.cell? ⟨w.heap.size, 0, none⟩ = some (.int .i64 r.w) ∧ w'.cell? ⟨w.heap.size, 1, none⟩ = some (.slice A r.rows.length c))
    (first | ((try dsimp only); refine ⟨?_, ?_⟩ <;> assumption) | go_keep)
    ((refine step_app rfl _ _ 27 (by rfl) 3 j0 _ 1 8 Tryz.underlying27 hj y0 y1 y2 rfl (by decide) _ _ _ (by rfl) ((H.rowBox 3 #[] 1 0 rfl (by decide)).drew) A _ c (ic r.rows) (by rfl) hrl ic_one (by unfold maxLen; omega) (by omega) ?_; intro v1 w1 H1; simp only [Nat.zero_add] at H1; obtain ⟨A1, c1, rfl, _, _, _⟩ := Res.row_at H1.h0; have z0 := H1.h2.cell 0; have z1 := H1.h2.cell 1; have t0 := H1.h1.cell 0; have t1 := H1.h1.cell 1; have f0 := H1.h1.frozen 0; have f1 := H1.h1.frozen 1; simp at z0 z1 t0 t1))
  have H2 := ((H1.g1.set_ 0 (.int .i64 r.w)).set_ 1 (.slice A1 r.rows.length c1)).p1
  have u0 := H2.h1.cell 0
  have u1 := H2.h1.cell 1
  simp at u0 u1
  go_wp2
  exact bodyPost_ret (v := .agg #[.int .i64 r.w, .slice A1 r.rows.length c1]) (by simp [results, Tryz.results167, go_sem, u0, u1]) rfl ⟨_, rfl, ⟨_, rfl, H2.oi⟩, H2.below⟩
end Go.Proofs.YtppbkiajcpdkiaaGreatDoor

namespace Go.Proofs.YtppbkiajcpdkiaaGreatDoor
open Go.RowKit

def Reg.flip (r : Reg) (x y : Nat) : Reg := ⟨r.w, r.rows.set y (((r.row y) ^^^ 2 ^ x : Nat) : Int)⟩
theorem Reg.flip_len {r : Reg} {x y : Nat} : (r.flip x y).rows.length = r.rows.length := by simp [Reg.flip]
theorem Reg.flip_valid {r : Reg} (hv : r.Valid) {x y : Nat} (hx : (x : Int) < r.w) : (r.flip x y).Valid := by
  obtain ⟨h1, h2, h3, h4, h5⟩ := id hv
  refine ⟨h1, h2, by rw [Reg.flip_len]; exact h3, by rw [Reg.flip_len]; exact h4, fun a ha => ?_⟩
  rcases List.mem_or_eq_of_mem_set ha with h | rfl
  · exact h5 a h
  · have hlt : r.row y ^^^ 2 ^ x < 2 ^ r.w.toNat := Nat.xor_lt_two_pow (Reg.row_lt hv y) (Nat.pow_lt_pow_right (by decide) (by omega))
    refine ⟨Int.natCast_nonneg _, ?_⟩
    have : ((r.row y ^^^ 2 ^ x : Nat) : Int) < ((2 ^ r.w.toNat : Nat) : Int) := by exact_mod_cast hlt
    simpa [Reg.flip] using this
theorem xor_small : ∀ m, m < 64 → ∀ x, x < 6 → (m.testBit x = false → m ^^^ 2 ^ x = m + 2 ^ x) ∧ (m.testBit x = true → m ^^^ 2 ^ x = m - 2 ^ x ∧ 2 ^ x ≤ m) := by decide +kernel
theorem Reg.flip_add {r : Reg} (hv : r.Valid) {x y : Nat} (hx : (x : Int) < r.w) (hy : y < r.rows.length) (h : r.has x y = false) : r.row y ^^^ 2 ^ x = r.row y + 2 ^ x := by
  have h1 := Nat.lt_of_lt_of_le (Reg.row_lt hv y) (Reg.two_pow_le hv)
  have h2 := hv.2.1
  rw [Reg.has_eq hx hy] at h
  exact (xor_small _ h1 x (by omega)).1 h
theorem Reg.flip_sub {r : Reg} (hv : r.Valid) {x y : Nat} (hx : (x : Int) < r.w) (hy : y < r.rows.length) (h : r.has x y = true) : r.row y ^^^ 2 ^ x = r.row y - 2 ^ x ∧ 2 ^ x ≤ r.row y := by
  have h1 := Nat.lt_of_lt_of_le (Reg.row_lt hv y) (Reg.two_pow_le hv)
  have h2 := hv.2.1
  rw [Reg.has_eq hx hy] at h
  exact (xor_small _ h1 x (by omega)).2 h
def Reg.inn (r : Reg) (x y : Int) : Bool := decide (0 ≤ x ∧ x < r.w ∧ 0 ≤ y ∧ y < r.rows.length)
def Reg.apply1 (r : Reg) (e : Ed) : Option Reg := if r.inn e.x e.y && (r.has e.x e.y != e.add) then some (r.flip e.x.toNat e.y.toNat) else none
def Reg.applyTo (r : Reg) (l : List Ed) : Option Reg := l.foldlM Reg.apply1 r
def Reg.applyEds (r : Reg) (l : List Ed) : Option Reg := if r.valid && decide (l.length ≤ 40) then r.applyTo l else none
theorem Reg.apply1_valid {r r' : Reg} (hv : r.Valid) {e : Ed} (h : r.apply1 e = some r') : r'.Valid ∧ r'.w = r.w ∧ r'.rows.length = r.rows.length := by
  unfold Reg.apply1 at h
  split at h
  · rename_i hc
    injection h with h
    subst h
    simp [Reg.inn] at hc
    exact ⟨Reg.flip_valid hv (by omega), rfl, Reg.flip_len⟩
  · cases h
theorem Reg.applyTo_nil {r : Reg} : r.applyTo [] = some r := rfl
theorem Reg.applyTo_succ {r out : Reg} {l : List Ed} {k : Nat} {e : Ed} (h : r.applyTo (l.take k) = some out) (he : l[k]? = some e) : r.applyTo (l.take (k + 1)) = out.apply1 e := by
  have hk := (List.getElem?_eq_some_iff.1 he).1
  have e' := (List.getElem?_eq_some_iff.1 he).2
  unfold Reg.applyTo at h ⊢
  rw [List.take_succ_eq_append_getElem hk, List.foldlM_append, h, e']
  simp
theorem Reg.applyTo_stop {r out : Reg} {l : List Ed} {k : Nat} {e : Ed} (h : r.applyTo (l.take k) = some out) (he : l[k]? = some e) (hn : out.apply1 e = none) : r.applyTo l = none := by
  have hk := (List.getElem?_eq_some_iff.1 he).1
  have e' := (List.getElem?_eq_some_iff.1 he).2
  have hs := Reg.applyTo_succ h he
  have : r.applyTo (l.take (k + 1) ++ l.drop (k + 1)) = none := by
    unfold Reg.applyTo at hs ⊢
    rw [List.foldlM_append, hs, hn]
    rfl
  rwa [List.take_append_drop] at this
end Go.Proofs.YtppbkiajcpdkiaaGreatDoor

namespace Go.Proofs.YtppbkiajcpdkiaaGreatDoor
open Go.RowKit

def Reg.isIn (r : Reg) (x y : Int) : Bool := r.valid && r.has x y
def Reg.less (r : Reg) (x y : Int) : Reg := if r.isIn x y then r.flip x.toNat y.toNat else r
theorem Reg.less_len {r : Reg} {x y : Int} : (r.less x y).rows.length = r.rows.length := by
  unfold Reg.less
  split
  · exact Reg.flip_len
  · rfl
theorem andNot_small : ∀ m, m < 64 → ∀ x, x < 6 → m.testBit x = true → m &&& (18446744073709551616 - (2 ^ x + 1)) = m ^^^ 2 ^ x := by decide +kernel

set_option maxRecDepth 100000 in
set_option maxHeartbeats 800000 in
theorem spec_inRegion_c {v : Value} {r : Reg} (x y : Int) (w : World) (h : RegRd w 0 w.heap.size v r) :
    Calls Tryz.prog 126 #[v, .int .i64 x, .int .i64 y] w fun en w' => en = .returned (.bool (r.isIn x y)) ∧ Below w.heap.size w w' := by
  obtain ⟨s, rfl, hs⟩ := h
  have H := (Sep.start w).box 29 #[.int .i64 r.w, s]
  obtain ⟨q, hq⟩ : ∃ q, q = r.isIn x y := ⟨_, rfl⟩
  rw [← hq]
  have HQ := Lib.hid hq
  clear hq
  go_enter Tryz.func126, Tryz.ntmps126
  go_wp2_with fail
  generalize w.alloc (.cells #[.int .i64 r.w, s] 29) = W at *
  refine (spec_IsRegion_c (r := r) W ⟨s, rfl, (hs.keep (SameIn.of_below H.below (Nat.le_refl _))).more (Nat.le_refl _) H.size⟩).mono ?_
  rintro e w1 ⟨rfl, b1⟩
  have H1 := H.step b1
  clear b1 H
  cases hv : r.valid
  · have hq0 : q = false := by rw [HQ.out, Reg.isIn, hv]; rfl
    subst hq0
    clear hv
    have hB := H1.below
    go_wp2
    go_ret
    exact ⟨rfl, hB⟩
  · have hq0 : q = r.has x y := by rw [HQ.out, Reg.isIn, hv]; rfl
    have HQ2 := Lib.hid hq0
    have hV := Reg.valid_iff.1 hv
    have c0 := H1.h0.cell 0
    have c1 := H1.h0.cell 1
    simp at c0 c1
    clear hv hq0
    go_wp2_with fail
    clear c0 c1
    refine (spec_has_c (r := r) x y w1 ⟨s, rfl, (hs.keep (SameIn.of_below H1.below (Nat.le_refl _))).more (Nat.le_refl _) H1.size⟩ hV).mono ?_
    rintro e w2 ⟨rfl, b2⟩
    rw [← HQ2.out]
    have H2 := H1.step b2
    clear b2 H1
    have hB := H2.below
    go_wp2
    go_ret
    exact ⟨rfl, hB⟩

theorem shl_one {x : Nat} (h : 2 ^ x ≤ 64) : wrap64 ((2 ^ x : Nat) : Int) = ((2 ^ x : Nat) : Int) := by
  generalize 2 ^ x = p at *
  exact IntWalk.wrap64_in _ ⟨by omega, by omega⟩
set_option maxRecDepth 100000 in
set_option maxHeartbeats 1600000 in
theorem spec_remove_c {v : Value} {r : Reg} (x y : Int) (w : World) (h : RegRd w 0 w.heap.size v r) (hn : r.rows.length ≤ 1048576) :
    Calls Tryz.prog 117 #[v, .int .i64 x, .int .i64 y] w fun en w' => ∃ v1, en = .returned (.tuple #[v1, .bool (r.isIn x y)]) ∧ RegIn w' w.heap.size w'.heap.size v1 (r.less x y) ∧ Below w.heap.size w w' := by
  obtain ⟨s, rfl, hs⟩ := h
  obtain ⟨A, c, rfl, hm, hr⟩ := id hs
  have H := ((Sep.start w).box 29 #[.int .i64 r.w, .slice A r.rows.length c]).box 29 #[.int .i64 0, .slice none 0 0]
  simp only [World.size_alloc] at H
  clear hr
  obtain ⟨q, hq⟩ : ∃ q, q = r.isIn x y := ⟨_, rfl⟩
  obtain ⟨R, hR⟩ : ∃ R, R = r.less x y := ⟨_, rfl⟩
  rw [← hq, ← hR]
  have HQ := Lib.hid hq
  have HR := Lib.hid hR
  clear hq hR
  go_enter Tryz.func117, Tryz.ntmps117
  go_wp2_with fail
  generalize (w.alloc (.cells #[.int .i64 r.w, .slice A r.rows.length c] 29)).alloc (.cells #[.int .i64 0, .slice none 0 0] 29) = W at *
  refine (spec_copy_c (r := r) W ⟨_, rfl, (hs.keep (SameIn.of_below H.below (Nat.le_refl _))).more (Nat.le_refl _) H.size⟩ hn).mono ?_
  rintro e w2 ⟨v2, rfl, ⟨s2, rfl, o2⟩, b2⟩
  obtain ⟨A2, c2, rfl, _, _⟩ := o2.rd
  have H2 := (H.oiNew b2 o2).box 29 #[.int .i64 r.w, .slice A2 r.rows.length c2]
  have hx0 : (w2.alloc (.cells #[.int .i64 r.w, .slice A2 r.rows.length c2] 29)).cell? ⟨w.heap.size, 0, none⟩ = some (.int .i64 r.w) := H2.h3.cell 0
  have hx1 : (w2.alloc (.cells #[.int .i64 r.w, .slice A2 r.rows.length c2] 29)).cell? ⟨w.heap.size, 1, none⟩ = some (.slice A r.rows.length c) := H2.h3.cell 1
  clear b2 H o2
  go_wp2_with fail
  clear hx0 hx1
  generalize w2.alloc (.cells #[.int .i64 r.w, .slice A2 r.rows.length c2] 29) = wa at *
  refine (spec_inRegion_c (r := r) x y wa ⟨_, rfl, (hs.keep (SameIn.of_below H2.below (Nat.le_refl _))).more (Nat.le_refl _) H2.size⟩).mono ?_
  rintro e w4 ⟨rfl, b4⟩
  rw [← HQ.out]
  have H4 := H2.step b4
  clear b4 H2
  cases q
  · have hR : R = r := by rw [HR.out, Reg.less, ← HQ.out]; rfl
    have HR2 := Lib.hid hR
    have z0 := H4.h2.cell 0
    have z1 := H4.h2.cell 1
    have y0 := H4.h0.cell 0
    have y1 := H4.h0.cell 1
    have f0 := H4.h2.frozen 0
    have f1 := H4.h2.frozen 1
    simp at z0 z1 y0 y1
    have H6 := ((H4.g2.set_ 0 (.int .i64 r.w)).set_ 1 (.slice A2 r.rows.length c2))
    have u0 := H6.h0.cell 0
    have u1 := H6.h0.cell 1
    simp at u0 u1
    clear hR
    go_wp2
    refine bodyPost_ret (v := .tuple #[.agg #[.int .i64 r.w, .slice A2 r.rows.length c2], .bool false]) (by simp [results, Tryz.results117, go_sem, u0, u1]) rfl ⟨_, rfl, ?_, H6.below⟩
    rw [HR2.out]
    exact ⟨_, rfl, H6.g2.oi⟩
  · have hin := HQ.out.symm
    simp only [Reg.isIn, Bool.and_eq_true] at hin
    have hV := Reg.valid_iff.1 hin.1
    have hhas := hin.2
    have hbnd : 0 ≤ x ∧ x < r.w ∧ 0 ≤ y ∧ y < r.rows.length := by
      by_cases hc : 0 ≤ x ∧ x < r.w ∧ 0 ≤ y ∧ y < r.rows.length
      · exact hc
      · rw [Reg.has_out hc] at hhas; cases hhas
    obtain ⟨xn, rfl⟩ := Int.eq_ofNat_of_zero_le hbnd.1
    obtain ⟨yn, rfl⟩ := Int.eq_ofNat_of_zero_le hbnd.2.2.1
    have hR : R = r.flip xn yn := by rw [HR.out, Reg.less, ← HQ.out]; rfl
    have hxw : (xn : Int) < r.w := hbnd.2.1
    have hyn : yn < r.rows.length := by omega
    have hv2 := hV.2.1
    have hv3 := hV.2.2.1
    have hv4 := hV.2.2.2.1
    obtain ⟨bo, oo, co, he, _, _, hbo⟩ := own_shape H4.h1 (by omega)
    injection he with he1 _ he3
    subst he1 he3
    have hrow := List.getElem?_eq_getElem hyn
    obtain ⟨ea1, hlt1⟩ := Reg.row_of hV hrow
    rw [ea1] at hrow
    have hp64 := Reg.two_pow_le hV
    have HRW := Lib.hid hrow
    have hyi0 : (0 : Int) ≤ (yn : Int) := Int.natCast_nonneg _
    have hyi1 : (yn : Int) < (r.rows.length : Int) := by omega
    obtain ⟨hsub, hle⟩ := Reg.flip_sub hV hxw hyn hhas
    have hbit : (r.row yn).testBit xn = true := by rw [← Reg.has_eq hxw hyn]; exact hhas
    obtain ⟨m, hmm⟩ : ∃ m, m = r.row yn := ⟨_, rfl⟩
    rw [← hmm] at hlt1 hsub hle hbit
    have HM := Lib.hid hmm
    have hm64 : m < 64 := by omega
    have hx6 : xn < 6 := by omega
    have h64 : 2 ^ xn ≤ 64 := Nat.le_trans (Nat.pow_le_pow_right (by decide) (show xn ≤ 6 by omega)) (by decide)
    have hval : wrap64 ((m : Int) - wrap64 (2 ^ xn)) = ((m ^^^ 2 ^ xn : Nat) : Int) := by
      have h1 : (2 : Int) ^ xn = ((2 ^ xn : Nat) : Int) := by simp
      rw [hsub, h1, shl_one h64]
      generalize 2 ^ xn = p2 at *
      rw [IntWalk.wrap64_in _ ⟨by omega, by omega⟩]
      omega
    have HVAL := Lib.hid hval
    have HR2 := Lib.hid hR
    clear hval hR hrow ea1 hsub hbit hmm hin hhas hbnd hV HR
    have y0 := H4.h0.cell 0
    have y1 := H4.h0.cell 1
    have r0 := own_cell1 H4.h1 HRW.out
    rw [← HM.out] at r0
    simp at y0 y1
    go_wp2_with fail
    go_still_tail 12, (by kernel_rfl)
    change wpList _ _ _ _ _ w4.drew
    have H6 := H4.drew
    clear y0 y1 r0 H4
    generalize w4.drew = w5 at *
    have r0 := own_cell1 H6.h1 HRW.out
    have fr := own_free H6.h1 yn
    have H7 := (H6.g1.setRow (j := yn) (by rw [ic_length]; omega) (.int .i64 (wrap64 ((m : Int) - wrap64 (2 ^ xn))))).p1
    have y0 : (w5.setCell ⟨bo, oo + yn, none⟩ (.int .i64 (wrap64 ((m : Int) - wrap64 (2 ^ xn))))).cell? ⟨w2.heap.size, 0, none⟩ = some (.int .i64 r.w) := H7.h0.cell 0
    have y1 : (w5.setCell ⟨bo, oo + yn, none⟩ (.int .i64 (wrap64 ((m : Int) - wrap64 (2 ^ xn))))).cell? ⟨w2.heap.size, 1, none⟩ = some (.slice (some ⟨bo, oo, none⟩) r.rows.length c2) := H7.h0.cell 1
    have z0 : (w5.setCell ⟨bo, oo + yn, none⟩ (.int .i64 (wrap64 ((m : Int) - wrap64 (2 ^ xn))))).cell? ⟨w.heap.size + 1, 0, none⟩ = some (.int .i64 0) := H7.h2.cell 0
    have z1 : (w5.setCell ⟨bo, oo + yn, none⟩ (.int .i64 (wrap64 ((m : Int) - wrap64 (2 ^ xn))))).cell? ⟨w.heap.size + 1, 1, none⟩ = some (.slice none 0 0) := H7.h2.cell 1
    have f0 := H7.h2.frozen 0
    have f1 := H7.h2.frozen 1
    have H8 := (H7.g2.set_ 0 (.int .i64 r.w)).set_ 1 (.slice (some ⟨bo, oo, none⟩) r.rows.length c2)
    have u0 := H8.h0.cell 0
    have u1 := H8.h0.cell 1
    simp at u0 u1
    go_wp2
    refine bodyPost_ret (v := .tuple #[.agg #[.int .i64 r.w, .slice (some ⟨bo, oo, none⟩) r.rows.length c2], .bool true]) (by simp [results, Tryz.results117, go_sem, u0, u1]) rfl ⟨_, rfl, ?_, H8.below⟩
    have hoi := H8.g2.oi
    have hfl : (r.flip xn yn).rows = r.rows.set yn ((m ^^^ 2 ^ xn : Nat) : Int) := by rw [HM.out]; rfl
    rw [HR2.out]
    refine ⟨_, rfl, ?_⟩
    unfold IntsIn
    rw [Reg.flip_len, hfl, ← HVAL.out, ← ic_set]
    exact hoi
end Go.Proofs.YtppbkiajcpdkiaaGreatDoor
