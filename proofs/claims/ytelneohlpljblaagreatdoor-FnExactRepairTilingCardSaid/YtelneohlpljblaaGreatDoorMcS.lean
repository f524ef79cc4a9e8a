
/-
  The mask of some cells: both walks.
-/
import Derived.Test.YtelneohlpljblaaGreatDoorPlcP
import Derived.Test.YtelneohlpljblaaGreatDoorSepX
import Derived.Test.YtelneohlpljblaaGreatDoorFlipX
namespace Go.Proofs.YtelneohlpljblaaGreatDoor
open Go.RowKit

def mskV : Option Nat → Value
  | some m => .tuple #[.int .i64 (m : Int), .bool true]
  | none => .tuple #[.int .i64 0, .bool false]
def mskN : Option Nat → Int
  | some m => (m : Int)
  | none => 0
theorem mskV_eq (o : Option Nat) : mskV o = .tuple #[.int .i64 (mskN o), .bool o.isSome] := by cases o <;> rfl
theorem maskFrom_no {r : Reg} {n : Nat} {c : Cell} {s : List Cell} (h : r.has c.x c.y = false ∨ n.testBit (bitOf r c) = true) : maskFrom r n (c :: s) = none := by
  unfold maskFrom
  rw [if_neg]
  rintro ⟨h1, h2⟩
  rcases h with h | h
  · rw [h1] at h; cases h
  · rw [h2] at h; cases h
theorem maskFrom_yes {r : Reg} {n : Nat} {c : Cell} {s : List Cell} (h1 : r.has c.x c.y = true) (h2 : n.testBit (bitOf r c) = false) : maskFrom r n (c :: s) = maskFrom r (n + 2 ^ bitOf r c) s := by
  rw [maskFrom, if_pos ⟨h1, h2⟩]
theorem drop_at {α : Type} {l : List α} {i : Nat} {a : α} (h : l[i]? = some a) : l.drop i = a :: l.drop (i + 1) := by
  obtain ⟨hi, rfl⟩ := List.getElem?_eq_some_iff.1 h
  exact List.drop_eq_getElem_cons hi
/-- the numbers of a cell's bit, as the machine makes them -/
structure BitNums (r : Reg) (d : Cell) (xn yn wn p b : Nat) : Prop where
  xe : d.x = (xn : Int)
  ye : d.y = (yn : Int)
  e1 : (yn : Int) * (wn : Int) = (p : Int)
  e2 : IntKind.i64.wrap ((yn : Int) * (wn : Int)) = (p : Int)
  e3 : (p : Int) + (xn : Int) = (b : Int)
  e4 : IntKind.i64.wrap ((p : Int) + (xn : Int)) = (b : Int)
  be : b = bitOf r d
  lt : b < 36
theorem bit_nums {r : Reg} {d : Cell} {wn : Nat} (hv : r.Valid) (hw : r.w = (wn : Int)) (h : r.has d.x d.y = true) : ∃ xn yn p b, BitNums r d xn yn wn p b := by
  obtain ⟨h1, h2, h3, h4⟩ := has_in h
  obtain ⟨xn, hx⟩ := Int.eq_ofNat_of_zero_le h1
  obtain ⟨yn, hy⟩ := Int.eq_ofNat_of_zero_le h3
  have hb := bitOf_lt hv h
  have e0 : bitOf r d = yn * wn + xn := by unfold bitOf; rw [hx, hy, hw]; rfl
  have e1 : (yn : Int) * (wn : Int) = ((yn * wn : Nat) : Int) := (Int.natCast_mul yn wn).symm
  refine ⟨xn, yn, yn * wn, bitOf r d, hx, hy, e1, by rw [e1]; exact IntWalk.i64_in _ (by omega), by rw [e0]; omega, ?_, rfl, hb⟩
  rw [show ((yn * wn : Nat) : Int) + (xn : Int) = ((bitOf r d : Nat) : Int) by rw [e0]; omega]
  exact IntWalk.i64_in _ (by omega)
theorem pow36 {b : Nat} (h : b < 36) : 2 ^ b < 68719476736 := by
  calc 2 ^ b < 2 ^ 36 := Nat.pow_lt_pow_right (by decide) h
    _ = 68719476736 := by decide
theorem add_bit_num {m b : Nat} (hm : m < 2 ^ 36) (hb : b < 36) : wrap64 ((m : Int) + wrap64 (2 ^ b)) = ((m + 2 ^ b : Nat) : Int) := by
  have hp := pow36 hb
  have e : wrap64 ((2 : Int) ^ b) = ((2 ^ b : Nat) : Int) := by
    have := shl_in (m := 1) (p := b) (by omega)
    simpa using this
  rw [e]
  generalize 2 ^ b = q at *
  rw [IntWalk.wrap64_in _ ⟨by omega, by omega⟩]
  omega
theorem or_bit_num {m b : Nat} (hm : m < 2 ^ 36) (hb : b < 36) (ht : m.testBit b = false) : bits .or .i64 (m : Int) (wrap64 (2 ^ b)) = ((m + 2 ^ b : Nat) : Int) := by
  have hp := pow36 hb
  have := or_step (a := m) (m := 1) (p := b) (by omega) (by omega)
  rw [add_bit ht]
  simpa using this
set_option maxRecDepth 100000 in
set_option maxHeartbeats 3200000 in
theorem spec_maskCells_c {v v2 : Value} {r : Reg} {s : List Cell} (w : World) (h : RegRd w 0 w.heap.size v r) (h2 : CellsRd w 0 w.heap.size v2 s) (hv : r.Valid) (hs : s.length ≤ 1000000) :
    Calls Tryz.prog 107 #[v, v2] w fun e w' => e = .returned (mskV (maskS r s)) ∧ Below w.heap.size w w' := by
  obtain ⟨R, hR⟩ : ∃ R, R = mskV (maskS r s) := ⟨_, rfl⟩
  rw [← hR]
  have HRES := Lib.hid hR
  obtain ⟨wn, hwn⟩ : ∃ wn : Nat, r.w = (wn : Int) := ⟨r.w.toNat, by have := hv.1; omega⟩
  have hw1 := hv.1
  have hw6 := hv.2.1
  have HW := Lib.hid hwn
  have HV := Lib.hid hv
  have HRD : Hid (∀ w1, Below w.heap.size w w1 → RegRd w1 0 w1.heap.size v r) := Lib.hid fun w1 b1 => (h.keep (SameIn.of_below b1 (Nat.le_refl _))).more (Nat.le_refl _) b1.size
  obtain ⟨sr, rfl, hsr⟩ := h
  obtain ⟨A, c, rfl, _, _⟩ := hsr
  obtain ⟨A2, c2, rfl, hm2, hr2⟩ := h2
  have HR2 := Lib.hid hr2
  rw [hwn] at hw1 hw6 HRD ⊢
  have H0 := (Sep.start w).box 31 #[.int .i64 (wn : Int), .slice A r.rows.length c]
  obtain ⟨bR, hbR⟩ : ∃ bR, bR = w.heap.size := ⟨_, rfl⟩
  rw [← hbR] at H0
  clear hR hv hr2 hwn
  go_enter Tryz.func107, Tryz.ntmps107
  go_upto_region 1 with fail
  rw [← hbR]
  generalize (w.alloc (.cells #[.int .i64 (wn : Int), .slice A r.rows.length c] 31)) = W at *
  clear hbR
  go_wp2
  go_loopw [6, 7] (fun mv iv wx => ∃ i m : Nat, i ≤ s.length ∧ iv = .int .i64 i ∧ mv = .int .i64 m ∧ Hid (m < 2 ^ 36) ∧ Hid (maskS r s = maskFrom r m (s.drop i)) ∧ Sep w wx [Res.box bR 31 #[.int .i64 (wn : Int), .slice A r.rows.length c]]) (fun _ iv _ => s.length - (intOf iv).toNat)
  case atStart => exact ⟨0, 0, Nat.zero_le _, rfl, rfl, Lib.hid (by decide), Lib.hid rfl, H0⟩
  case round =>
    clear H0
    obtain ⟨i, m, hi, rfl, rfl, HM, HE, H⟩ := hrel
    by_cases hlt : i < s.length
    · have hlti : (i : Int) < (s.length : Int) := by omega
      obtain ⟨b2, o2, d, rfl, _, hb2, hla, x1, x2⟩ := HR2.out.at2 hlt
      have HD := Lib.hid (drop_at hla)
      have HIN : Hid (∀ w1, Below w.heap.size w w1 → Calls Tryz.prog 98 #[.agg #[.int .i64 (wn : Int), .slice A r.rows.length c], .int .i64 d.x, .int .i64 d.y] w1 fun e w' => e = .returned (.bool (r.has d.x d.y)) ∧ Below w1.heap.size w1 w') := Lib.hid fun w1 b1 => by
        have := spec_inRegion_c d.x d.y w1 (HRD.out w1 b1)
        rw [Reg.isIn, Reg.valid_iff.2 HV.out, Bool.true_and] at this
        exact this
      have c0 : wr.cell? ⟨bR, 0, none⟩ = some (.int .i64 (wn : Int)) := H.h0.cell 0
      have c1 : wr.cell? ⟨bR, 1, none⟩ = some (.slice A r.rows.length c) := H.h0.cell 1
      have y1 := (H.below.cell (p := ⟨b2, o2 + i * 2, none⟩) hb2).trans x1
      have y2 := (H.below.cell (p := ⟨b2, o2 + i * 2 + 1, none⟩) hb2).trans x2
      have hbw := Nat.lt_of_lt_of_le hb2 H.size
      have l0 := Later.cell c0 (Blk.lt H.h0)
      have l1 := Later.cell c1 (Blk.lt H.h0)
      have l2 := Later.cell y1 hbw
      have l3 := Later.cell y2 hbw
      have HINL : Hid (∀ u : Later wr, Calls Tryz.prog 98 #[.agg #[.int .i64 (wn : Int), .slice A r.rows.length c], .int .i64 d.x, .int .i64 d.y] u.w fun e w' => e = .returned (.bool (r.has d.x d.y)) ∧ Below u.w.heap.size u.w w') := Lib.hid fun u => HIN.out u.w (H.below.trans (u.h.mono H.size))
      clear x1 x2 HIN hla hbw c0 c1 y1 y2
      cases hh : r.has d.x d.y
      · have HNO : Hid (R = mskV none) := Lib.hid (by rw [HRES.out, HE.out, HD.out, maskFrom_no (.inl hh)])
        rw [hh] at HINL
        clear hh
        go_wp2_with fail
        refine wp_region_later (by kernel_rfl) (by kernel_rfl) ?_
        repeat (go_big_quiet_step ((go_at_call 98; with_reducible exact Later.call (HINL.out _))))
        refine wpQuiet_nil ?_
        intro w5 hw5
        obtain ⟨u5, hu5⟩ := hw5
        subst hu5
        have H2 := H.later u5
        clear l0 l1 l2 l3 H HINL
        generalize u5.w = w5 at *
        go_wp2
        refine bodyPost_ret (results_tmp2 rfl _ _ _) rfl ?_
        exact ⟨by rw [HNO.out]; rfl, H2.below⟩
      · obtain ⟨xn, yn, p, b, hN⟩ := bit_nums HV.out HW.out hh
        have HN := Lib.hid hN
        have HHH := Lib.hid hh
        obtain ⟨hx, hy, e1, e2, e3, e4, hb, hb36⟩ := hN
        rw [hh] at HINL
        rw [hx, hy] at HINL
        rw [hx] at l2
        rw [hy] at l3
        have hmm := HM.out
        have hbt := bit_test (m := m) (x := b) (by omega)
        have z0 : (0 : Int) ≤ (b : Int) := by omega
        clear hh hx hy hb
        cases ht : m.testBit b
        · have HYES : Hid (maskS r s = maskFrom r (m + 2 ^ b) (s.drop (i + 1))) := Lib.hid (by rw [HE.out, HD.out, HN.out.be, maskFrom_yes HHH.out (by rw [← HN.out.be]; exact ht)])
          have HM2 : Hid (m + 2 ^ b < 2 ^ 36) := Lib.hid (add_bit_lt ht hmm hb36)
          rw [ht] at hbt
          clear ht hmm
          go_wp2_with fail
          refine wp_region_later (by kernel_rfl) (by kernel_rfl) ?_
          repeat (go_big_quiet_step ((go_at_call 98; with_reducible exact Later.call (HINL.out _))))
          refine wpQuiet_nil ?_
          intro w5 hw5
          obtain ⟨u5, hu5⟩ := hw5
          subst hu5
          have H2 := H.later u5
          have m0 := l0 u5
          have m2 := l2 u5
          have m3 := l3 u5
          clear l0 l1 l2 l3 H HINL
          generalize u5.w = w5 at *
          have HAB := Lib.hid (add_bit_num (b := b) HM.out hb36)
          obtain ⟨q, hq⟩ : ∃ q, q = m + 2 ^ b := ⟨_, rfl⟩
          rw [← hq] at HYES HM2 HAB
          clear hq
          go_wp2_with fail
          go_quiet (fail)
          go_wp2
          go_roundw
          case rel => exact ⟨i + 1, q, by omega, by go_num, by rw [HAB.out], HM2, HYES, H2.drewN _⟩
          case measure => simp [intOf]; omega
        · have HNO : Hid (R = mskV none) := Lib.hid (by rw [HRES.out, HE.out, HD.out, maskFrom_no (.inr (by rw [← HN.out.be]; exact ht))])
          rw [ht] at hbt
          clear ht hmm
          go_wp2_with fail
          refine wp_region_later (by kernel_rfl) (by kernel_rfl) ?_
          repeat (go_big_quiet_step ((go_at_call 98; with_reducible exact Later.call (HINL.out _))))
          refine wpQuiet_nil ?_
          intro w5 hw5
          obtain ⟨u5, hu5⟩ := hw5
          subst hu5
          have H2 := H.later u5
          clear l0 l1 l2 l3 H HINL
          generalize u5.w = w5 at *
          go_wp2
          refine bodyPost_ret (results_tmp2 rfl _ _ _) rfl ?_
          exact ⟨by rw [HNO.out]; rfl, H2.below⟩
    · obtain rfl : i = s.length := by omega
      obtain rfl : R = mskV (some m) := by rw [HRES.out, HE.out, List.drop_length]; rfl
      have c0 : wr.cell? ⟨bR, 0, none⟩ = some (.int .i64 (wn : Int)) := H.h0.cell 0
      have c1 : wr.cell? ⟨bR, 1, none⟩ = some (.slice A r.rows.length c) := H.h0.cell 1
      have HI := Lib.hid (spec_IsRegion_c wr (HRD.out wr H.below))
      rw [Reg.valid_iff.2 HV.out] at HI
      go_wp2_with fail
      refine (HI.out).mono ?_
      rintro e w1 ⟨rfl, b1⟩
      have hb1 := (H.step b1).below
      go_wp2
      refine bodyPost_ret (results_tmp2 rfl _ _ _) rfl ?_
      exact ⟨rfl, hb1⟩
set_option maxRecDepth 100000 in
set_option maxHeartbeats 3200000 in
theorem impl_maskCells_c {v v2 : Value} {r : Reg} {s : List Cell} (w : World) (h : RegRd w 0 w.heap.size v r) (h2 : CellsRd w 0 w.heap.size v2 s) (hv : r.Valid) (hs : s.length ≤ 1000000) :
    Calls Tryz.prog 109 #[v, v2] w fun e w' => e = .returned (mskV (maskS r s)) ∧ Below w.heap.size w w' := by
  obtain ⟨R, hR⟩ : ∃ R, R = mskV (maskS r s) := ⟨_, rfl⟩
  rw [← hR]
  have HRES := Lib.hid hR
  obtain ⟨wn, hwn⟩ : ∃ wn : Nat, r.w = (wn : Int) := ⟨r.w.toNat, by have := hv.1; omega⟩
  have hw1 := hv.1
  have hw6 := hv.2.1
  have HW := Lib.hid hwn
  have HV := Lib.hid hv
  have HRD : Hid (∀ w1, Below w.heap.size w w1 → RegRd w1 0 w1.heap.size v r) := Lib.hid fun w1 b1 => (h.keep (SameIn.of_below b1 (Nat.le_refl _))).more (Nat.le_refl _) b1.size
  obtain ⟨sr, rfl, hsr⟩ := h
  obtain ⟨A, c, rfl, _, _⟩ := hsr
  obtain ⟨A2, c2, rfl, hm2, hr2⟩ := h2
  have HR2 := Lib.hid hr2
  rw [hwn] at hw1 hw6 HRD ⊢
  have H0 := (Sep.start w).box 31 #[.int .i64 (wn : Int), .slice A r.rows.length c]
  obtain ⟨bR, hbR⟩ : ∃ bR, bR = w.heap.size := ⟨_, rfl⟩
  rw [← hbR] at H0
  clear hR hv hr2 hwn
  go_enter Tryz.func109, Tryz.ntmps109
  go_upto_region 1 with fail
  rw [← hbR]
  generalize (w.alloc (.cells #[.int .i64 (wn : Int), .slice A r.rows.length c] 31)) = W at *
  clear hbR
  have c0 : W.cell? ⟨bR, 0, none⟩ = some (.int .i64 (wn : Int)) := H0.h0.cell 0
  have c1 : W.cell? ⟨bR, 1, none⟩ = some (.slice A r.rows.length c) := H0.h0.cell 1
  have HI := Lib.hid (impl_IsRegion_c W (HRD.out W H0.below))
  rw [Reg.valid_iff.2 HV.out] at HI
  go_wp2_with fail
  refine (HI.out).mono ?_
  rintro e w1 ⟨rfl, b1⟩
  have H1 := H0.step b1
  clear H0 b1 HI c0 c1
  go_wp2
  go_loopw [6, 14] (fun mv iv wx => ∃ i m : Nat, i ≤ s.length ∧ iv = .int .i64 i ∧ mv = .int .i64 m ∧ Hid (m < 2 ^ 36) ∧ Hid (maskS r s = maskFrom r m (s.drop i)) ∧ Sep w wx [Res.box bR 31 #[.int .i64 (wn : Int), .slice A r.rows.length c]]) (fun _ iv _ => s.length - (intOf iv).toNat)
  case atStart => exact ⟨0, 0, Nat.zero_le _, rfl, rfl, Lib.hid (by decide), Lib.hid rfl, H1⟩
  case round =>
    clear H1
    obtain ⟨i, m, hi, rfl, rfl, HM, HE, H⟩ := hrel
    by_cases hlt : i < s.length
    · have hlti : (i : Int) < (s.length : Int) := by omega
      obtain ⟨b2, o2, d, rfl, _, hb2, hla, x1, x2⟩ := HR2.out.at2 hlt
      have HD := Lib.hid (drop_at hla)
      have y1 := (H.below.cell (p := ⟨b2, o2 + i * 2, none⟩) hb2).trans x1
      have y2 := (H.below.cell (p := ⟨b2, o2 + i * 2 + 1, none⟩) hb2).trans x2
      have H2 := H.box 60 #[.int .i64 d.x, .int .i64 d.y]
      clear x1 x2 hla H
      go_upto_region 7 with fail
      obtain ⟨g, hg⟩ : ∃ g, g = wr.heap.size := ⟨_, rfl⟩
      rw [← hg] at H2 ⊢
      generalize wr.alloc (.cells #[.int .i64 d.x, .int .i64 d.y] 60) = W2 at *
      clear hg y1 y2
      have HHAS := Lib.hid (impl_has_c d.x d.y W2 (HRD.out W2 H2.below) HV.out)
      have c0 : W2.cell? ⟨bR, 0, none⟩ = some (.int .i64 (wn : Int)) := H2.h1.cell 0
      have c1 : W2.cell? ⟨bR, 1, none⟩ = some (.slice A r.rows.length c) := H2.h1.cell 1
      have k0 : W2.cell? ⟨g, 0, none⟩ = some (.int .i64 d.x) := H2.h0.cell 0
      have k1 : W2.cell? ⟨g, 1, none⟩ = some (.int .i64 d.y) := H2.h0.cell 1
      go_wp2_with fail
      refine (HHAS.out).mono ?_
      rintro e w3 ⟨rfl, b3⟩
      have H3 := H2.step b3
      clear H2 b3 HHAS c0 c1 k0 k1
      cases hh : r.has d.x d.y
      · obtain rfl : R = mskV none := by rw [HRES.out, HE.out, HD.out, maskFrom_no (.inl hh)]
        clear hh
        go_wp2
        refine bodyPost_ret (results_tmp2 rfl _ _ _) rfl ?_
        exact ⟨rfl, H3.below⟩
      · obtain ⟨xn, yn, p, b, hN⟩ := bit_nums HV.out HW.out hh
        have HN := Lib.hid hN
        have HHH := Lib.hid hh
        obtain ⟨hx, hy, e1, e2, e3, e4, hb, hb36⟩ := hN
        have c0 : w3.cell? ⟨bR, 0, none⟩ = some (.int .i64 (wn : Int)) := H3.h1.cell 0
        have k0 : w3.cell? ⟨g, 0, none⟩ = some (.int .i64 (xn : Int)) := by rw [← hx]; exact H3.h0.cell 0
        have k1 : w3.cell? ⟨g, 1, none⟩ = some (.int .i64 (yn : Int)) := by rw [← hy]; exact H3.h0.cell 1
        have hmm := HM.out
        have hbt := bit_test (m := m) (x := b) (by omega)
        have z0 : (0 : Int) ≤ (b : Int) := by omega
        clear hh hx hy hb
        cases ht : m.testBit b
        · have HYES : Hid (maskS r s = maskFrom r (m + 2 ^ b) (s.drop (i + 1))) := Lib.hid (by rw [HE.out, HD.out, HN.out.be, maskFrom_yes HHH.out (by rw [← HN.out.be]; exact ht)])
          have HM2 : Hid (m + 2 ^ b < 2 ^ 36) := Lib.hid (add_bit_lt ht hmm hb36)
          have HAB := Lib.hid (or_bit_num (b := b) HM.out hb36 ht)
          obtain ⟨q, hq⟩ : ∃ q, q = m + 2 ^ b := ⟨_, rfl⟩
          rw [← hq] at HYES HM2 HAB
          clear hq
          rw [ht] at hbt
          clear ht hmm
          go_wp2
          go_roundw
          case rel => exact ⟨i + 1, q, by omega, by go_num, by rw [HAB.out], HM2, HYES, H3.drop⟩
          case measure => simp [intOf]; omega
        · obtain rfl : R = mskV none := by rw [HRES.out, HE.out, HD.out, maskFrom_no (.inr (by rw [← HN.out.be]; exact ht))]
          rw [ht] at hbt
          clear ht hmm
          go_wp2
          refine bodyPost_ret (results_tmp2 rfl _ _ _) rfl ?_
          exact ⟨rfl, H3.below⟩
    · obtain rfl : i = s.length := by omega
      obtain rfl : R = mskV (some m) := by rw [HRES.out, HE.out, List.drop_length]; rfl
      have hb1 := H.below
      go_wp2
      refine bodyPost_ret (results_tmp2 rfl _ _ _) rfl ?_
      exact ⟨rfl, hb1⟩
end Go.Proofs.YtelneohlpljblaaGreatDoor
