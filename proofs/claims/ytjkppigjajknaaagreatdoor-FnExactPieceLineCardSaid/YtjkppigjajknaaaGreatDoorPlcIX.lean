
/-
  The mask of some cells: both walks. Numbers put in order, each once: the library's sort, the program's walk. All placements of a shape, of some shapes: the program's walks.
-/
import Derived.Test.YtjkppigjajknaaaGreatDoorPlcP
import Derived.Test.YtjkppigjajknaaaGreatDoorSepX
import Derived.Test.YtjkppigjajknaaaGreatDoorFlipX
import Derived.Test.YtjkppigjajknaaaGreatDoorShelf
import Derived.Sort.OwnSortedInts
import Derived.Test.YtjkppigjajknaaaGreatDoorPlcX
import Derived.Test.YtjkppigjajknaaaGreatDoorOriX
import Derived.Deep.DeepCutAuto
namespace Go.Proofs.YtjkppigjajknaaaGreatDoor
open Go.RowKit

def mskV : Option Nat → Value
  | some m => .tuple #[.int .i64 (m : Int), .bool true]
  | none => .tuple #[.int .i64 0, .bool false]
def mskN : Option Nat → Int
  | some m => (m : Int)
  | none => 0
theorem mskV_eq (o : Option Nat) : mskV o = .tuple #[.int .i64 (mskN o), .bool o.isSome] := by cases o <;> rfl
theorem maskFrom_no {r : Reg} {n : Nat} {c : Cell} {s : List Cell} (h : r.has c.x c.y = false ∨ n.testBit (bitOf r c) = true) : maskFrom r n (c :: s) = none := by
  unfold maskFrom
  rw [if_neg]
  rintro ⟨h1, h2⟩
  rcases h with h | h
  · rw [h1] at h; cases h
  · rw [h2] at h; cases h
theorem maskFrom_yes {r : Reg} {n : Nat} {c : Cell} {s : List Cell} (h1 : r.has c.x c.y = true) (h2 : n.testBit (bitOf r c) = false) : maskFrom r n (c :: s) = maskFrom r (n + 2 ^ bitOf r c) s := by
  rw [maskFrom, if_pos ⟨h1, h2⟩]
theorem drop_at {α : Type} {l : List α} {i : Nat} {a : α} (h : l[i]? = some a) : l.drop i = a :: l.drop (i + 1) := by
  obtain ⟨hi, rfl⟩ := List.getElem?_eq_some_iff.1 h
  exact List.drop_eq_getElem_cons hi
/-- the numbers of a cell's bit, as the machine makes them -/
structure BitNums (r : Reg) (d : Cell) (xn yn wn p b : Nat) : Prop where
  xe : d.x = (xn : Int)
  ye : d.y = (yn : Int)
  e1 : (yn : Int) * (wn : Int) = (p : Int)
  e2 : IntKind.i64.wrap ((yn : Int) * (wn : Int)) = (p : Int)
  e3 : (p : Int) + (xn : Int) = (b : Int)
  e4 : IntKind.i64.wrap ((p : Int) + (xn : Int)) = (b : Int)
  be : b = bitOf r d
  lt : b < 36
theorem bit_nums {r : Reg} {d : Cell} {wn : Nat} (hv : r.Valid) (hw : r.w = (wn : Int)) (h : r.has d.x d.y = true) : ∃ xn yn p b, BitNums r d xn yn wn p b := by
  obtain ⟨h1, h2, h3, h4⟩ := has_in h
  obtain ⟨xn, hx⟩ := Int.eq_ofNat_of_zero_le h1
  obtain ⟨yn, hy⟩ := Int.eq_ofNat_of_zero_le h3
  have hb := bitOf_lt hv h
  have e0 : bitOf r d = yn * wn + xn := by unfold bitOf; rw [hx, hy, hw]; rfl
  have e1 : (yn : Int) * (wn : Int) = ((yn * wn : Nat) : Int) := (Int.natCast_mul yn wn).symm
  refine ⟨xn, yn, yn * wn, bitOf r d, hx, hy, e1, by rw [e1]; exact IntWalk.i64_in _ (by omega), by rw [e0]; omega, ?_, rfl, hb⟩
  rw [show ((yn * wn : Nat) : Int) + (xn : Int) = ((bitOf r d : Nat) : Int) by rw [e0]; omega]
  exact IntWalk.i64_in _ (by omega)
theorem pow36 {b : Nat} (h : b < 36) : 2 ^ b < 68719476736 := by
  calc 2 ^ b < 2 ^ 36 := Nat.pow_lt_pow_right (by decide) h
    _ = 68719476736 := by decide
theorem add_bit_num {m b : Nat} (hm : m < 2 ^ 36) (hb : b < 36) : wrap64 ((m : Int) + wrap64 (2 ^ b)) = ((m + 2 ^ b : Nat) : Int) := by
  have hp := pow36 hb
  have e : wrap64 ((2 : Int) ^ b) = ((2 ^ b : Nat) : Int) := by
    have := shl_in (m := 1) (p := b) (by omega)
    simpa using this
  rw [e]
  generalize 2 ^ b = q at *
  rw [IntWalk.wrap64_in _ ⟨by omega, by omega⟩]
  omega
theorem or_bit_num {m b : Nat} (hm : m < 2 ^ 36) (hb : b < 36) (ht : m.testBit b = false) : bits .or .i64 (m : Int) (wrap64 (2 ^ b)) = ((m + 2 ^ b : Nat) : Int) := by
  have hp := pow36 hb
  have := or_step (a := m) (m := 1) (p := b) (by omega) (by omega)
  rw [add_bit ht]
  simpa using this
set_option maxRecDepth 100000 in
set_option maxHeartbeats 3200000 in
theorem spec_maskCells_c {v v2 : Value} {r : Reg} {s : List Cell} (w : World) (h : RegRd w 0 w.heap.size v r) (h2 : CellsRd w 0 w.heap.size v2 s) (hv : r.Valid) (hs : s.length ≤ 1000000) :
    Calls Tryz.prog 165 #[v, v2] w fun e w' => e = .returned (mskV (maskS r s)) ∧ Below w.heap.size w w' := by
  obtain ⟨R, hR⟩ : ∃ R, R = mskV (maskS r s) := ⟨_, rfl⟩
  rw [← hR]
  have HRES := Lib.hid hR
  obtain ⟨wn, hwn⟩ : ∃ wn : Nat, r.w = (wn : Int) := ⟨r.w.toNat, by have := hv.1; omega⟩
  have hw1 := hv.1
  have hw6 := hv.2.1
  have HW := Lib.hid hwn
  have HV := Lib.hid hv
  have HRD : Hid (∀ w1, Below w.heap.size w w1 → RegRd w1 0 w1.heap.size v r) := Lib.hid fun w1 b1 => (h.keep (SameIn.of_below b1 (Nat.le_refl _))).more (Nat.le_refl _) b1.size
  obtain ⟨sr, rfl, hsr⟩ := h
  obtain ⟨A, c, rfl, _, _⟩ := hsr
  obtain ⟨A2, c2, rfl, hm2, hr2⟩ := h2
  have HR2 := Lib.hid hr2
  rw [hwn] at hw1 hw6 HRD ⊢
  have H0 := (Sep.start w).box 36 #[.int .i64 (wn : Int), .slice A r.rows.length c]
  obtain ⟨bR, hbR⟩ : ∃ bR, bR = w.heap.size := ⟨_, rfl⟩
  rw [← hbR] at H0
  clear hR hv hr2 hwn
  go_enter Tryz.func165, Tryz.ntmps165
  go_upto_region 1 with fail
  rw [← hbR]
  generalize (w.alloc (.cells #[.int .i64 (wn : Int), .slice A r.rows.length c] 36)) = W at *
  clear hbR
  go_wp2
  go_loopw [6, 7] (fun mv iv wx => ∃ i m : Nat, i ≤ s.length ∧ iv = .int .i64 i ∧ mv = .int .i64 m ∧ Hid (m < 2 ^ 36) ∧ Hid (maskS r s = maskFrom r m (s.drop i)) ∧ Sep w wx [Res.box bR 36 #[.int .i64 (wn : Int), .slice A r.rows.length c]]) (fun _ iv _ => s.length - (intOf iv).toNat)
  case atStart => exact ⟨0, 0, Nat.zero_le _, rfl, rfl, Lib.hid (by decide), Lib.hid rfl, H0⟩
  case round =>
    clear H0
    obtain ⟨i, m, hi, rfl, rfl, HM, HE, H⟩ := hrel
    by_cases hlt : i < s.length
    · have hlti : (i : Int) < (s.length : Int) := by omega
      obtain ⟨b2, o2, d, rfl, _, hb2, hla, x1, x2⟩ := HR2.out.at2 hlt
      have HD := Lib.hid (drop_at hla)
      have HIN : Hid (∀ w1, Below w.heap.size w w1 → Calls Tryz.prog 195 #[.agg #[.int .i64 (wn : Int), .slice A r.rows.length c], .int .i64 d.x, .int .i64 d.y] w1 fun e w' => e = .returned (.bool (r.has d.x d.y)) ∧ Below w1.heap.size w1 w') := Lib.hid fun w1 b1 => by
        have := spec_inRegion_c d.x d.y w1 (HRD.out w1 b1)
        rw [Reg.isIn, Reg.valid_iff.2 HV.out, Bool.true_and] at this
        exact this
      have c0 : wr.cell? ⟨bR, 0, none⟩ = some (.int .i64 (wn : Int)) := H.h0.cell 0
      have c1 : wr.cell? ⟨bR, 1, none⟩ = some (.slice A r.rows.length c) := H.h0.cell 1
      have y1 := (H.below.cell (p := ⟨b2, o2 + i * 2, none⟩) hb2).trans x1
      have y2 := (H.below.cell (p := ⟨b2, o2 + i * 2 + 1, none⟩) hb2).trans x2
      have hbw := Nat.lt_of_lt_of_le hb2 H.size
      have l0 := Later.cell c0 (Blk.lt H.h0)
      have l1 := Later.cell c1 (Blk.lt H.h0)
      have l2 := Later.cell y1 hbw
      have l3 := Later.cell y2 hbw
      have HINL : Hid (∀ u : Later wr, Calls Tryz.prog 195 #[.agg #[.int .i64 (wn : Int), .slice A r.rows.length c], .int .i64 d.x, .int .i64 d.y] u.w fun e w' => e = .returned (.bool (r.has d.x d.y)) ∧ Below u.w.heap.size u.w w') := Lib.hid fun u => HIN.out u.w (H.below.trans (u.h.mono H.size))
      clear x1 x2 HIN hla hbw c0 c1 y1 y2
      cases hh : r.has d.x d.y
      · have HNO : Hid (R = mskV none) := Lib.hid (by rw [HRES.out, HE.out, HD.out, maskFrom_no (.inl hh)])
        rw [hh] at HINL
        clear hh
        go_wp2_with fail
        refine wp_region_later (by kernel_rfl) (by kernel_rfl) ?_
        repeat (go_big_quiet_step ((go_at_call 195; with_reducible exact Later.call (HINL.out _))))
        refine wpQuiet_nil ?_
        intro w5 hw5
        obtain ⟨u5, hu5⟩ := hw5
        subst hu5
        have H2 := H.later u5
        clear l0 l1 l2 l3 H HINL
        generalize u5.w = w5 at *
        go_wp2
        refine bodyPost_ret (results_tmp2 rfl _ _ _) rfl ?_
        exact ⟨by rw [HNO.out]; rfl, H2.below⟩
      · obtain ⟨xn, yn, p, b, hN⟩ := bit_nums HV.out HW.out hh
        have HN := Lib.hid hN
        have HHH := Lib.hid hh
        obtain ⟨hx, hy, e1, e2, e3, e4, hb, hb36⟩ := hN
        rw [hh] at HINL
        rw [hx, hy] at HINL
        rw [hx] at l2
        rw [hy] at l3
        have hmm := HM.out
        have hbt := bit_test (m := m) (x := b) (by omega)
        have z0 : (0 : Int) ≤ (b : Int) := by omega
        clear hh hx hy hb
        cases ht : m.testBit b
        · have HYES : Hid (maskS r s = maskFrom r (m + 2 ^ b) (s.drop (i + 1))) := Lib.hid (by rw [HE.out, HD.out, HN.out.be, maskFrom_yes HHH.out (by rw [← HN.out.be]; exact ht)])
          have HM2 : Hid (m + 2 ^ b < 2 ^ 36) := Lib.hid (add_bit_lt ht hmm hb36)
          rw [ht] at hbt
          clear ht hmm
          go_wp2_with fail
          refine wp_region_later (by kernel_rfl) (by kernel_rfl) ?_
          repeat (go_big_quiet_step ((go_at_call 195; with_reducible exact Later.call (HINL.out _))))
          refine wpQuiet_nil ?_
          intro w5 hw5
          obtain ⟨u5, hu5⟩ := hw5
          subst hu5
          have H2 := H.later u5
          have m0 := l0 u5
          have m2 := l2 u5
          have m3 := l3 u5
          clear l0 l1 l2 l3 H HINL
          generalize u5.w = w5 at *
          have HAB := Lib.hid (add_bit_num (b := b) HM.out hb36)
          obtain ⟨q, hq⟩ : ∃ q, q = m + 2 ^ b := ⟨_, rfl⟩
          rw [← hq] at HYES HM2 HAB
          clear hq
          go_wp2_with fail
          go_quiet (fail)
          go_wp2
          go_roundw
          case rel => exact ⟨i + 1, q, by omega, by go_num, by rw [HAB.out], HM2, HYES, H2.drewN _⟩
          case measure => simp [intOf]; omega
        · have HNO : Hid (R = mskV none) := Lib.hid (by rw [HRES.out, HE.out, HD.out, maskFrom_no (.inr (by rw [← HN.out.be]; exact ht))])
          rw [ht] at hbt
          clear ht hmm
          go_wp2_with fail
          refine wp_region_later (by kernel_rfl) (by kernel_rfl) ?_
          repeat (go_big_quiet_step ((go_at_call 195; with_reducible exact Later.call (HINL.out _))))
          refine wpQuiet_nil ?_
          intro w5 hw5
          obtain ⟨u5, hu5⟩ := hw5
          subst hu5
          have H2 := H.later u5
          clear l0 l1 l2 l3 H HINL
          generalize u5.w = w5 at *
          go_wp2
          refine bodyPost_ret (results_tmp2 rfl _ _ _) rfl ?_
          exact ⟨by rw [HNO.out]; rfl, H2.below⟩
    · obtain rfl : i = s.length := by omega
      obtain rfl : R = mskV (some m) := by rw [HRES.out, HE.out, List.drop_length]; rfl
      have c0 : wr.cell? ⟨bR, 0, none⟩ = some (.int .i64 (wn : Int)) := H.h0.cell 0
      have c1 : wr.cell? ⟨bR, 1, none⟩ = some (.slice A r.rows.length c) := H.h0.cell 1
      have HI := Lib.hid (spec_IsRegion_c wr (HRD.out wr H.below))
      rw [Reg.valid_iff.2 HV.out] at HI
      go_wp2_with fail
      refine (HI.out).mono ?_
      rintro e w1 ⟨rfl, b1⟩
      have hb1 := (H.step b1).below
      go_wp2
      refine bodyPost_ret (results_tmp2 rfl _ _ _) rfl ?_
      exact ⟨rfl, hb1⟩
set_option maxRecDepth 100000 in
set_option maxHeartbeats 3200000 in
theorem impl_maskCells_c {v v2 : Value} {r : Reg} {s : List Cell} (w : World) (h : RegRd w 0 w.heap.size v r) (h2 : CellsRd w 0 w.heap.size v2 s) (hv : r.Valid) (hs : s.length ≤ 1000000) :
    Calls Tryz.prog 171 #[v, v2] w fun e w' => e = .returned (mskV (maskS r s)) ∧ Below w.heap.size w w' := by
  obtain ⟨R, hR⟩ : ∃ R, R = mskV (maskS r s) := ⟨_, rfl⟩
  rw [← hR]
  have HRES := Lib.hid hR
  obtain ⟨wn, hwn⟩ : ∃ wn : Nat, r.w = (wn : Int) := ⟨r.w.toNat, by have := hv.1; omega⟩
  have hw1 := hv.1
  have hw6 := hv.2.1
  have HW := Lib.hid hwn
  have HV := Lib.hid hv
  have HRD : Hid (∀ w1, Below w.heap.size w w1 → RegRd w1 0 w1.heap.size v r) := Lib.hid fun w1 b1 => (h.keep (SameIn.of_below b1 (Nat.le_refl _))).more (Nat.le_refl _) b1.size
  obtain ⟨sr, rfl, hsr⟩ := h
  obtain ⟨A, c, rfl, _, _⟩ := hsr
  obtain ⟨A2, c2, rfl, hm2, hr2⟩ := h2
  have HR2 := Lib.hid hr2
  rw [hwn] at hw1 hw6 HRD ⊢
  have H0 := (Sep.start w).box 36 #[.int .i64 (wn : Int), .slice A r.rows.length c]
  obtain ⟨bR, hbR⟩ : ∃ bR, bR = w.heap.size := ⟨_, rfl⟩
  rw [← hbR] at H0
  clear hR hv hr2 hwn
  go_enter Tryz.func171, Tryz.ntmps171
  go_upto_region 1 with fail
  rw [← hbR]
  generalize (w.alloc (.cells #[.int .i64 (wn : Int), .slice A r.rows.length c] 36)) = W at *
  clear hbR
  have c0 : W.cell? ⟨bR, 0, none⟩ = some (.int .i64 (wn : Int)) := H0.h0.cell 0
  have c1 : W.cell? ⟨bR, 1, none⟩ = some (.slice A r.rows.length c) := H0.h0.cell 1
  have HI := Lib.hid (impl_IsRegion_c W (HRD.out W H0.below))
  rw [Reg.valid_iff.2 HV.out] at HI
  go_wp2_with fail
  refine (HI.out).mono ?_
  rintro e w1 ⟨rfl, b1⟩
  have H1 := H0.step b1
  clear H0 b1 HI c0 c1
  go_wp2
  go_loopw [6, 14] (fun mv iv wx => ∃ i m : Nat, i ≤ s.length ∧ iv = .int .i64 i ∧ mv = .int .i64 m ∧ Hid (m < 2 ^ 36) ∧ Hid (maskS r s = maskFrom r m (s.drop i)) ∧ Sep w wx [Res.box bR 36 #[.int .i64 (wn : Int), .slice A r.rows.length c]]) (fun _ iv _ => s.length - (intOf iv).toNat)
  case atStart => exact ⟨0, 0, Nat.zero_le _, rfl, rfl, Lib.hid (by decide), Lib.hid rfl, H1⟩
  case round =>
    clear H1
    obtain ⟨i, m, hi, rfl, rfl, HM, HE, H⟩ := hrel
    by_cases hlt : i < s.length
    · have hlti : (i : Int) < (s.length : Int) := by omega
      obtain ⟨b2, o2, d, rfl, _, hb2, hla, x1, x2⟩ := HR2.out.at2 hlt
      have HD := Lib.hid (drop_at hla)
      have y1 := (H.below.cell (p := ⟨b2, o2 + i * 2, none⟩) hb2).trans x1
      have y2 := (H.below.cell (p := ⟨b2, o2 + i * 2 + 1, none⟩) hb2).trans x2
      have H2 := H.box 49 #[.int .i64 d.x, .int .i64 d.y]
      clear x1 x2 hla H
      go_upto_region 7 with fail
      obtain ⟨g, hg⟩ : ∃ g, g = wr.heap.size := ⟨_, rfl⟩
      rw [← hg] at H2 ⊢
      generalize wr.alloc (.cells #[.int .i64 d.x, .int .i64 d.y] 49) = W2 at *
      clear hg y1 y2
      have HHAS := Lib.hid (impl_has_c d.x d.y W2 (HRD.out W2 H2.below) HV.out)
      have c0 : W2.cell? ⟨bR, 0, none⟩ = some (.int .i64 (wn : Int)) := H2.h1.cell 0
      have c1 : W2.cell? ⟨bR, 1, none⟩ = some (.slice A r.rows.length c) := H2.h1.cell 1
      have k0 : W2.cell? ⟨g, 0, none⟩ = some (.int .i64 d.x) := H2.h0.cell 0
      have k1 : W2.cell? ⟨g, 1, none⟩ = some (.int .i64 d.y) := H2.h0.cell 1
      go_wp2_with fail
      refine (HHAS.out).mono ?_
      rintro e w3 ⟨rfl, b3⟩
      have H3 := H2.step b3
      clear H2 b3 HHAS c0 c1 k0 k1
      cases hh : r.has d.x d.y
      · obtain rfl : R = mskV none := by rw [HRES.out, HE.out, HD.out, maskFrom_no (.inl hh)]
        clear hh
        go_wp2
        refine bodyPost_ret (results_tmp2 rfl _ _ _) rfl ?_
        exact ⟨rfl, H3.below⟩
      · obtain ⟨xn, yn, p, b, hN⟩ := bit_nums HV.out HW.out hh
        have HN := Lib.hid hN
        have HHH := Lib.hid hh
        obtain ⟨hx, hy, e1, e2, e3, e4, hb, hb36⟩ := hN
        have c0 : w3.cell? ⟨bR, 0, none⟩ = some (.int .i64 (wn : Int)) := H3.h1.cell 0
        have k0 : w3.cell? ⟨g, 0, none⟩ = some (.int .i64 (xn : Int)) := by rw [← hx]; exact H3.h0.cell 0
        have k1 : w3.cell? ⟨g, 1, none⟩ = some (.int .i64 (yn : Int)) := by rw [← hy]; exact H3.h0.cell 1
        have hmm := HM.out
        have hbt := bit_test (m := m) (x := b) (by omega)
        have z0 : (0 : Int) ≤ (b : Int) := by omega
        clear hh hx hy hb
        cases ht : m.testBit b
        · have HYES : Hid (maskS r s = maskFrom r (m + 2 ^ b) (s.drop (i + 1))) := Lib.hid (by rw [HE.out, HD.out, HN.out.be, maskFrom_yes HHH.out (by rw [← HN.out.be]; exact ht)])
          have HM2 : Hid (m + 2 ^ b < 2 ^ 36) := Lib.hid (add_bit_lt ht hmm hb36)
          have HAB := Lib.hid (or_bit_num (b := b) HM.out hb36 ht)
          obtain ⟨q, hq⟩ : ∃ q, q = m + 2 ^ b := ⟨_, rfl⟩
          rw [← hq] at HYES HM2 HAB
          clear hq
          rw [ht] at hbt
          clear ht hmm
          go_wp2
          go_roundw
          case rel => exact ⟨i + 1, q, by omega, by go_num, by rw [HAB.out], HM2, HYES, H3.drop⟩
          case measure => simp [intOf]; omega
        · obtain rfl : R = mskV none := by rw [HRES.out, HE.out, HD.out, maskFrom_no (.inr (by rw [← HN.out.be]; exact ht))]
          rw [ht] at hbt
          clear ht hmm
          go_wp2
          refine bodyPost_ret (results_tmp2 rfl _ _ _) rfl ?_
          exact ⟨rfl, H3.below⟩
    · obtain rfl : i = s.length := by omega
      obtain rfl : R = mskV (some m) := by rw [HRES.out, HE.out, List.drop_length]; rfl
      have hb1 := H.below
      go_wp2
      refine bodyPost_ret (results_tmp2 rfl _ _ _) rfl ?_
      exact ⟨rfl, hb1⟩
end Go.Proofs.YtjkppigjajknaaaGreatDoor

namespace Go.Proofs.YtjkppigjajknaaaGreatDoor
open Go.RowKit

set_option maxRecDepth 100000 in
theorem sortInts_c {v : Value} {n : Nat} {l : List Int} {L : List Res} {w0 w : World} (H : Sep w0 w (Res.row v 3 1 n (ic l) :: L)) (hn : n = l.length) (hn8 : n ≤ 1000000) :
    Calls Tryz.prog 172 #[v] w fun e w' => e = .returned (.tuple #[]) ∧ ∃ s : List Int, s.length = n ∧ s.Pairwise (· ≤ ·) ∧ (∀ c, c ∈ s ↔ c ∈ l) ∧ Sep w0 w' (Res.row v 3 1 n (ic s) :: L) := by
  by_cases h0 : n = 0
  · obtain ⟨A, c, rfl, _, _, _⟩ := Res.row_at H.h0
    subst h0
    have hl : l = [] := List.eq_nil_of_length_eq_zero hn.symm
    subst hl
    refine (Tryz.sort_Ints_none A c w).mono ?_
    rintro e w' ⟨rfl, rfl⟩
    exact ⟨rfl, [], rfl, List.Pairwise.nil, fun c => Iff.rfl, H⟩
  · obtain ⟨g, o, c, rfl, h1, h2, h3⟩ := own_shape H.h0 (by omega)
    obtain ⟨rfl, cs, hb, h4, h5, h6, h7⟩ := own_blk H.h0
    subst hn
    have hH := holds_of_blockI (ss := l) hb (by rw [Nat.mul_one] at h7; exact h7)
    refine (Tryz.sort_Ints g 0 c l w hH h3 (by omega)).mono ?_
    rintro e w' ⟨rfl, n', os, rfl⟩
    have hlen : (l.mergeSort fun x y => decide (x ≤ y)).length = l.length := List.length_mergeSort l
    refine ⟨rfl, l.mergeSort fun x y => decide (x ≤ y), hlen, ?_, fun c => (List.mergeSort_perm l _).mem_iff, ?_⟩
    · have := List.pairwise_mergeSort (le := fun x y : Int => decide (x ≤ y)) (fun a b c h1 h2 => by simp at *; omega) (fun a b => by simp; omega) l
      exact this.imp fun h => by simpa using h
    · refine H.turn (Only.of_grown (row := some g) (grownBy_sortedI _) |> fun h => ⟨h.os, h.tape, h.output, h.size, fun b hb' hd => h.block b hb' (fun e => hd (by simpa [Res.row, Value.ownBlock] using e))⟩) ?_ fun b hb => .inl hb
      exact ownsRow_sortedI hlen (Nat.zero_le _) hb h4 h5 h6
theorem uniqTo_new {s : List Int} {i : Nat} {x : Int} (h : s[i]? = some x) (hc : i = 0 ∨ ¬ s[i - 1]? = some x) : uniqTo s (i + 1) = uniqTo s i ++ [x] := by
  rw [uniqTo, h, if_pos hc]
  simp [List.getD, h]
theorem uniqTo_keep {s : List Int} {i : Nat} {x : Int} (hi : i ≠ 0) (h : s[i]? = some x) (hp : s[i - 1]? = some x) : uniqTo s (i + 1) = uniqTo s i := by
  rw [uniqTo, h, hp, if_neg]
  rintro (q | q)
  · exact hi q
  · exact q rfl
set_option maxRecDepth 100000 in
set_option maxHeartbeats 1600000 in
theorem impl_ordered_c {v : Value} {l : List Int} (w : World) (h : IntsRd w 0 w.heap.size v l) (hn : l.length ≤ 1000000) :
    Calls Tryz.prog 138 #[v] w fun e w' => ∃ v', e = .returned v' ∧ IntsIn w' w.heap.size w'.heap.size v' (srtU l) ∧ Below w.heap.size w w' := by
  obtain ⟨j0, hj, hy0, hy1, hy2⟩ := info_parts infoIntC
  have HC := Lib.hid (impl_copyInts_c w h (by omega))
  obtain ⟨A, c, rfl, _, _⟩ := h
  obtain ⟨n, hnn⟩ : ∃ n, n = l.length := ⟨_, rfl⟩
  rw [← hnn] at hn HC ⊢
  have HNN := Lib.hid hnn
  clear hnn
  go_enter Tryz.func138, Tryz.ntmps138
  go_wp2_with fail
  refine (HC.out).mono ?_
  rintro e w1 ⟨v1, rfl, o1, b1⟩
  have H1 : Sep w w1 [Res.row v1 3 1 n (ic l)] := by rw [HNN.out]; exact (Sep.start w).oiNew b1 o1
  have HS := Lib.hid (sortInts_c H1 HNN.out hn)
  obtain ⟨A1, c1, rfl, hc1, _, _⟩ := Res.row_at H1.h0
  clear b1 o1 HC H1
  go_wp2_with fail
  refine (HS.out).mono ?_
  rintro e w2 ⟨rfl, s, hsl, hsw, hsm, H2⟩
  have H3 := (H2.nil 3 1)
  have HSL := Lib.hid hsl
  have HFIN : Hid (uniqTo s n = srtU l) := Lib.hid (by rw [← hsl]; exact uniq_srtU hsw hsm)
  clear HS H2 hsl hsw hsm
  go_wp2
  go_loopw [4, 13] (fun ov iv wx => ∃ i m : Nat, i ≤ n ∧ iv = .int .i64 i ∧ Hid (m = (uniqTo s i).length) ∧ Sep w wx [Res.row ov 3 1 m (ic (uniqTo s i)), Res.row (.slice A1 n c1) 3 1 n (ic s)]) (fun _ iv _ => n - (intOf iv).toNat)
  case atStart => exact ⟨0, 0, Nat.zero_le _, rfl, Lib.hid rfl, H3⟩
  case round =>
    clear H3
    obtain ⟨i, m, hi, rfl, HM, H⟩ := hrel
    by_cases hlt : i < n
    · have hlti : (i : Int) < (n : Int) := by omega
      obtain ⟨g, o, cc', he, _, _, _⟩ := own_shape H.h1 (by omega)
      injection he with he1 he2 he3
      subst he1 he3
      obtain ⟨rfl, _⟩ := own_blk H.h1
      obtain ⟨x, hx⟩ : ∃ x, s[i]? = some x := ⟨s[i]'(by rw [HSL.out]; exact hlt), List.getElem?_eq_getElem _⟩
      have x1 := own_cell1 H.h1 hx
      rw [Nat.zero_add] at x1
      have HX := Lib.hid hx
      clear hx
      by_cases hi0 : i = 0
      · have hz : ((i : Int) == 0) = true := by simp; exact hi0
        have HI0 := Lib.hid hi0
        clear hi0
        have HU : Hid (ic (uniqTo s (i + 1)) = ic (uniqTo s i) ++ [.int .i64 x]) := Lib.hid (by rw [uniqTo_new HX.out (.inl HI0.out), ic_append]; rfl)
        have HM2 : Hid (m + 1 = (uniqTo s (i + 1)).length) := Lib.hid (by
          have := congrArg List.length HU.out
          rw [ic_length, List.length_append, ic_length, ← HM.out] at this
          exact this.symm)
        have hmi : m ≤ i := by rw [HM.out]; exact uniqTo_len i
        clear HI0
        go_wp2_with (at_builtin; refine wpList_app rfl _ _ 29 rfl 3 j0 _ 1 8 Tryz.underlying29 hj hy0 hy1 hy2 rfl (by decide) _ _ _ rfl (H.alloc _) _ _ _ [.int .i64 x] rfl (Rd.fresh wr _ #[.int .i64 x] 1 1 rfl) oc1 (by unfold maxLen; omega) (by omega) ?_; intro v5 w5 H5; clear H)
        rw [← HU.out] at H5
        go_roundw
        case rel => exact ⟨i + 1, m + 1, by omega, by go_num, HM2, H5⟩
        case measure => simp [intOf]; omega
      · have hz : ((i : Int) == 0) = false := by simp; exact hi0
        obtain ⟨p, hp⟩ : ∃ p, p = i - 1 := ⟨_, rfl⟩
        have HP := Lib.hid hp
        have e1 : (i : Int) - 1 = (p : Int) := by omega
        have e2 : IntKind.i64.wrap ((i : Int) - 1) = (p : Int) := by rw [e1]; exact IntWalk.i64_in _ (by omega)
        have e3 : (p : Int) < (n : Int) := by omega
        have e4 : p < n := by omega
        obtain ⟨y, hy⟩ : ∃ y, s[p]? = some y := ⟨s[p]'(by rw [HSL.out]; omega), List.getElem?_eq_getElem _⟩
        have x2 := own_cell1 H.h1 hy
        rw [Nat.zero_add] at x2
        have HY := Lib.hid hy
        have HI0 := Lib.hid hi0
        clear hp hy hi0
        by_cases hyx : y = x
        · have hb : (y != x) = false := by simpa using hyx
          have HU : Hid (uniqTo s (i + 1) = uniqTo s i) := Lib.hid (uniqTo_keep HI0.out HX.out (by rw [← HP.out, HY.out, hyx]))
          clear hyx
          go_wp2
          go_roundw
          case rel => exact ⟨i + 1, m, by omega, by go_num, by rw [HU.out]; exact HM, by rw [HU.out]; exact H⟩
          case measure => simp [intOf]; omega
        · have hb : (y != x) = true := by simpa using hyx
          have HNE : Hid (¬ s[i - 1]? = some x) := Lib.hid (by rw [← HP.out, HY.out]; intro q; injection q with q; exact hyx q)
          clear hyx
          have HU : Hid (ic (uniqTo s (i + 1)) = ic (uniqTo s i) ++ [.int .i64 x]) := Lib.hid (by rw [uniqTo_new HX.out (.inr HNE.out), ic_append]; rfl)
          have HM2 : Hid (m + 1 = (uniqTo s (i + 1)).length) := Lib.hid (by
            have := congrArg List.length HU.out
            rw [ic_length, List.length_append, ic_length, ← HM.out] at this
            exact this.symm)
          have hmi : m ≤ i := by rw [HM.out]; exact uniqTo_len i
          clear HNE
          go_wp2_with (at_builtin; refine wpList_app rfl _ _ 29 rfl 3 j0 _ 1 8 Tryz.underlying29 hj hy0 hy1 hy2 rfl (by decide) _ _ _ rfl (H.alloc _) _ _ _ [.int .i64 x] rfl (Rd.fresh wr _ #[.int .i64 x] 1 1 rfl) oc1 (by unfold maxLen; omega) (by omega) ?_; intro v5 w5 H5; clear H)
          rw [← HU.out] at H5
          go_roundw
          case rel => exact ⟨i + 1, m + 1, by omega, by go_num, HM2, H5⟩
          case measure => simp [intOf]; omega
    · obtain rfl : i = n := by omega
      go_wp2
      go_ret
      refine ⟨_, rfl, ?_, H.below⟩
      have := H.oi
      unfold IntsIn
      rw [← HFIN.out, ← HM.out]
      exact this
end Go.Proofs.YtjkppigjajknaaaGreatDoor

namespace Go.Proofs.YtjkppigjajknaaaGreatDoor
open Go.RowKit

set_option maxRecDepth 100000 in
theorem impl_orients_ro {v : Value} {s : List Cell} (w : World) (h : CellsRd w 0 w.heap.size v s) (hsh : isShape s = true) :
    Calls Tryz.prog 170 #[v] w fun e w' => ∃ v', e = .returned v' ∧ CellSSRd w' w.heap.size w'.heap.size v' (orients s) ∧ Below w.heap.size w w' :=
  (impl_orients_c w h hsh).mono fun _ _ ⟨v', _, he, hP, H⟩ => ⟨v', he, hP ▸ H.shpsRdNew rfl, H.below⟩
set_option maxRecDepth 100000 in
set_option maxHeartbeats 1600000 in
theorem impl_plc_c {v v2 : Value} {r : Reg} {s : List Cell} (w : World) (h : RegRd w 0 w.heap.size v r) (h2 : CellsRd w 0 w.heap.size v2 s) (hv : r.Valid) (hsh : isShape s = true) :
    Calls Tryz.prog 137 #[v, v2] w fun e w' => ∃ v', e = .returned v' ∧ IntsIn w' w.heap.size w'.heap.size v' (plc r s) ∧ Below w.heap.size w w' := by
  obtain ⟨j0, hj, hy0, hy1, hy2⟩ := info_parts infoIntC
  obtain ⟨wn, hwn⟩ : ∃ wn : Nat, r.w = (wn : Int) := ⟨r.w.toNat, by have := hv.1; omega⟩
  obtain ⟨hn, hhn⟩ : ∃ hn : Nat, hn = r.rows.length := ⟨_, rfl⟩
  have hw1 := hv.1
  have hw6 := hv.2.1
  have hh6 := hv.2.2.2.1
  have HW := Lib.hid hwn
  have HHN := Lib.hid hhn
  have HV := Lib.hid hv
  have HRD : Hid (∀ w1, Below w.heap.size w w1 → RegRd w1 0 w1.heap.size v r) := Lib.hid fun w1 b1 => (h.keep (SameIn.of_below b1 (Nat.le_refl _))).more (Nat.le_refl _) b1.size
  have HOR : Hid (∀ w1, Below w.heap.size w w1 → Calls Tryz.prog 170 #[v2] w1 fun e w' => ∃ v', e = .returned v' ∧ CellSSRd w' w1.heap.size w'.heap.size v' (orients s) ∧ Below w1.heap.size w1 w') := Lib.hid fun w1 b1 =>
    impl_orients_ro w1 ((h2.keep (SameIn.of_below b1 (Nat.le_refl _))).more (Nat.le_refl _) b1.size) hsh
  obtain ⟨T, hT⟩ : ∃ T, T = orients s := ⟨_, rfl⟩
  have HTS : Hid (∀ t ∈ T, ∀ c ∈ t, Sml 20 c) := Lib.hid (by rw [hT]; exact orients_sml hsh)
  have HTL : Hid (∀ t ∈ T, t.length ≤ 8) := Lib.hid (by rw [hT]; exact orients_len8 hsh)
  have HT8 : Hid (T.length ≤ 8) := Lib.hid (by rw [hT]; exact orients_le 8)
  have HPL : Hid (plc r s = srtU (rawT r T)) := Lib.hid (by rw [hT]; rfl)
  rw [← hT] at HOR
  obtain ⟨sr, rfl, hsr⟩ := h
  obtain ⟨A, c, rfl, _, _⟩ := hsr
  obtain ⟨A2, c2, rfl, _, _⟩ := h2
  rw [hwn] at hw1 hw6 HRD ⊢
  rw [← hhn] at hh6 HRD ⊢
  have H0 := ((Sep.start w).box 36 #[.int .i64 (wn : Int), .slice A hn c]).nil 3 1
  obtain ⟨bR, hbR⟩ : ∃ bR, bR = w.heap.size := ⟨_, rfl⟩
  rw [← hbR] at H0
  clear hv hwn hhn hT hsh
  go_enter Tryz.func137, Tryz.ntmps137
  go_upto_region 2 with fail
  rw [← hbR]
  generalize (w.alloc (.cells #[.int .i64 (wn : Int), .slice A hn c] 36)) = W at *
  clear hbR
  have HO1 := Lib.hid (HOR.out W H0.below)
  go_wp2_with fail
  refine (HO1.out).mono ?_
  rintro e w2 ⟨ov, rfl, hss, b2⟩
  have H2 := (H0.same b2).p2
  obtain ⟨vs, ⟨At, ct, rfl, hmt, hrt⟩, hsl⟩ := hss
  have HRT := Lib.hid hrt
  have HSL := Lib.hid hsl
  obtain ⟨lo, hlo⟩ : ∃ lo, lo = W.heap.size := ⟨_, rfl⟩
  rw [← hlo] at H2 HRT HSL b2
  clear H0 HO1 b2 hrt hsl HOR hlo
  go_wp2
  go_loopw [5, 15] (fun ov kv wx => ∃ (k : Nat) (acc : List Int), k ≤ T.length ∧ kv = .int .i64 k ∧ Hid (acc = rawT r (T.take k)) ∧ Sep w wx [Res.row ov 3 1 acc.length (ic acc), Res.box bR 36 #[.int .i64 (wn : Int), .slice A hn c], Res.same lo w2.heap.size w2]) (fun _ kv _ => T.length - (intOf kv).toNat)
  case atStart => exact ⟨0, [], Nat.zero_le _, rfl, Lib.hid rfl, H2⟩
  case round =>
    clear H2
    obtain ⟨k, acc, hk, rfl, HACC, H⟩ := hrel
    have hT8 := HT8.out
    by_cases hlt : k < T.length
    · have hlti : (k : Int) < (T.length : Int) := by omega
      obtain ⟨b, off, t, x, rfl, hb1, hb2, hla, x1, xr⟩ := HRT.out.slot HSL.out rfl hlt
      have y1 := (same_cell H.h2 hb1 hb2).trans x1
      have c1 : wr.cell? ⟨bR, 1, none⟩ = some (.slice A hn c) := H.h1.cell 1
      have HLA := Lib.hid hla
      obtain ⟨Ax, cx, rfl, hmx, hrx⟩ := id xr
      have HXR : Hid (∀ w1, SameIn lo w2.heap.size w2 w1 → w2.heap.size ≤ w1.heap.size → CellsRd w1 0 w1.heap.size (.slice Ax t.length cx) t) := Lib.hid fun w1 hs h1 => (xr.keep hs).more (Nat.zero_le _) h1
      have HIN2 : Hid (w2.heap.size ≤ wr.heap.size) := Lib.hid (by
        have h1 := H.h2.2 (by omega)
        exact h1)
      clear hla x1 hrx xr
      go_wp2
      clear c1 y1
      go_loopw [5, 22] (fun ov yv wx => ∃ (y : Nat) (acc : List Int), y ≤ hn ∧ yv = .int .i64 y ∧ Hid (acc = rawT r (T.take k) ++ rawY r t y) ∧ Sep w wx [Res.row ov 3 1 acc.length (ic acc), Res.box bR 36 #[.int .i64 (wn : Int), .slice A hn c], Res.same lo w2.heap.size w2]) (fun _ yv _ => hn - (intOf yv).toNat)
      case atStart => exact ⟨0, acc, Nat.zero_le _, rfl, Lib.hid (by rw [HACC.out]; simp [rawY]), H⟩
      case round =>
        clear H HACC HIN2
        obtain ⟨y, acc, hy, rfl, HACC, H⟩ := hrel
        by_cases hlty : y < hn
        · have hltyi : (y : Int) < (hn : Int) := by omega
          have c0 : wr.cell? ⟨bR, 0, none⟩ = some (.int .i64 (wn : Int)) := H.h1.cell 0
          go_wp2
          clear c0
          go_loopw [5, 27] (fun ov xv wx => ∃ (x : Nat) (acc : List Int), x ≤ wn ∧ xv = .int .i64 x ∧ Hid (acc = rawT r (T.take k) ++ rawY r t y ++ rawX r t y x) ∧ Sep w wx [Res.row ov 3 1 acc.length (ic acc), Res.box bR 36 #[.int .i64 (wn : Int), .slice A hn c], Res.same lo w2.heap.size w2]) (fun _ xv _ => wn - (intOf xv).toNat)
          case atStart => exact ⟨0, acc, Nat.zero_le _, rfl, Lib.hid (by rw [HACC.out]; simp [rawX]), H⟩
          case round =>
            clear H HACC
            obtain ⟨x, acc, hx, rfl, HACC, H⟩ := hrel
            by_cases hltx : x < wn
            · have hltxi : (x : Int) < (wn : Int) := by omega
              have htl := HTL.out t (List.mem_of_getElem? HLA.out)
              obtain ⟨M, hM⟩ : ∃ M, M = moveS t x y := ⟨_, rfl⟩
              have hml : M.length ≤ 8 := by rw [hM, moveS_len]; exact htl
              have HMV : Hid (Calls Tryz.prog 152 #[.slice Ax t.length cx, .int .i64 x, .int .i64 y] wr.drew fun e w' => ∃ v', e = .returned v' ∧ CellsIn w' wr.drew.heap.size w'.heap.size v' M ∧ Below wr.drew.heap.size wr.drew w') := Lib.hid (by
                rw [hM]
                refine impl_moved_c (x : Int) (y : Int) wr.drew (HXR.out wr.drew (same_of H.drew.h2) ?_) (by omega) (fun c hc => ?_) ⟨by omega, by omega⟩ ⟨by omega, by omega⟩
                · have h1 := H.drew.h2.2 (by omega)
                  exact h1
                · obtain ⟨⟨a1, a2⟩, a3, a4⟩ := HTS.out t (List.mem_of_getElem? HLA.out) c hc
                  exact ⟨⟨by omega, by omega⟩, by omega, by omega⟩)
              have HMC : Hid (∀ w1 mv, Below w.heap.size w w1 → CellsRd w1 0 w1.heap.size mv M → Calls Tryz.prog 171 #[.agg #[.int .i64 (wn : Int), .slice A hn c], mv] w1 fun e w' => e = .returned (.tuple #[.int .i64 (mskN (maskS r M)), .bool (maskS r M).isSome]) ∧ Below w1.heap.size w1 w') := Lib.hid fun w1 mv b1 hm => by
                have := impl_maskCells_c w1 (HRD.out w1 b1) hm HV.out (by omega)
                rw [mskV_eq] at this
                exact this
              have HXS : Hid (rawX r t y (x + 1) = rawX r t y x ++ optI (maskS r M)) := Lib.hid (by rw [hM]; exact rawX_succ)
              have hnl : acc.length ≤ 1000 := by
                rw [HACC.out, List.length_append, List.length_append]
                have a1 := rawT_len HV.out (T.take k)
                have a2 := rawY_len (t := t) HV.out y
                have a3 := rawX_len (r := r) (t := t) (y := y) x
                rw [List.length_take] at a1
                omega
              obtain ⟨O, hO⟩ : ∃ O, O = maskS r M := ⟨_, rfl⟩
              rw [← hO] at HMC HXS
              have H1 := H.drew
              have hb1 := H1.below
              have c0 : wr.drew.cell? ⟨bR, 0, none⟩ = some (.int .i64 (wn : Int)) := H1.h1.cell 0
              have c1 : wr.drew.cell? ⟨bR, 1, none⟩ = some (.slice A hn c) := H1.h1.cell 1
              clear hM hO H
              go_wp2_with fail
              go_cut [10, 11] (fun mv okv wx => mv = .int .i64 (mskN O) ∧ okv = .bool O.isSome ∧ Sep w wx [Res.row u5 3 1 acc.length (ic acc), Res.box bR 36 #[.int .i64 (wn : Int), .slice A hn c], Res.same lo w2.heap.size w2])
              case first =>
                go_region_with (first
                  | (go_at_call 152; (with_reducible refine (HMV.out).mono ?_); rintro e w4 ⟨mv, rfl, o4, b4⟩; obtain ⟨Am, cm, rfl, _, _⟩ := o4.rd; have H4 := H1.step b4; have d0 : w4.cell? ⟨bR, 0, none⟩ = some (.int .i64 (wn : Int)) := H4.h1.cell 0; have d1 : w4.cell? ⟨bR, 1, none⟩ = some (.slice A hn c) := H4.h1.cell 1)
                  | (go_at_call 171; (with_reducible refine (HMC.out _ _ H4.below (o4.rd.more (Nat.zero_le _) (Nat.le_refl _))).mono ?_); rintro e w6 ⟨rfl, b6⟩))
                all_goals (go_wp2_with fail; go_meet; exact ⟨rfl, rfl, H4.step b6⟩)
              case rest =>
              obtain ⟨rfl, rfl, H7⟩ := hcut
              clear H1 hb1 c0 c1 HMV HMC
              generalize hwc : wc = w7 at *
              clear hwc
              cases O with
              | none =>
                have HACC2 : Hid (acc = rawT r (T.take k) ++ rawY r t y ++ rawX r t y (x + 1)) := Lib.hid (by rw [HACC.out, HXS.out]; simp [optI])
                have hso : (none : Option Nat).isSome = false := rfl
                rw [hso]
                clear hso
                go_wp2
                go_roundw
                case rel => exact ⟨x + 1, acc, by omega, by go_num, HACC2, H7⟩
                case measure => simp [intOf]; omega
              | some m =>
                have HACC2 : Hid (acc ++ [(m : Int)] = rawT r (T.take k) ++ rawY r t y ++ rawX r t y (x + 1)) := Lib.hid (by rw [HACC.out, HXS.out]; simp [optI])
                have hso : (some m : Option Nat).isSome = true := rfl
                have hmn : mskN (some m) = (m : Int) := rfl
                rw [hso, hmn]
                clear hso hmn
                go_wp2_with (at_builtin; refine wpList_app rfl _ _ 29 rfl 3 j0 _ 1 8 Tryz.underlying29 hj hy0 hy1 hy2 rfl (by decide) _ _ _ rfl (H7.alloc _) _ _ _ [.int .i64 (m : Int)] rfl (Rd.fresh w7 _ #[.int .i64 (m : Int)] 1 1 rfl) oc1 (by unfold maxLen; omega) (by omega) ?_; intro v8 w8 H8; clear H7)
                rw [show [Value.int .i64 (m : Int)] = ic [(m : Int)] from rfl, ← ic_append, show acc.length + 1 = (acc ++ [(m : Int)]).length by simp] at H8
                go_roundw
                case rel => exact ⟨x + 1, acc ++ [(m : Int)], by omega, by go_num, HACC2, H8⟩
                case measure => simp [intOf]; omega
            · obtain rfl : x = wn := by omega
              have HACC2 : Hid (acc = rawT r (T.take k) ++ rawY r t (y + 1)) := Lib.hid (by
                have : r.w.toNat = x := by rw [HW.out]; rfl
                rw [HACC.out, rawY_succ, this, List.append_assoc])
              go_wp2
              go_roundw
              case rel => exact ⟨y + 1, acc, by omega, by go_num, HACC2, H⟩
              case measure => simp [intOf]; omega
        · obtain rfl : y = hn := by omega
          have HACC2 : Hid (acc = rawT r (T.take (k + 1))) := Lib.hid (by rw [HACC.out, rawT_take HLA.out, HHN.out])
          go_wp2
          go_roundw
          case rel => exact ⟨k + 1, acc, by omega, by go_num, HACC2, H⟩
          case measure => simp [intOf]; omega
    · obtain rfl : k = T.length := by omega
      have hnl : acc.length ≤ 1000 := by
        rw [HACC.out, List.take_length]
        have a1 := rawT_len HV.out T
        omega
      have HOD := Lib.hid (impl_ordered_c wr (H.oi.sr.more (Nat.zero_le _) (Nat.le_refl _)) (by omega))
      have HP2 : Hid (srtU acc = plc r s) := Lib.hid (by rw [HPL.out, HACC.out, List.take_length])
      rw [HP2.out] at HOD
      obtain ⟨Au, cu, rfl, _, _, _⟩ := Res.row_at H.h0
      have hbw := H.below
      clear H
      go_wp2_with fail
      refine (HOD.out).mono ?_
      rintro e w6 ⟨v6, rfl, o6, b6⟩
      obtain ⟨A6, c6, rfl, _, _⟩ := o6.rd
      go_wp2
      go_ret
      exact ⟨_, rfl, OI.base o6 hbw.size (Nat.le_refl _), hbw.trans (b6.mono hbw.size)⟩
end Go.Proofs.YtjkppigjajknaaaGreatDoor
