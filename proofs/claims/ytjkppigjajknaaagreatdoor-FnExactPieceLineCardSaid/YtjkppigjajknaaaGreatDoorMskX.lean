
/-
  The cells of a mask, in plain Lean. No program in sight. The walks over regions: masks. The cells of a mask: the program's walk. The cells of a mask: the reference's walk.
-/
import Derived.Test.YtjkppigjajknaaaGreatDoorOriP
import Derived.Test.YtjkppigjajknaaaGreatDoorShpFG
import Derived.Test.YtjkppigjajknaaaGreatDoorRegX
import Derived.Test.YtjkppigjajknaaaGreatDoorMovI
namespace Go.Proofs.YtjkppigjajknaaaGreatDoor
open Go.RowKit

def bitCell (w k : Nat) : Cell := ⟨((k % w : Nat) : Int), ((k / w : Nat) : Int)⟩
/-- the cells of the first k bits -/
def cellsTo (w m : Nat) : Nat → List Cell
  | 0 => []
  | k + 1 => cellsTo w m k ++ if m.testBit k then [bitCell w k] else []
theorem cellsTo_t {w m k : Nat} (h : m.testBit k = true) : cellsTo w m (k + 1) = cellsTo w m k ++ [bitCell w k] := by rw [cellsTo, if_pos h]
theorem cellsTo_f {w m k : Nat} (h : m.testBit k = false) : cellsTo w m (k + 1) = cellsTo w m k := by rw [cellsTo, h]; simp
theorem cellsTo_le {w m : Nat} : ∀ k, (cellsTo w m k).length ≤ k
  | 0 => Nat.le_refl _
  | k + 1 => by
    have := cellsTo_le (w := w) (m := m) k
    rw [cellsTo, List.length_append]
    split <;> simp <;> omega
theorem cellsTo_high {w m k : Nat} (h : m < 2 ^ k) : ∀ d, cellsTo w m (k + d) = cellsTo w m k
  | 0 => rfl
  | d + 1 => by
    have e : m.testBit (k + d) = false := Nat.testBit_lt_two_pow (Nat.lt_of_lt_of_le h (Nat.pow_le_pow_right (by decide) (by omega)))
    rw [← Nat.add_assoc, cellsTo_f e, cellsTo_high h d]
theorem mem_cellsTo {w m : Nat} {c : Cell} : ∀ {k : Nat}, c ∈ cellsTo w m k ↔ ∃ i, i < k ∧ m.testBit i = true ∧ c = bitCell w i
  | 0 => by simp [cellsTo]
  | k + 1 => by
    rw [cellsTo, List.mem_append, mem_cellsTo]
    constructor
    · rintro (⟨i, h1, h2, h3⟩ | h)
      · exact ⟨i, by omega, h2, h3⟩
      · split at h
        · rename_i hb
          exact ⟨k, by omega, hb, by simpa using h⟩
        · simp at h
    · rintro ⟨i, h1, h2, h3⟩
      by_cases e : i = k
      · subst e; right; rw [if_pos h2]; simp [h3]
      · exact .inl ⟨i, by omega, h2, h3⟩
theorem bitCell_lt {w i j : Nat} (h : i < j) : befB (bitCell w i) (bitCell w j) = true := by
  rw [bef_iff]
  unfold bitCell
  simp only
  have h1 := Nat.div_add_mod i w
  have h2 := Nat.div_add_mod j w
  have h3 : i / w ≤ j / w := Nat.div_le_div_right (by omega)
  rcases Nat.lt_or_ge (i / w) (j / w) with h4 | h4
  · left; omega
  · right
    have e : i / w = j / w := by omega
    rw [e] at h1
    refine ⟨by omega, by omega⟩
theorem srt_cellsTo {w m : Nat} : ∀ k, Srt (cellsTo w m k)
  | 0 => List.Pairwise.nil
  | k + 1 => by
    unfold Srt
    rw [cellsTo, List.pairwise_append]
    refine ⟨srt_cellsTo k, by split <;> simp, fun a ha b hb => ?_⟩
    obtain ⟨i, h1, _, rfl⟩ := mem_cellsTo.1 ha
    split at hb
    · simp at hb; subst hb; exact bitCell_lt h1
    · simp at hb
theorem bitCell_on {w i : Nat} (hw : 1 ≤ w) (hw6 : w ≤ 6) {h : Nat} (hh : h ≤ 6) (hi : i < w * h) : On (bitCell w i) := by
  unfold On bitCell
  have h1 := Nat.mod_lt i (show 0 < w by omega)
  have h2 : i / w < h := Nat.div_lt_of_lt_mul hi
  generalize i % w = p at *
  generalize i / w = q at *
  refine ⟨⟨?_, ?_⟩, ?_, ?_⟩ <;> simp only <;> omega
/-- the cells of a mask on a board six by six or less -/
def cellsM (w m : Nat) : List Cell := cellsTo w m 36
theorem cellsM_at {w m k : Nat} (h : m < 2 ^ k) (hk : k ≤ 36) : cellsTo w m k = cellsM w m := by
  obtain ⟨d, rfl⟩ : ∃ d, 36 - k = d := ⟨_, rfl⟩
  have := cellsTo_high (w := w) h (36 - k)
  rw [show k + (36 - k) = 36 by omega] at this
  exact this.symm
theorem cellsM_on {w m h : Nat} (hw : 1 ≤ w) (hw6 : w ≤ 6) (hh : h ≤ 6) (hm : m < 2 ^ (w * h)) : ∀ c ∈ cellsM w m, On c := by
  intro c hc
  have hk : w * h ≤ 36 := by calc w * h ≤ 6 * 6 := Nat.mul_le_mul hw6 hh
    _ = 36 := rfl
  rw [← cellsM_at hm hk] at hc
  obtain ⟨i, hi, _, rfl⟩ := mem_cellsTo.1 hc
  exact bitCell_on hw hw6 hh hi
/-- a list in order, on the board: it is a shape if it has one to eight cells -/
theorem isShape_srt {s : List Cell} (h : Srt s) (hon : ∀ c ∈ s, On c) : isShape s = inR s.length 1 8 := by
  unfold isShape
  have h1 : (List.range s.length).all (okAt s) = true := by
    rw [List.all_eq_true]
    intro i hi
    rw [List.mem_range] at hi
    have hok : ∀ c ∈ s, okC c = true := fun c hc => by
      obtain ⟨⟨a1, a2⟩, a3, a4⟩ := hon c hc
      unfold okC
      rw [inR_t a1 a2, inR_t a3 a4]; rfl
    unfold okAt
    rw [List.getElem?_eq_getElem hi]
    simp only
    rw [hok _ (List.getElem_mem hi), Bool.true_and]
    by_cases h0 : i = 0
    · simp [h0]
    · have hb := List.pairwise_iff_getElem.1 h (i - 1) i (by omega) hi (by omega)
      rw [List.getElem?_eq_getElem (show i - 1 < s.length by omega)]
      simp [hb]
  rw [h1, Bool.true_and]
theorem inR8 (s : List Cell) : (inR s.length 1 8 && hangs s) = (decide (s.length ≤ 8) && hangs s) := by
  cases s with
  | nil => rw [hangs_nil, Bool.and_false, Bool.and_false]
  | cons a s =>
    have e : inR ((a :: s).length : Int) 1 8 = decide ((a :: s).length ≤ 8) := by
      unfold inR
      rw [Bool.eq_iff_iff]
      simp only [Bool.and_eq_true, decide_eq_true_eq, List.length_cons]
      omega
    rw [e]
theorem cellsM_conn {w m h : Nat} (hw : 1 ≤ w) (hw6 : w ≤ 6) (hh : h ≤ 6) (hm : m < 2 ^ (w * h)) : connS (cellsM w m) = (decide ((cellsM w m).length ≤ 8) && hangs (cellsM w m)) := by
  unfold connS
  rw [isShape_srt (s := cellsM w m) (srt_cellsTo 36) (cellsM_on hw hw6 hh hm)]
  exact inR8 _
end Go.Proofs.YtjkppigjajknaaaGreatDoor

namespace Go.Proofs.YtjkppigjajknaaaGreatDoor
open Go.RowKit

set_option maxRecDepth 100000 in
set_option maxHeartbeats 1600000 in
theorem impl_mask_c {v : Value} {r : Reg} (w : World) (h : RegRd w 0 w.heap.size v r) (hv : r.Valid) :
    Calls Tryz.prog 95 #[v] w fun e w' => e = .returned (.int .i64 (r.mask : Int)) ∧ Below w.heap.size w w' := by
  obtain ⟨s, rfl, hs⟩ := h
  obtain ⟨A, c, rfl, hm, hr⟩ := hs
  unfold maxLen at hm
  have hbel : Below w.heap.size w (w.alloc (.cells #[.int .i64 r.w, .slice A r.rows.length c] 36)) := (Below.refl _ _).alloc (Nat.le_refl _) _
  have hv4 := hv.2.2.2.1
  obtain ⟨wn, hwn⟩ : ∃ wn : Nat, r.w = (wn : Int) := ⟨r.w.toNat, by have := hv.1; omega⟩
  have hwn2 : r.w.toNat = wn := by omega
  have HV := Lib.hid hv
  have HW := Lib.hid hwn2
  rw [hwn] at hbel ⊢
  clear hv hwn hwn2
  go_enter Tryz.func95, Tryz.ntmps95
  go_wp2
  go_loop [3, 4, 5, 9] (fun m q p i => ∃ k : Nat, k ≤ r.rows.length ∧ i = .int .i64 k ∧ m = .int .i64 (r.maskTo k : Int)) (fun _ _ _ i => r.rows.length - (intOf i).toNat)
  case atStart => exact ⟨0, Nat.zero_le _, rfl, rfl⟩
  case round =>
    obtain ⟨k, hk, rfl, rfl⟩ := hrel
    by_cases hlt : k < r.rows.length
    · obtain ⟨b, off, a, rfl, _, hb, hla, q1⟩ := hr.at1 hlt
      obtain ⟨ea, hrow⟩ := Reg.row_of HV.out hla
      have e1 := Reg.maskTo_or HV.out k
      have b1 := Reg.maskTo_le HV.out (k := k) (by omega)
      have b2 := Reg.shl_le HV.out (k := k) (by omega)
      have b3 := Reg.kw_le HV.out (k := k) (by omega)
      rw [HW.out] at e1 b2 b3
      subst ea
      generalize r.row k = m at *
      have HE := Lib.hid e1
      clear hr hla e1 hrow
      have g0 : (0 : Int) ≤ (k : Int) * (wn : Int) := by exact_mod_cast Nat.zero_le _
      have g1 : (k : Int) * (wn : Int) ≤ 30 := by exact_mod_cast b3
      go_wp2
      go_round
      case rel => exact ⟨k + 1, by omega, by go_num, by rw [or_step (by omega) (by omega), HE.out]⟩
      case measure => simp [intOf]; omega
    · go_wp2
      go_ret
      have : k = r.rows.length := by omega
      subst this
      exact ⟨rfl, hbel⟩

set_option maxRecDepth 100000 in
set_option maxHeartbeats 1600000 in
theorem spec_mask_no {v : Value} {r : Reg} (w : World) (h : RegRd w 0 w.heap.size v r) (hv : ¬ r.Valid) :
    Calls Tryz.prog 79 #[v] w fun e w' => e = .returned (.int .i64 0) ∧ Below w.heap.size w w' := by
  obtain ⟨s, rfl, hs⟩ := h
  have hs0 := hs
  obtain ⟨A, c, rfl, hm, hr⟩ := hs
  unfold maxLen at hm
  have hbel : Below w.heap.size w (w.alloc (.cells #[.int .i64 r.w, .slice A r.rows.length c] 36)) := (Below.refl _ _).alloc (Nat.le_refl _) _
  have hf : r.valid = false := Reg.valid_not.2 hv
  clear hv
  by_cases hl : (0 : Int) < (r.rows.length : Int)
  · go_enter Tryz.func79, Tryz.ntmps79
    go_wp2
    refine wp_loop_rounds 1 ?_
    rw [rounds_succ]
    go_wp2_with fail
    refine (spec_IsRegion_c (r := r) _ ⟨_, rfl, ((hs0.keep (SameIn.of_below hbel (Nat.le_refl _))).more (Nat.le_refl _) (by simp))⟩).mono ?_
    rintro e w' ⟨rfl, hb⟩
    rw [hf]
    go_wp2
    go_ret
    exact ⟨rfl, hbel.trans (hb.mono hbel.size)⟩
  · go_enter Tryz.func79, Tryz.ntmps79
    go_wp2
    refine wp_loop_rounds 1 ?_
    rw [rounds_succ]
    go_wp2_with fail
    go_ret
    exact ⟨rfl, hbel⟩

set_option maxRecDepth 100000 in
set_option maxHeartbeats 1600000 in
theorem spec_mask_c {v : Value} {r : Reg} (w : World) (h : RegRd w 0 w.heap.size v r) (hv : r.Valid) :
    Calls Tryz.prog 79 #[v] w fun e w' => e = .returned (.int .i64 (r.mask : Int)) ∧ Below w.heap.size w w' := by
  obtain ⟨s, rfl, hs⟩ := h
  have hs0 := hs
  obtain ⟨A, c, rfl, hm, hr⟩ := hs
  unfold maxLen at hm
  have hbel : Below w.heap.size w (w.alloc (.cells #[.int .i64 r.w, .slice A r.rows.length c] 36)) := (Below.refl _ _).alloc (Nat.le_refl _) _
  have hv4 := hv.2.2.2.1
  have ht : r.valid = true := Reg.valid_iff.2 hv
  have HT := Lib.hid ht
  obtain ⟨wn, hwn⟩ : ∃ wn : Nat, r.w = (wn : Int) := ⟨r.w.toNat, by have := hv.1; omega⟩
  have hwn2 : r.w.toNat = wn := by omega
  have HV := Lib.hid hv
  have HW := Lib.hid hwn2
  have HN := Lib.hid hwn
  rw [hwn] at hbel ⊢
  clear hv hwn hwn2 ht
  go_enter Tryz.func79, Tryz.ntmps79
  go_wp2
  go_loopw [3, 4] (fun m i wr => ∃ k : Nat, k ≤ r.rows.length ∧ i = .int .i64 k ∧ m = .int .i64 (r.maskTo k : Int) ∧ Below w.heap.size w wr ∧ Blk wr w.heap.size 36 #[.int .i64 wn, .slice A r.rows.length c]) (fun _ i _ => r.rows.length - (intOf i).toNat)
  case atStart => exact ⟨0, Nat.zero_le _, rfl, rfl, hbel, Blk.new _ _ _⟩
  case round =>
    obtain ⟨k, hk, rfl, rfl, hbr, hblk⟩ := hrel
    have c0 := hblk.cell 0
    have c1 := hblk.cell 1
    simp at c0 c1
    have hsz := hbr.size
    by_cases hlt : k < r.rows.length
    · have HB := Lib.hid hblk
      clear hblk
      go_wp2_with fail
      refine (spec_IsRegion_c (r := r) _ ⟨_, by rw [HN.out], ((hs0.keep (SameIn.of_below hbr (Nat.le_refl _))).more (Nat.le_refl _) hsz)⟩).mono ?_
      rintro e w1 ⟨rfl, hb1⟩
      rw [HT.out]
      have hbr1 := hbr.trans (hb1.mono hsz)
      have hblk1 := HB.out.below hb1 HB.out.lt
      obtain ⟨b, off, a, rfl, _, hb, hla, q1⟩ := (hr.keep (SameIn.of_below hbr1 (Nat.le_refl _))).at1 hlt
      obtain ⟨ea, hrow⟩ := Reg.row_of HV.out hla
      have b1 := Reg.maskTo_le HV.out (k := k) (by omega)
      have b2 := Reg.shl_le HV.out (k := k) (by omega)
      have b3 := Reg.kw_le HV.out (k := k) (by omega)
      have b4 := Reg.maskTo_le HV.out (k := k + 1) (by omega)
      have e1 : r.maskTo (k + 1) = r.maskTo k + r.row k * 2 ^ (k * wn) := by rw [Reg.maskTo, HW.out]
      rw [e1] at b4
      rw [HW.out] at b2 b3
      subst ea
      generalize r.row k = m at *
      have HE := Lib.hid e1
      have HB1 := Lib.hid hblk1
      have c0 := hblk1.cell 0
      have c1 := hblk1.cell 1
      simp at c0 c1
      clear hr hla e1 hrow hblk1 hbel
      have g0 : (0 : Int) ≤ (k : Int) * (wn : Int) := by exact_mod_cast Nat.zero_le _
      have g1 : (k : Int) * (wn : Int) ≤ 30 := by exact_mod_cast b3
      have i0 : (0 : Int) ≤ (k : Int) := Int.natCast_nonneg _
      have i1 : (k : Int) < (r.rows.length : Int) := by omega
      go_wp2_with fail
      go_quiet (fail)
      go_wp2
      go_roundw
      case rel =>
        refine ⟨k + 1, by omega, by go_num, ?_, below_drewN hbr1 _, HB1.out⟩
        rw [shl_in (by omega), HE.out, IntWalk.wrap64_in _ ⟨by omega, by omega⟩]
        simp
      case measure => simp [intOf]; omega
    · go_wp2
      go_ret
      have : k = r.rows.length := by omega
      subst this
      exact ⟨rfl, hbr⟩

theorem isMask_step {a b : Nat} (ha : a < 9223372036854775808) (hb : b < 9223372036854775808) : (bits .andNot .i64 (a : Int) (b : Int) == 0) = (a &&& b == a) := by
  rw [i64_andNot_nat a b ha hb, Bool.eq_iff_iff]
  simp only [beq_iff_eq]
  rw [← andNot_zero a b (by omega) (by omega)]
  omega

set_option maxRecDepth 100000 in
set_option maxHeartbeats 1600000 in
theorem isMask_c {v : Value} {r : Reg} (n : Int) (w : World) (h : RegRd w 0 w.heap.size v r) (hv : r.Valid) (hn : n ≤ 9223372036854775807) :
    Calls Tryz.prog 177 #[v, .int .i64 n] w fun e w' => e = .returned (.bool (r.isMask n)) ∧ Below w.heap.size w w' := by
  obtain ⟨s, rfl, hs⟩ := h
  have hbel : Below w.heap.size w (w.alloc (.cells #[.int .i64 r.w, s] 36)) := (Below.refl _ _).alloc (Nat.le_refl _) _
  by_cases h0 : 0 ≤ n
  · obtain ⟨m, rfl⟩ := Int.eq_ofNat_of_zero_le h0
    have hml := Reg.mask_lt hv
    have hres : (bits .andNot .i64 (m : Int) (r.mask : Int) == 0) = r.isMask m := by rw [isMask_step (by omega) (by omega)]; simp [Reg.isMask]
    have HR := Lib.hid hres
    clear hres
    go_enter Tryz.func177, Tryz.ntmps177
    go_wp2_with fail
    refine (impl_mask_c _ ⟨_, rfl, ((hs.keep (SameIn.of_below hbel (Nat.le_refl _))).more (Nat.le_refl _) (by simp))⟩ hv).mono ?_
    rintro e w' ⟨rfl, hb⟩
    go_wp2
    go_ret
    exact ⟨by rw [← HR.out]; rfl, hbel.trans (hb.mono hbel.size)⟩
  · have hf : r.isMask n = false := by simp [Reg.isMask, h0]
    rw [hf]
    clear hf
    go_enter Tryz.func177, Tryz.ntmps177
    go_wp2_with fail
    go_ret
    exact ⟨rfl, hbel⟩

end Go.Proofs.YtjkppigjajknaaaGreatDoor

namespace Go.Proofs.YtjkppigjajknaaaGreatDoor
open Go.RowKit

theorem shr_zero {m k : Nat} : ((m : Int) / 2 ^ k = 0) ↔ m < 2 ^ k := by
  have e1 : ((m : Int) / 2 ^ k) = ((m / 2 ^ k : Nat) : Int) := by simp
  rw [e1]
  have hp : 0 < 2 ^ k := Nat.pow_pos (by decide)
  constructor
  · intro h
    have h : m / 2 ^ k = 0 := by exact_mod_cast h
    rcases (Nat.div_eq_zero_iff).1 h with h | h
    · omega
    · exact h
  · intro h
    have : m / 2 ^ k = 0 := Nat.div_eq_of_lt h
    rw [this]; rfl
theorem bitCell_wrap {w k : Nat} (hk : k ≤ 1000000) : IntKind.i64.wrap (bitCell w k).y = (bitCell w k).y := by
  have h := Nat.div_le_self k w
  have e : (bitCell w k).y = ((k / w : Nat) : Int) := rfl
  rw [e]
  generalize k / w = q at *
  exact IntWalk.i64_in _ (by omega)
set_option maxRecDepth 100000 in
set_option maxHeartbeats 1600000 in
theorem impl_places_c {wn m : Nat} (w : World) (hw : 1 ≤ wn) (hw6 : wn ≤ 6) (hm : m < 2 ^ 36) :
    Calls Tryz.prog 175 #[.int .i64 wn, .int .i64 m] w fun e w' => ∃ v', e = .returned v' ∧ CellsIn w' w.heap.size w'.heap.size v' (cellsM wn m) ∧ Below w.heap.size w w' := by
  obtain ⟨i0, hi, hz0, hz1, hz2⟩ := info_parts infoCellI
  have H0 := (Sep.start w).nil 49 2
  have HM := Lib.hid hm
  clear hm
  go_enter Tryz.func175, Tryz.ntmps175
  go_wp2
  go_loopw [5, 6] (fun ov kv wx => ∃ (k n : Nat), k ≤ 36 ∧ kv = .int .i64 k ∧ n ≤ k ∧ Hid (n = (cellsTo wn m k).length) ∧ Sep w wx [Res.row ov 49 2 n (cc (cellsTo wn m k))]) (fun _ kv _ => 37 - (intOf kv).toNat)
  case atStart => exact ⟨0, 0, by omega, rfl, Nat.le_refl _, Lib.hid rfl, H0⟩
  case round =>
    clear H0
    obtain ⟨k, n, hk, rfl, hnk, HN, H⟩ := hrel
    by_cases hz : (m : Int) / 2 ^ k = 0
    · have hzd : ((m : Int) / 2 ^ k == 0) = true := by rw [hz]; rfl
      have HE : Hid (cellsTo wn m k = cellsM wn m) := Lib.hid (cellsM_at (shr_zero.1 hz) hk)
      clear hz
      go_wp2
      go_ret
      refine ⟨_, rfl, ?_, H.below⟩
      rw [← HE.out]
      unfold CellsIn
      rw [← HN.out]
      exact H.oi
    · have hzd : ((m : Int) / 2 ^ k == 0) = false := by simpa using hz
      have hk35 : k < 36 := by
        rcases Nat.lt_or_ge k 36 with h | h
        · exact h
        · obtain rfl : k = 36 := by omega
          exact absurd (shr_zero.2 HM.out) hz
      have hbit := bit_test (m := m) (x := k) (by have := HM.out; omega)
      clear hz
      have hwz : ¬ wn = 0 := by omega
      cases hb : m.testBit k
      · rw [hb] at hbit
        have HC : Hid (cellsTo wn m (k + 1) = cellsTo wn m k) := Lib.hid (cellsTo_f hb)
        clear hb
        go_wp2
        go_roundw
        case rel => exact ⟨k + 1, n, by omega, by go_num, by omega, by rw [HC.out]; exact HN, by rw [HC.out]; exact H⟩
        case measure => simp [intOf]; omega
      · rw [hb] at hbit
        have HC : Hid (cellsTo wn m (k + 1) = cellsTo wn m k ++ [bitCell wn k]) := Lib.hid (cellsTo_t hb)
        clear hb
        have q1 : (k : Int).tmod (wn : Int) = (bitCell wn k).x := by show _ = ((k % wn : Nat) : Int); rw [Int.ofNat_tmod]
        have q2 : (k : Int).tdiv (wn : Int) = (bitCell wn k).y := by show _ = ((k / wn : Nat) : Int); rw [Int.ofNat_tdiv]
        have q3 : IntKind.i64.wrap (bitCell wn k).y = (bitCell wn k).y := bitCell_wrap (by omega)
        have HA := (H.rowBox 49 #[.int .i64 (bitCell wn k).x, .int .i64 (bitCell wn k).y] 2 1 rfl (by decide)).g1.drew
        have HT := own_take (k := 1) HA.h1 (Nat.le_refl _)
        go_wp2_with fail
        go_region_law (first
          | (refine step_app rfl (.tmp 18) (.tmp 26) 25 (by rfl) 49 i0 _ 2 16 Tryz.underlying25 hi hz0 hz1 hz2 rfl (by decide) _ _ _ (by rfl) HA _ _ _ [.int .i64 (bitCell wn k).x, .int .i64 (bitCell wn k).y] (by rfl) HT oc2 (by unfold maxLen; omega) (by omega) ?_; intro v2 w2 H2))
        have H3 : Sep w w2 [Res.row v2 49 2 (n + 1) (cc (cellsTo wn m (k + 1)))] := by rw [HC.out, cc_append]; exact H2.drop2
        have HN2 : Hid (n + 1 = (cellsTo wn m (k + 1)).length) := Lib.hid (by rw [HC.out, List.length_append, HN.out]; rfl)
        clear H2
        go_wp2
        go_roundw
        case rel => exact ⟨k + 1, n + 1, by omega, by go_num, by omega, HN2, H3⟩
        case measure => simp [intOf]; omega
end Go.Proofs.YtjkppigjajknaaaGreatDoor

namespace Go.Proofs.YtjkppigjajknaaaGreatDoor
open Go.RowKit

/-- a mask's cells on a region -/
def Reg.cellsOf (r : Reg) (n : Int) : List Cell := if r.isMask n then cellsM r.w.toNat n.toNat else []
theorem isMask_lt {r : Reg} {n : Int} (h : r.isMask n = true) (hv : r.Valid) : n.toNat < 2 ^ (r.w.toNat * r.rows.length) ∧ 0 ≤ n := by
  unfold Reg.isMask at h
  rw [Bool.and_eq_true, decide_eq_true_eq, beq_iff_eq] at h
  have h1 : n.toNat ≤ r.mask := by rw [← h.2]; exact Nat.and_le_right
  have h2 := Reg.maskTo_lt hv r.rows.length
  rw [Nat.mul_comm] at h2
  exact ⟨Nat.lt_of_le_of_lt h1 h2, h.1⟩
set_option maxRecDepth 100000 in
set_option maxHeartbeats 1600000 in
theorem spec_cellsOf_c {v : Value} {r : Reg} (n : Int) (w : World) (h : RegRd w 0 w.heap.size v r) (hv : r.Valid) (hn : -9223372036854775808 ≤ n ∧ n ≤ 9223372036854775807) :
    Calls Tryz.prog 196 #[v, .int .i64 n] w fun e w' => ∃ v', e = .returned v' ∧ CellsIn w' w.heap.size w'.heap.size v' (r.cellsOf n) ∧ Below w.heap.size w w' := by
  obtain ⟨i0, hi, hz0, hz1, hz2⟩ := info_parts infoCellS
  have HSR : Hid (∀ w1, Below w.heap.size w w1 → Calls Tryz.prog 39 #[v] w1 fun e w' => e = .returned (.bool true) ∧ Below w1.heap.size w1 w') := Lib.hid fun w1 b1 => by
    rw [← Reg.valid_iff.2 hv]
    exact spec_IsRegion_c w1 ((h.keep (SameIn.of_below b1 (Nat.le_refl _))).more (Nat.le_refl _) b1.size)
  have HMK : Hid (∀ w1, Below w.heap.size w w1 → Calls Tryz.prog 79 #[v] w1 fun e w' => e = .returned (.int .i64 (r.mask : Int)) ∧ Below w1.heap.size w1 w') := Lib.hid fun w1 b1 =>
    spec_mask_c w1 ((h.keep (SameIn.of_below b1 (Nat.le_refl _))).more (Nat.le_refl _) b1.size) hv
  obtain ⟨s, rfl, hs⟩ := h
  obtain ⟨A, c, rfl, hm, hr⟩ := id hs
  have H0 := ((Sep.start w).box 36 #[.int .i64 r.w, .slice A r.rows.length c]).rowBox 49 #[] 2 0 rfl (by decide)
  simp only [World.size_alloc] at H0
  obtain ⟨bR, hbR⟩ : ∃ bR, bR = w.heap.size := ⟨_, rfl⟩
  rw [← hbR] at H0
  obtain ⟨R, hR⟩ : ∃ R, R = r.cellsOf n := ⟨_, rfl⟩
  rw [← hR]
  have HR := Lib.hid hR
  have HV := Lib.hid hv
  clear hr hs hR
  go_enter Tryz.func196, Tryz.ntmps196
  go_upto_region 2 with fail
  rw [← hbR]
  generalize (w.alloc (.cells #[.int .i64 r.w, .slice A r.rows.length c] 36)).alloc (.cells #[] 49) = W at *
  clear hbR
  have c0 : W.cell? ⟨bR, 0, none⟩ = some (.int .i64 r.w) := H0.h1.cell 0
  have c1 : W.cell? ⟨bR, 1, none⟩ = some (.slice A r.rows.length c) := H0.h1.cell 1
  have HI := Lib.hid (HSR.out W H0.below)
  go_wp2_with fail
  refine (HI.out).mono ?_
  rintro e w1 ⟨rfl, b1⟩
  have H1 := H0.step b1
  clear H0 HI b1 c0 c1
  by_cases hneg : n < 0
  · obtain rfl : R = [] := by rw [HR.out]; unfold Reg.cellsOf Reg.isMask; rw [decide_eq_false (by omega)]; rfl
    have hd : decide (n < 0) = true := decide_eq_true hneg
    go_wp2
    go_ret
    exact ⟨_, rfl, CellsIn.mk H1.oi.1 rfl rfl, H1.below⟩
  · have hd : decide (n < 0) = false := decide_eq_false hneg
    obtain ⟨m, rfl⟩ := Int.eq_ofNat_of_zero_le (show 0 ≤ n by omega)
    have hml := Reg.mask_lt HV.out
    have c0 : w1.cell? ⟨bR, 0, none⟩ = some (.int .i64 r.w) := H1.h1.cell 0
    have c1 : w1.cell? ⟨bR, 1, none⟩ = some (.slice A r.rows.length c) := H1.h1.cell 1
    have HI := Lib.hid (HMK.out w1 H1.below)
    go_wp2_with fail
    refine (HI.out).mono ?_
    rintro e w2 ⟨rfl, b2⟩
    have H2 := H1.step b2
    clear H1 HI b2 c0 c1
    have hand := i64_and_nat m r.mask (by omega) (by omega)
    have hma : r.isMask (m : Int) = (m &&& r.mask == m) := by simp [Reg.isMask]
    by_cases hmm : m &&& r.mask = m
    · have hmt : r.isMask (m : Int) = true := by rw [hma, hmm]; simp
      have hlt := (isMask_lt hmt HV.out).1
      have HL : Hid (m < 2 ^ (r.w.toNat * r.rows.length)) := Lib.hid hlt
      have HRC : Hid (R = cellsM r.w.toNat m) := Lib.hid (by rw [HR.out]; unfold Reg.cellsOf; rw [hmt]; rfl)
      rw [hmm] at hand
      obtain ⟨hv1, hv2, hv3, hv4, _⟩ := HV.out
      obtain ⟨wn, hwn⟩ : ∃ wn : Nat, wn = r.w.toNat := ⟨_, rfl⟩
      have hwr : r.w = (wn : Int) := by omega
      rw [← hwn] at HL HRC
      have hw1 : 1 ≤ wn := by omega
      have hw6 : wn ≤ 6 := by omega
      have hwl : wn * r.rows.length ≤ 36 := by calc wn * r.rows.length ≤ 6 * 6 := Nat.mul_le_mul hw6 hv4
        _ = 36 := rfl
      obtain ⟨T, hT⟩ : ∃ T, T = wn * r.rows.length := ⟨_, rfl⟩
      have hTi : (wn : Int) * (r.rows.length : Int) = (T : Int) := by rw [hT]; simp
      have hTw : IntKind.i64.wrap (T : Int) = (T : Int) := IntWalk.i64_in _ (by omega)
      rw [← hT] at hwl HL
      rw [hwr] at H2
      have hwz : ¬ wn = 0 := by omega
      clear hma hmm hmt hlt hwn hwr hT hv1 hv2 hv3 hv4 hwz hneg
      go_wp2
      clear hd hand
      go_loopw [5, 6] (fun ov kv wx => ∃ (k n : Nat), k ≤ T ∧ kv = .int .i64 k ∧ n ≤ k ∧ Hid (n = (cellsTo wn m k).length) ∧ Sep w wx [Res.row ov 49 2 n (cc (cellsTo wn m k)), Res.box bR 36 #[.int .i64 wn, .slice A r.rows.length c]]) (fun _ kv _ => T - (intOf kv).toNat)
      case atStart => exact ⟨0, 0, by omega, rfl, Nat.le_refl _, Lib.hid rfl, H2⟩
      case round =>
        clear H2
        obtain ⟨k, n, hk, rfl, hnk, HN, H⟩ := hrel
        have c0 : wr.cell? ⟨bR, 0, none⟩ = some (.int .i64 wn) := H.h1.cell 0
        have c1 : wr.cell? ⟨bR, 1, none⟩ = some (.slice A r.rows.length c) := H.h1.cell 1
        by_cases hkT : k < T
        · have hkd : decide ((k : Int) < (T : Int)) = true := decide_eq_true (by omega)
          have hbit := bit_test (m := m) (x := k) (by omega)
          have hwz : ¬ wn = 0 := by omega
          cases hb : m.testBit k
          · rw [hb] at hbit
            have HC : Hid (cellsTo wn m (k + 1) = cellsTo wn m k) := Lib.hid (cellsTo_f hb)
            clear hb
            go_wp2
            go_roundw
            case rel => exact ⟨k + 1, n, by omega, by go_num, by omega, by rw [HC.out]; exact HN, by rw [HC.out]; exact H⟩
            case measure => simp [intOf]; omega
          · rw [hb] at hbit
            have HC : Hid (cellsTo wn m (k + 1) = cellsTo wn m k ++ [bitCell wn k]) := Lib.hid (cellsTo_t hb)
            clear hb
            have q1 : (k : Int).tmod (wn : Int) = (bitCell wn k).x := by show _ = ((k % wn : Nat) : Int); rw [Int.ofNat_tmod]
            have q2 : (k : Int).tdiv (wn : Int) = (bitCell wn k).y := by show _ = ((k / wn : Nat) : Int); rw [Int.ofNat_tdiv]
            have q3 : IntKind.i64.wrap (bitCell wn k).y = (bitCell wn k).y := bitCell_wrap (by omega)
            have HA := (H.rowBox 49 #[.int .i64 (bitCell wn k).x, .int .i64 (bitCell wn k).y] 2 1 rfl (by decide)).g1.drew
            have HT := own_take (k := 1) HA.h1 (Nat.le_refl _)
            have d0 : wr.drew.cell? ⟨bR, 0, none⟩ = some (.int .i64 wn) := H.drew.h1.cell 0
            have d1 : (wr.alloc (.cells #[.int .i64 (bitCell wn k).x, .int .i64 (bitCell wn k).y] 49)).drew.cell? ⟨bR, 0, none⟩ = some (.int .i64 wn) := HA.h2.cell 0
            go_wp2_with fail
            go_region_law (first
              | (refine step_app rfl (.tmp 39) (.tmp 49) 25 (by rfl) 49 i0 _ 2 16 Tryz.underlying25 hi hz0 hz1 hz2 rfl (by decide) _ _ _ (by rfl) HA _ _ _ [.int .i64 (bitCell wn k).x, .int .i64 (bitCell wn k).y] (by rfl) HT oc2 (by unfold maxLen; omega) (by omega) ?_; intro v2 w2 H2))
            all_goals
              have H3 : Sep w w2 [Res.row v2 49 2 (n + 1) (cc (cellsTo wn m (k + 1))), Res.box bR 36 #[.int .i64 wn, .slice A r.rows.length c]] := by rw [HC.out, cc_append]; exact H2.drop2
              have HN2 : Hid (n + 1 = (cellsTo wn m (k + 1)).length) := Lib.hid (by rw [HC.out, List.length_append, HN.out]; rfl)
              clear H2 HA HT H c0 c1 d0 d1
              go_wp2
              go_roundw
              case rel => exact ⟨k + 1, n + 1, by omega, by go_num, by omega, HN2, H3⟩
              case measure => simp [intOf]; omega
        · obtain rfl : k = T := by omega
          have hkd : decide ((k : Int) < (k : Int)) = false := by simp
          have HE : Hid (R = cellsTo wn m k) := Lib.hid (by rw [HRC.out, cellsM_at HL.out hwl])
          go_wp2
          go_ret
          refine ⟨_, rfl, ?_, H.below⟩
          rw [HE.out]
          unfold CellsIn
          rw [← HN.out]
          exact H.oi
    · obtain rfl : R = [] := by rw [HR.out]; unfold Reg.cellsOf; rw [hma, beq_false_of_ne hmm]; rfl
      have hne : (((m &&& r.mask : Nat) : Int) == (m : Int)) = false := by simpa using fun h => hmm (by exact_mod_cast h)
      clear hma hmm
      go_wp2
      go_ret
      exact ⟨_, rfl, CellsIn.mk H2.oi.1 rfl rfl, H2.below⟩
end Go.Proofs.YtjkppigjajknaaaGreatDoor
