
/-
  Wang tiles: their text: the walks of both sides.
-/
import Derived.Test.YtjoglffhdoneoaaGreatDoorWangA
import Derived.Test.YtjoglffhdoneoaaGreatDoorFmtDig
import Derived.Test.YtjoglffhdoneoaaGreatDoorNumT
import Derived.Test.YtjoglffhdoneoaaGreatDoorPutX
import Derived.Deep.DeepCutAuto
namespace Go.Proofs.YtjoglffhdoneoaaGreatDoor
open Go.RowKit

def tileB (t : Wg) : ByteArray := dgt t.top ++ dgt t.right ++ dgt t.bottom ++ dgt t.left
theorem tileB_size {t : Wg} : (tileB t).size = 4 := by simp [tileB, ByteArray.size_append, dgt_size]
def tilesTo (l : List Wg) (k : Nat) : ByteArray := joinB spaceB ((l.take k).map tileB)
theorem ba_asc (a b c : ByteArray) : a ++ b ++ c = a ++ (b ++ c) := ByteArray.append_assoc
theorem tilesTo_succ {l : List Wg} {k : Nat} {t : Wg} (h : l[k]? = some t) : tilesTo l (k + 1) = (if 0 < k then tilesTo l k ++ ⟨#[32]⟩ else tilesTo l k) ++ dgt t.top ++ dgt t.right ++ dgt t.bottom ++ dgt t.left := by
  obtain ⟨hk, rfl⟩ := List.getElem?_eq_some_iff.1 h
  unfold tilesTo
  rw [List.take_succ_eq_append_getElem hk, List.map_append, List.map_cons, List.map_nil]
  split
  · rename_i h0
    rw [joinB_snoc _ _ _ (fun e => by
      have := congrArg List.length e
      rw [List.length_map, List.length_take] at this
      simp only [List.length_nil] at this
      omega)]
    simp only [tileB, ba_asc]
    rfl
  · obtain rfl : k = 0 := by omega
    rw [List.take_zero, List.map_nil, List.nil_append, joinB_one, joinB_nil]
    simp only [tileB, ba_asc]
    rw [ba_nil]
theorem tilesTo_size {l : List Wg} {k : Nat} (hk : k ≤ l.length) : (tilesTo l k).size ≤ k * 5 := by
  have := joinB_size (s := spaceB) (b := 4) (l := (l.take k).map tileB) (by
    intro x hx
    obtain ⟨n, _, rfl⟩ := List.mem_map.1 hx
    rw [tileB_size]; exact Nat.le_refl _)
  rw [List.length_map, List.length_take, Nat.min_eq_left hk] at this
  exact this
theorem areW_at {l : List Wg} {k : Nat} {t : Wg} (h : areW l = true) (hk : l[k]? = some t) : (0 ≤ t.top ∧ t.top ≤ 3) ∧ (0 ≤ t.right ∧ t.right ≤ 3) ∧ (0 ≤ t.bottom ∧ t.bottom ≤ 3) ∧ (0 ≤ t.left ∧ t.left ≤ 3) := by
  unfold areW at h
  rw [Bool.and_eq_true, List.all_eq_true] at h
  have h2 := h.1 t (List.mem_of_getElem? hk)
  unfold okT at h2
  simp only [Bool.and_eq_true] at h2
  exact ⟨inW_iff.1 h2.1.1.1, inW_iff.1 h2.1.1.2, inW_iff.1 h2.1.2, inW_iff.1 h2.2⟩

set_option maxRecDepth 100000 in
set_option maxHeartbeats 3200000 in
theorem spec_fmtW_c {v : Value} {l : List Wg} (w : World) (hl0 : WangsRd w 0 w.heap.size v l) (hA : areW l = true) (hl1 : 1 ≤ l.length) (hl6 : l.length ≤ 6) :
    Calls Tryz.prog 45 #[v] w fun e w' => e = .returned (.string (tilesTo l l.length)) ∧ Below w.heap.size w w' := by
  have HL0 := Lib.hid hl0
  have HA := Lib.hid hA
  obtain ⟨A, c, rfl, hm, hr⟩ := id hl0
  obtain ⟨b, off, hA', hb, htile⟩ := hr.shapeT (by omega)
  subst hA'
  have HTL := Lib.hid htile
  clear hl0 hA hr htile hm
  go_enter Tryz.func45, Tryz.ntmps45
  go_wp2
  go_loopw [3, 4] (fun s i wr => ∃ k : Nat, k ≤ l.length ∧ i = .int .i64 k ∧ s = .string (tilesTo l k) ∧ Below w.heap.size w wr) (fun _ i _ => l.length - (intOf i).toNat)
  case atStart => exact ⟨0, Nat.zero_le _, rfl, rfl, Below.refl _ _⟩
  case round =>
    obtain ⟨k, hk, rfl, rfl, hbel⟩ := hrel
    by_cases hlt : k < l.length
    · obtain ⟨t, hlk, a1, a2, a3, a4⟩ := HTL.out k hlt
      obtain ⟨⟨d1, e1⟩, ⟨d2, e2⟩, ⟨d3, e3⟩, ⟨d4, e4⟩⟩ := areW_at HA.out hlk
      have HST := Lib.hid (tilesTo_succ hlk)
      have hs := tilesTo_size (l := l) hk
      have hs1 : (tilesTo l k).size ≤ 30 := by omega
      have hs2 : (tilesTo l k ++ (⟨#[32]⟩ : ByteArray)).size ≤ 31 := by rw [ByteArray.size_append]; have : (⟨#[32]⟩ : ByteArray).size = 1 := rfl; omega
      have z1 : (dgt t.top).size ≤ 1 := Nat.le_refl _
      have z2 : (dgt t.right).size ≤ 1 := Nat.le_refl _
      have z3 : (dgt t.bottom).size ≤ 1 := Nat.le_refl _
      have z4 : (dgt t.left).size ≤ 1 := Nat.le_refl _
      clear hlk hs
      by_cases hk0 : 0 < k
      · have hdk : decide ((0 : Int) < (k : Int)) = true := by simp; omega
        go_wp2_with fail
        refine (spec_areW_c (l := l) wr ((HL0.out.keep (SameIn.of_below hbel (Nat.le_refl _))).more (Nat.le_refl _) hbel.size)).mono ?_
        rintro e w1 ⟨rfl, b1⟩
        rw [HA.out]
        have hb1 := hbel.trans (b1.mono hbel.size)
        replace a1 := (hb1.cell (p := ⟨b, off + k * 4, none⟩) hb).trans a1
        replace a2 := (hb1.cell (p := ⟨b, off + k * 4 + 1, none⟩) hb).trans a2
        replace a3 := (hb1.cell (p := ⟨b, off + k * 4 + 2, none⟩) hb).trans a3
        replace a4 := (hb1.cell (p := ⟨b, off + k * 4 + 3, none⟩) hb).trans a4
        have hb' : b < w1.heap.size := by have := hb1.size; omega
        have l1 := Later.cell a1 hb'
        have l2 := Later.cell a2 hb'
        have l3 := Later.cell a3 hb'
        have l4 := Later.cell a4 hb'
        clear a1 a2 a3 a4 b1 hbel
        go_wp2_with fail
        refine wp_region_later (by kernel_rfl) (by kernel_rfl) ?_
        repeat (go_big_quiet_step ((go_at_call 47; exact Later.call (spec_dig_c _ _ (by omega) (by omega)))))
        refine wpQuiet_nil ?_
        intro w3 hw3
        obtain ⟨u3, hu3⟩ := hw3
        subst hu3
        have hb3 := hb1.trans (u3.h.mono hb1.size)
        clear l1 l2 l3 l4 hb1
        generalize u3.w = w3 at *
        go_wp2
        go_roundw
        case rel => exact ⟨k + 1, by omega, by go_num, by rw [HST.out, if_pos hk0], hb3⟩
        case measure => simp [intOf]; omega
      · have hdk : decide ((0 : Int) < (k : Int)) = false := by simp; omega
        go_wp2_with fail
        refine (spec_areW_c (l := l) wr ((HL0.out.keep (SameIn.of_below hbel (Nat.le_refl _))).more (Nat.le_refl _) hbel.size)).mono ?_
        rintro e w1 ⟨rfl, b1⟩
        rw [HA.out]
        have hb1 := hbel.trans (b1.mono hbel.size)
        replace a1 := (hb1.cell (p := ⟨b, off + k * 4, none⟩) hb).trans a1
        replace a2 := (hb1.cell (p := ⟨b, off + k * 4 + 1, none⟩) hb).trans a2
        replace a3 := (hb1.cell (p := ⟨b, off + k * 4 + 2, none⟩) hb).trans a3
        replace a4 := (hb1.cell (p := ⟨b, off + k * 4 + 3, none⟩) hb).trans a4
        have hb' : b < w1.heap.size := by have := hb1.size; omega
        have l1 := Later.cell a1 hb'
        have l2 := Later.cell a2 hb'
        have l3 := Later.cell a3 hb'
        have l4 := Later.cell a4 hb'
        clear a1 a2 a3 a4 b1 hbel
        go_wp2_with fail
        refine wp_region_later (by kernel_rfl) (by kernel_rfl) ?_
        repeat (go_big_quiet_step ((go_at_call 47; exact Later.call (spec_dig_c _ _ (by omega) (by omega)))))
        refine wpQuiet_nil ?_
        intro w3 hw3
        obtain ⟨u3, hu3⟩ := hw3
        subst hu3
        have hb3 := hb1.trans (u3.h.mono hb1.size)
        clear l1 l2 l3 l4 hb1
        generalize u3.w = w3 at *
        go_wp2
        go_roundw
        case rel => exact ⟨k + 1, by omega, by go_num, by rw [HST.out, if_neg hk0], hb3⟩
        case measure => simp [intOf]; omega
    · obtain rfl : k = l.length := by omega
      go_wp2
      go_ret
      exact ⟨rfl, hbel⟩
set_option maxRecDepth 100000 in
set_option maxHeartbeats 3200000 in
theorem impl_fmtW_c {v : Value} {l : List Wg} (w : World) (hl0 : WangsRd w 0 w.heap.size v l) (hA : areW l = true) (hl1 : 1 ≤ l.length) (hl6 : l.length ≤ 6) :
    Calls Tryz.prog 58 #[v] w fun e w' => e = .returned (.string (tilesTo l l.length)) ∧ Below w.heap.size w w' := by
  obtain ⟨i0, hi, hz0, hz1, hz2⟩ := info_parts infoStr
  have HL0 := Lib.hid hl0
  have HA := Lib.hid hA
  obtain ⟨A, c, rfl, hm, hr⟩ := id hl0
  obtain ⟨b, off, hA', hb, htile⟩ := hr.shapeT (by omega)
  subst hA'
  have HTL := Lib.hid htile
  clear hl0 hA hr htile hm
  go_enter Tryz.func58, Tryz.ntmps58
  go_wp2_with fail
  refine (impl_areW_c (l := l) w HL0.out).mono ?_
  rintro e w1 ⟨rfl, b1⟩
  rw [HA.out]
  have H0 := ((Sep.start w).step b1).nil 9 1
  clear b1
  go_wp2
  go_loopw [3, 11] (fun p i wr => ∃ k : Nat, k ≤ l.length ∧ i = .int .i64 k ∧ Sep w wr [Res.row p 9 1 k (sc ((l.take k).map tileB))]) (fun _ i _ => l.length - (intOf i).toNat)
  case atStart => exact ⟨0, Nat.zero_le _, rfl, H0⟩
  case round =>
    clear H0
    obtain ⟨k, hk, rfl, H⟩ := hrel
    by_cases hlt : k < l.length
    · obtain ⟨t, hlk, a1, a2, a3, a4⟩ := HTL.out k hlt
      obtain ⟨⟨d1, e1⟩, ⟨d2, e2⟩, ⟨d3, e3⟩, ⟨d4, e4⟩⟩ := areW_at HA.out hlk
      have hbel := H.below
      replace a1 := (hbel.cell (p := ⟨b, off + k * 4, none⟩) hb).trans a1
      replace a2 := (hbel.cell (p := ⟨b, off + k * 4 + 1, none⟩) hb).trans a2
      replace a3 := (hbel.cell (p := ⟨b, off + k * 4 + 2, none⟩) hb).trans a3
      replace a4 := (hbel.cell (p := ⟨b, off + k * 4 + 3, none⟩) hb).trans a4
      have hx : sc ((l.take k).map tileB) ++ [Value.string (tileB t)] = sc ((l.take (k + 1)).map tileB) := by
        rw [List.take_succ_eq_append_getElem hlt, List.map_append, sc_append, (List.getElem?_eq_some_iff.1 hlk).2]
        rfl
      have HX := Lib.hid hx
      have z1 : (dgt t.top).size ≤ 1 := Nat.le_refl _
      have z2 : (dgt t.right).size ≤ 1 := Nat.le_refl _
      have z3 : (dgt t.bottom).size ≤ 1 := Nat.le_refl _
      have z4 : (dgt t.left).size ≤ 1 := Nat.le_refl _
      have H2 := H.box 105 #[.int .i64 t.top, .int .i64 t.right, .int .i64 t.bottom, .int .i64 t.left]
      clear hlk hx H hbel
      go_upto_region 7 with fail
      generalize wr.alloc (.cells #[.int .i64 t.top, .int .i64 t.right, .int .i64 t.bottom, .int .i64 t.left] 105) = W at *
      obtain ⟨g, hg⟩ : ∃ g, g = wr.heap.size := ⟨_, rfl⟩
      rw [← hg] at H2 ⊢
      have k1 : W.cell? ⟨g, 0, none⟩ = some (.int .i64 t.top) := H2.h0.cell 0
      have k2 : W.cell? ⟨g, 1, none⟩ = some (.int .i64 t.right) := H2.h0.cell 1
      have k3 : W.cell? ⟨g, 2, none⟩ = some (.int .i64 t.bottom) := H2.h0.cell 2
      have k4 : W.cell? ⟨g, 3, none⟩ = some (.int .i64 t.left) := H2.h0.cell 3
      have H3 := H2.g1.drew
      have y1 : ¬ 9223372036854775807 < (dgt t.top).size + (dgt t.right).size := by omega
      have y2 : ¬ 9223372036854775807 < (dgt t.top).size + (dgt t.right).size + (dgt t.bottom).size := by omega
      have y3 : ¬ 9223372036854775807 < (dgt t.top).size + (dgt t.right).size + (dgt t.bottom).size + (dgt t.left).size := by omega
      clear a1 a2 a3 a4 H2 hg
      go_region_held3 (fun w' => w'.cell? ⟨g, 0, none⟩ = some (.int .i64 t.top) ∧ w'.cell? ⟨g, 1, none⟩ = some (.int .i64 t.right) ∧ w'.cell? ⟨g, 2, none⟩ = some (.int .i64 t.bottom) ∧ w'.cell? ⟨g, 3, none⟩ = some (.int .i64 t.left))
        (first
          | go_keep
          | exact ⟨H4.h1.cell 0, H4.h1.cell 1, H4.h1.cell 2, H4.h1.cell 3⟩)
        (first
          | (go_at_call 59; refine (impl_dig_c _ _ (by omega) (by omega)).mono ?_; rintro e w' ⟨rfl, rfl⟩)
          | (refine step_app rfl (.tmp 15) (.tmp 31) 81 rfl 9 i0 _ 1 16 Tryz.underlying81 hi hz0 hz1 hz2 rfl (by decide) _ _ _ (by rfl) (H3.alloc _) _ _ _ [.string (tileB t)] (by rfl) (Rd.fresh W.drew _ #[.string (tileB t)] 1 1 rfl) ocs (by unfold maxLen; omega) (by omega) ?_; intro v2 w2 H4))
      all_goals
        rw [HX.out] at H4
        have H5 := H4.drop2
        clear k1 k2 k3 k4 H4 y1 y2 y3
        go_wp2
        go_roundw
        case rel => exact ⟨k + 1, by omega, by go_num, H5⟩
        case measure => simp [intOf]; omega
    · obtain rfl : k = l.length := by omega
      have HJ := Lib.hid (join_own (b := 4) ⟨#[32]⟩ H (by rw [List.length_map, List.length_take, Nat.min_self]) (by
        intro x hx
        obtain ⟨n, _, rfl⟩ := List.mem_map.1 hx
        rw [tileB_size]; exact Nat.le_refl _) (by rw [List.length_map, List.length_take, Nat.min_self]; omega) (by decide))
      obtain ⟨Ap, cp, rfl, _, _, _⟩ := Res.row_at H.h0
      have hbel := H.below
      clear H
      go_wp2_with fail
      refine (HJ.out).mono ?_
      rintro e w1 ⟨rfl, b1⟩
      have hb2 := hbel.trans (b1.mono hbel.size)
      go_wp2
      go_ret
      exact ⟨by unfold tilesTo; rw [List.take_length]; rfl, hb2⟩
end Go.Proofs.YtjoglffhdoneoaaGreatDoor
