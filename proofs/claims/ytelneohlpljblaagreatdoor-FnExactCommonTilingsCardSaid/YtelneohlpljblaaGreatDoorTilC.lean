
/-
  The tilings of the least rectangle by both shapes: both walks.
-/
import Derived.Test.YtelneohlpljblaaGreatDoorRctY
namespace Go.Proofs.YtelneohlpljblaaGreatDoor
open Go.RowKit

def tilX (a b s : List Cell) : List Int := match comL a b with
  | none => []
  | some p => nl (findL (rectR p.1 p.2) [s])
theorem tilX_no {a b s : List Cell} (h : comL a b = none) : tilX a b s = [] := by rw [tilX, h]
theorem tilX_yes {a b s : List Cell} {p : Nat × Nat} (h : comL a b = some p) : tilX a b s = nl (findL (rectR p.1 p.2) [s]) := by rw [tilX, h]
set_option maxRecDepth 100000 in
set_option maxHeartbeats 800000 in
theorem impl_comTil_c {va vb : Value} {a b : List Cell} (w : World) (ha : CellsRd w 0 w.heap.size va a) (hb : CellsRd w 0 w.heap.size vb b) (hla : a.length ≤ 1048576) (hlb : b.length ≤ 1048576) (ht : Tab64 w) :
    Calls Tryz.prog 25 #[va, vb] w fun e w' => ∃ (x y : Value) (m : Nat), e = .returned (.tuple #[x, y, .bool (comL a b).isSome]) ∧ IntsIn w' w.heap.size m x (tilX a b a) ∧ IntsIn w' m w'.heap.size y (tilX a b b) ∧ (w.heap.size ≤ m ∧ m ≤ w'.heap.size) ∧ Below w.heap.size w w' := by
  have HC := Lib.hid (impl_comRect_c w ha hb hla hlb ht)
  cases ho : comL a b with
  | none =>
    rw [tilX_no ho, tilX_no ho]
    rw [ho] at HC
    obtain ⟨A1, c1, rfl, _, _⟩ := ha
    obtain ⟨A2, c2, rfl, _, _⟩ := hb
    clear ho
    go_enter Tryz.func25, Tryz.ntmps25
    go_wp2_with fail
    refine (HC.out).mono ?_
    rintro e w1 ⟨rfl, b1⟩
    go_wp2
    exact bodyPost_ret (results_tmp3 rfl _ _ _) rfl ⟨_, _, w1.heap.size, rfl, IntsIn.nil, IntsIn.nil, ⟨b1.size, Nat.le_refl _⟩, b1⟩
  | some p =>
    obtain ⟨x1, x5, y1, y5⟩ := comL_mem ho
    have HFA : Hid (∀ (w1 : World) (g : Nat) (A : Option Addr) (c : Nat), Below w.heap.size w w1 → RegRd w1 0 w1.heap.size (.agg #[.int .i64 (p.1 : Int), .slice A p.2 c]) (rectR p.1 p.2) → Blk w1 g 29 #[va] → Calls Tryz.prog 53 #[.agg #[.int .i64 (p.1 : Int), .slice A p.2 c], .slice (some ⟨g, 0, none⟩) 1 1] w1 fun e w' => ∃ v', e = .returned (.tuple #[v', .bool (findB (rectR p.1 p.2) [a])]) ∧ IntsIn w' w1.heap.size w'.heap.size v' (tilX a b a) ∧ Below w1.heap.size w1 w') := Lib.hid fun w1 g A c b1 hr hbk => by
      rw [tilX_yes ho]
      exact impl_find_c w1 hr (one_ssRd hbk (cells_keep ha b1)) (by show 1 ≤ 1048576; omega) (fun t ht => by rw [List.mem_singleton] at ht; rw [ht]; exact hla) (tab64_on ht b1)
    have HFB : Hid (∀ (w1 : World) (g : Nat) (A : Option Addr) (c : Nat), Below w.heap.size w w1 → RegRd w1 0 w1.heap.size (.agg #[.int .i64 (p.1 : Int), .slice A p.2 c]) (rectR p.1 p.2) → Blk w1 g 29 #[vb] → Calls Tryz.prog 53 #[.agg #[.int .i64 (p.1 : Int), .slice A p.2 c], .slice (some ⟨g, 0, none⟩) 1 1] w1 fun e w' => ∃ v', e = .returned (.tuple #[v', .bool (findB (rectR p.1 p.2) [b])]) ∧ IntsIn w' w1.heap.size w'.heap.size v' (tilX a b b) ∧ Below w1.heap.size w1 w') := Lib.hid fun w1 g A c b1 hr hbk => by
      rw [tilX_yes ho]
      exact impl_find_c w1 hr (one_ssRd hbk (cells_keep hb b1)) (by show 1 ≤ 1048576; omega) (fun t ht => by rw [List.mem_singleton] at ht; rw [ht]; exact hlb) (tab64_on ht b1)
    have HRC : Hid (∀ w1 : World, Calls Tryz.prog 52 #[.int .i64 (p.1 : Int), .int .i64 (p.2 : Int)] w1 fun e w' => ∃ A c, e = .returned (.tuple #[.agg #[.int .i64 (p.1 : Int), .slice A p.2 c], .bool true]) ∧ OI w' w1.heap.size w'.heap.size 3 1 (.slice A p.2 c) p.2 (ic (List.replicate p.2 (2 ^ p.1 - 1))) ∧ Below w1.heap.size w1 w') := Lib.hid fun w1 => rectI_c p.1 p.2 w1 ⟨x1, by omega⟩ ⟨y1, by omega⟩
    obtain ⟨X, hX⟩ : ∃ X, X = tilX a b a := ⟨_, rfl⟩
    obtain ⟨Y, hY⟩ : ∃ Y, Y = tilX a b b := ⟨_, rfl⟩
    obtain ⟨BA, hBA⟩ : ∃ X, X = findB (rectR p.1 p.2) [a] := ⟨_, rfl⟩
    obtain ⟨BB, hBB⟩ : ∃ X, X = findB (rectR p.1 p.2) [b] := ⟨_, rfl⟩
    rw [← hX] at HFA ⊢
    rw [← hY] at HFB ⊢
    rw [← hBA] at HFA
    rw [← hBB] at HFB
    rw [ho] at HC
    obtain ⟨pa, hpa⟩ : ∃ k, k = p1 (some p) := ⟨_, rfl⟩
    obtain ⟨pb, hpb⟩ : ∃ k, k = p2 (some p) := ⟨_, rfl⟩
    rw [← hpa, ← hpb] at HC
    obtain rfl : pa = p.1 := hpa
    obtain rfl : pb = p.2 := hpb
    obtain ⟨A1, c1, rfl, _, _⟩ := ha
    obtain ⟨A2, c2, rfl, _, _⟩ := hb
    clear hX hY hBA hBB ho ht
    go_enter Tryz.func25, Tryz.ntmps25
    go_wp2_with fail
    refine (HC.out).mono ?_
    rintro e w1 ⟨rfl, b1⟩
    have H1 := (Sep.start w).step b1
    clear b1 HC
    go_wp2_with fail
    refine (HRC.out w1).mono ?_
    rintro e w2 ⟨A, c, rfl, o2, b2⟩
    have H2 := (H1.oiNew b2 o2).box 31 #[.int .i64 p.1, .slice A p.2 c]
    clear o2 b2 H1 HRC
    have H3 := H2.box 29 #[.slice A1 a.length c1]
    simp only [World.size_alloc] at H3
    have HC2 := Lib.hid (HFA.out _ _ A c H3.below (rect_rd H3.h2) H3.h0)
    clear HFA H2
    go_wp2_with fail
    refine (HC2.out).mono ?_
    rintro e w3 ⟨x, rfl, o3, b3⟩
    have H4 := H3.drop.oiNew b3 o3
    have O3 := Lib.hid (OI.base o3 H3.below.size (Nat.le_refl _))
    have HS3 : Hid (w.heap.size ≤ w3.heap.size) := Lib.hid (Nat.le_trans H3.below.size b3.size)
    clear HC2 o3 b3 H3
    have c0 : w3.cell? ⟨w2.heap.size, 0, none⟩ = some (.int .i64 p.1) := H4.h1.cell 0
    have c1' : w3.cell? ⟨w2.heap.size, 1, none⟩ = some (.slice A p.2 c) := H4.h1.cell 1
    have H5 := H4.box 29 #[.slice A2 b.length c2]
    have HC3 := Lib.hid (HFB.out _ _ A c H5.below (rect_rd H5.h3) H5.h0)
    obtain ⟨Ax, cx, rfl, _, _, _⟩ := Res.row_at H4.h0
    clear HFB H4
    go_wp2_with fail
    refine (HC3.out).mono ?_
    rintro e w4 ⟨y, rfl, o4, b4⟩
    have H6 := H5.drop.oiNew b4 o4
    have B34 : Below w3.heap.size w3 w4 := ((Below.refl w3.heap.size w3).alloc (Nat.le_refl _) _).trans (b4.mono (by simp))
    have O4 := Lib.hid (OI.base (lo' := w3.heap.size) (hi' := w4.heap.size) o4 (by simp) (Nat.le_refl _))
    have O5 := Lib.hid (OI.keep O3.out (SameIn.of_below B34 (Nat.le_refl _)))
    have HS4 := Lib.hid B34.size
    obtain ⟨Ay, cy, rfl, _, _, _⟩ := Res.row_at H6.h0
    clear HC3 o4 b4 H5 c0 c1' B34 O3
    go_wp2
    exact bodyPost_ret (results_tmp3 rfl _ _ _) rfl ⟨_, _, w3.heap.size, rfl, O5.out, O4.out, ⟨HS3.out, HS4.out⟩, H6.below⟩
set_option maxRecDepth 100000 in
set_option maxHeartbeats 800000 in
theorem spec_comTil_c {va vb : Value} {a b : List Cell} (w : World) (ha : CellsRd w 0 w.heap.size va a) (hb : CellsRd w 0 w.heap.size vb b) (hla : a.length ≤ 1048576) (hlb : b.length ≤ 1048576)  :
    Calls Tryz.prog 24 #[va, vb] w fun e w' => ∃ (x y : Value) (m : Nat), e = .returned (.tuple #[x, y, .bool (comL a b).isSome]) ∧ IntsIn w' w.heap.size m x (tilX a b a) ∧ IntsIn w' m w'.heap.size y (tilX a b b) ∧ (w.heap.size ≤ m ∧ m ≤ w'.heap.size) ∧ Below w.heap.size w w' := by
  have HC := Lib.hid (spec_comRect_c w ha hb hla hlb )
  cases ho : comL a b with
  | none =>
    rw [tilX_no ho, tilX_no ho]
    rw [ho] at HC
    obtain ⟨A1, c1, rfl, _, _⟩ := ha
    obtain ⟨A2, c2, rfl, _, _⟩ := hb
    clear ho
    go_enter Tryz.func24, Tryz.ntmps24
    go_wp2_with fail
    refine (HC.out).mono ?_
    rintro e w1 ⟨rfl, b1⟩
    have H1 := (((Sep.start w).step b1).rowBox 3 #[] 1 0 rfl (by decide)).rowBox 3 #[] 1 0 rfl (by decide)
    simp only [World.size_alloc] at H1
    have IN1 : IntsIn ((w1.alloc (.cells #[] 3)).alloc (.cells #[] 3)) w.heap.size (w1.heap.size + 1) (.slice (some ⟨w1.heap.size, 0, none⟩) 0 0) [] := OI.of_blk ((Blk.new w1 3 #[]).alloc _) b1.size (Nat.lt_succ_self _) (Nat.le_refl _) (Nat.zero_le _) rfl rfl
    have IN2 : IntsIn ((w1.alloc (.cells #[] 3)).alloc (.cells #[] 3)) (w1.heap.size + 1) ((w1.alloc (.cells #[] 3)).alloc (.cells #[] 3)).heap.size (.slice (some ⟨w1.heap.size + 1, 0, none⟩) 0 0) [] := OI.of_blk (by have := Blk.new (w1.alloc (.cells #[] 3)) 3 #[]; simpa using this) (Nat.le_refl _) (by simp) (Nat.le_refl _) (Nat.zero_le _) rfl rfl
    go_wp2
    exact bodyPost_ret (results_tmp3 rfl _ _ _) rfl ⟨_, _, w1.heap.size + 1, rfl, IN1, IN2, ⟨Nat.le_succ_of_le b1.size, by simp⟩, H1.below⟩
  | some p =>
    obtain ⟨x1, x5, y1, y5⟩ := comL_mem ho
    have HFA : Hid (∀ (w1 : World) (g : Nat) (A : Option Addr) (c : Nat), Below w.heap.size w w1 → RegRd w1 0 w1.heap.size (.agg #[.int .i64 (p.1 : Int), .slice A p.2 c]) (rectR p.1 p.2) → Blk w1 g 29 #[va] → Calls Tryz.prog 51 #[.agg #[.int .i64 (p.1 : Int), .slice A p.2 c], .slice (some ⟨g, 0, none⟩) 1 1] w1 fun e w' => ∃ v', e = .returned (.tuple #[v', .bool (findB (rectR p.1 p.2) [a])]) ∧ IntsIn w' w1.heap.size w'.heap.size v' (tilX a b a) ∧ Below w1.heap.size w1 w') := Lib.hid fun w1 g A c b1 hr hbk => by
      rw [tilX_yes ho]
      exact spec_find_c w1 hr (one_ssRd hbk (cells_keep ha b1)) (by show 1 ≤ 1048576; omega) (fun t ht => by rw [List.mem_singleton] at ht; rw [ht]; exact hla) 
    have HFB : Hid (∀ (w1 : World) (g : Nat) (A : Option Addr) (c : Nat), Below w.heap.size w w1 → RegRd w1 0 w1.heap.size (.agg #[.int .i64 (p.1 : Int), .slice A p.2 c]) (rectR p.1 p.2) → Blk w1 g 29 #[vb] → Calls Tryz.prog 51 #[.agg #[.int .i64 (p.1 : Int), .slice A p.2 c], .slice (some ⟨g, 0, none⟩) 1 1] w1 fun e w' => ∃ v', e = .returned (.tuple #[v', .bool (findB (rectR p.1 p.2) [b])]) ∧ IntsIn w' w1.heap.size w'.heap.size v' (tilX a b b) ∧ Below w1.heap.size w1 w') := Lib.hid fun w1 g A c b1 hr hbk => by
      rw [tilX_yes ho]
      exact spec_find_c w1 hr (one_ssRd hbk (cells_keep hb b1)) (by show 1 ≤ 1048576; omega) (fun t ht => by rw [List.mem_singleton] at ht; rw [ht]; exact hlb) 
    have HRC : Hid (∀ w1 : World, Calls Tryz.prog 50 #[.int .i64 (p.1 : Int), .int .i64 (p.2 : Int)] w1 fun e w' => ∃ A c, e = .returned (.tuple #[.agg #[.int .i64 (p.1 : Int), .slice A p.2 c], .bool true]) ∧ OI w' w1.heap.size w'.heap.size 3 1 (.slice A p.2 c) p.2 (ic (List.replicate p.2 (2 ^ p.1 - 1))) ∧ Below w1.heap.size w1 w') := Lib.hid fun w1 => rect_c p.1 p.2 w1 ⟨x1, by omega⟩ ⟨y1, by omega⟩
    obtain ⟨X, hX⟩ : ∃ X, X = tilX a b a := ⟨_, rfl⟩
    obtain ⟨Y, hY⟩ : ∃ Y, Y = tilX a b b := ⟨_, rfl⟩
    obtain ⟨BA, hBA⟩ : ∃ X, X = findB (rectR p.1 p.2) [a] := ⟨_, rfl⟩
    obtain ⟨BB, hBB⟩ : ∃ X, X = findB (rectR p.1 p.2) [b] := ⟨_, rfl⟩
    rw [← hX] at HFA ⊢
    rw [← hY] at HFB ⊢
    rw [← hBA] at HFA
    rw [← hBB] at HFB
    rw [ho] at HC
    obtain ⟨pa, hpa⟩ : ∃ k, k = p1 (some p) := ⟨_, rfl⟩
    obtain ⟨pb, hpb⟩ : ∃ k, k = p2 (some p) := ⟨_, rfl⟩
    rw [← hpa, ← hpb] at HC
    obtain rfl : pa = p.1 := hpa
    obtain rfl : pb = p.2 := hpb
    obtain ⟨A1, c1, rfl, _, _⟩ := ha
    obtain ⟨A2, c2, rfl, _, _⟩ := hb
    clear hX hY hBA hBB ho 
    go_enter Tryz.func24, Tryz.ntmps24
    go_wp2_with fail
    refine (HC.out).mono ?_
    rintro e w1 ⟨rfl, b1⟩
    have H1 := (Sep.start w).step b1
    clear b1 HC
    go_wp2_with fail
    refine (HRC.out w1).mono ?_
    rintro e w2 ⟨A, c, rfl, o2, b2⟩
    have H2 := (H1.oiNew b2 o2).box 31 #[.int .i64 p.1, .slice A p.2 c]
    clear o2 b2 H1 HRC
    have H3 := H2.box 29 #[.slice A1 a.length c1]
    simp only [World.size_alloc] at H3
    have HC2 := Lib.hid (HFA.out _ _ A c H3.below (rect_rd H3.h2) H3.h0)
    clear HFA H2
    go_wp2_with fail
    refine (HC2.out).mono ?_
    rintro e w3 ⟨x, rfl, o3, b3⟩
    have H4 := H3.drop.oiNew b3 o3
    have O3 := Lib.hid (OI.base o3 H3.below.size (Nat.le_refl _))
    have HS3 : Hid (w.heap.size ≤ w3.heap.size) := Lib.hid (Nat.le_trans H3.below.size b3.size)
    clear HC2 o3 b3 H3
    have c0 : w3.cell? ⟨w2.heap.size, 0, none⟩ = some (.int .i64 p.1) := H4.h1.cell 0
    have c1' : w3.cell? ⟨w2.heap.size, 1, none⟩ = some (.slice A p.2 c) := H4.h1.cell 1
    have H5 := H4.box 29 #[.slice A2 b.length c2]
    have HC3 := Lib.hid (HFB.out _ _ A c H5.below (rect_rd H5.h3) H5.h0)
    obtain ⟨Ax, cx, rfl, _, _, _⟩ := Res.row_at H4.h0
    clear HFB H4
    go_wp2_with fail
    refine (HC3.out).mono ?_
    rintro e w4 ⟨y, rfl, o4, b4⟩
    have H6 := H5.drop.oiNew b4 o4
    have B34 : Below w3.heap.size w3 w4 := ((Below.refl w3.heap.size w3).alloc (Nat.le_refl _) _).trans (b4.mono (by simp))
    have O4 := Lib.hid (OI.base (lo' := w3.heap.size) (hi' := w4.heap.size) o4 (by simp) (Nat.le_refl _))
    have O5 := Lib.hid (OI.keep O3.out (SameIn.of_below B34 (Nat.le_refl _)))
    have HS4 := Lib.hid B34.size
    obtain ⟨Ay, cy, rfl, _, _, _⟩ := Res.row_at H6.h0
    clear HC3 o4 b4 H5 c0 c1' B34 O3
    go_wp2
    exact bodyPost_ret (results_tmp3 rfl _ _ _) rfl ⟨_, _, w3.heap.size, rfl, O5.out, O4.out, ⟨HS3.out, HS4.out⟩, H6.below⟩
end Go.Proofs.YtelneohlpljblaaGreatDoor
