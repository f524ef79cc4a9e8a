
/-
  Do two shapes tile a region? Both walks. Rep-tilings: both walks. The least scale at which a shape tiles itself: both walks. The area of a scaled shape: plain. A tiling of a scaled shape has as many parts as the square of the scale: plain.
-/
import Derived.Test.YtppbkiajcpdkiaaGreatDoorFtS
import Derived.Test.YtppbkiajcpdkiaaGreatDoorFsB
import Derived.Test.YtppbkiajcpdkiaaGreatDoorArX
import Derived.Test.YtppbkiajcpdkiaaGreatDoorFsC
namespace Go.Proofs.YtppbkiajcpdkiaaGreatDoor
open Go.RowKit

theorem one_ssRd {w : World} {g : Nat} {x : Value} {s : List Cell} (hb : Blk w g 24 #[x]) (hx : CellsRd w 0 w.heap.size x s) : CellSSRd w 0 w.heap.size (.slice (some ⟨g, 0, none⟩) 1 1) [s] := by
  refine ⟨[x], ⟨_, _, rfl, by show 1 ≤ maxLen; decide, rfl, fun _ => ⟨g, 0, rfl, Nat.zero_le _, hb.lt, fun j u hu => ?_⟩⟩, rfl, fun i u hu => ?_⟩
  · rw [hb.cell]
    simpa using hu
  · match i, hu with
    | 0, hu => simp at hu; subst hu; exact ⟨x, rfl, hx⟩
def comR (a b : List Cell) (r : Reg) : Bool := findB r [a] && findB r [b]
theorem comR_no {a b : List Cell} {r : Reg} (h : findB r [a] = false) : comR a b r = false := by unfold comR; rw [h]; rfl
theorem comR_yes {a b : List Cell} {r : Reg} (h : findB r [a] = true) : comR a b r = findB r [b] := by unfold comR; rw [h]; rfl
end Go.Proofs.YtppbkiajcpdkiaaGreatDoor

namespace Go.Proofs.YtppbkiajcpdkiaaGreatDoor
open Go.RowKit

/-- a shape tiles itself, scaled -/
def rtB (s : List Cell) (k : Int) : Bool := scB s k && findB (scX s k) [s]
def rtL (s : List Cell) (k : Int) : List Int := if scB s k = true then nl (findL (scX s k) [s]) else []
/-- a result of a rep-tiling -/
def RtPost (s : List Cell) (k : Int) (w : World) : Ending → World → Prop := fun e w' => ∃ v', e = .returned (.tuple #[v', .bool (rtB s k)]) ∧ IntsIn w' w.heap.size w'.heap.size v' (rtL s k) ∧ Below w.heap.size w w'
theorem rowIntsR {w : World} {e : TypeId} {v : Value} {l : List Int} (h : w.ownsRow 0 e 1 v l.length (ic l)) : IntsRd w 0 w.heap.size v l := by
  obtain ⟨A, c, rfl, h1, h2, hr⟩ := own_rd h
  exact ⟨A, c, rfl, by omega, hr⟩
set_option maxRecDepth 100000 in
set_option maxHeartbeats 1600000 in
theorem impl_rt_c {v : Value} {s : List Cell} (k : Int) (w : World) (h : CellsRd w 0 w.heap.size v s) (hl : s.length ≤ 1048576) (hk : -100 ≤ k ∧ k ≤ 100) (ht : Tab64 w) :
    Calls Tryz.prog 9 #[v, .int .i64 k] w (RtPost s k w) := by
  have HSC := Lib.hid (impl_scaled_c k w h hl hk)
  have HCR : Hid (∀ w', Below w.heap.size w w' → CellsRd w' 0 w'.heap.size v s) := Lib.hid fun w' b => (h.keep (SameIn.of_below b (Nat.le_refl _))).more (Nat.le_refl _) b.size
  have HXL := scX_len (s := s) (k := k)
  have HRB : rtB s k = (scB s k && findB (scX s k) [s]) := rfl
  have HRL : rtL s k = if scB s k = true then nl (findL (scX s k) [s]) else [] := rfl
  unfold RtPost
  rw [HRB, HRL]
  clear HRB HRL
  have HFT : Hid (∀ w1 vr g, Below w.heap.size w w1 → RegRd w1 0 w1.heap.size vr (scX s k) → Blk w1 g 24 #[v] → Calls Tryz.prog 38 #[vr, .slice (some ⟨g, 0, none⟩) 1 1] w1 fun e w' => ∃ v', e = .returned (.tuple #[v', .bool (findB (scX s k) [s])]) ∧ IntsIn w' w1.heap.size w'.heap.size v' (nl (findL (scX s k) [s])) ∧ Below w1.heap.size w1 w') := Lib.hid fun w1 vr g b1 hr hb =>
    impl_find_c w1 hr (one_ssRd hb (HCR.out w1 b1)) (by show 1 ≤ 1048576; omega) (fun t ht => by rw [List.mem_singleton.1 ht]; exact hl) (tab64_on ht b1)
  obtain ⟨B, hB⟩ : ∃ B, B = scB s k := ⟨_, rfl⟩
  obtain ⟨X, hX⟩ : ∃ X, X = scX s k := ⟨_, rfl⟩
  obtain ⟨FB, hFB⟩ : ∃ B, B = findB (scX s k) [s] := ⟨_, rfl⟩
  obtain ⟨FL, hFL⟩ : ∃ B, B = nl (findL (scX s k) [s]) := ⟨_, rfl⟩
  rw [← hFB, ← hFL] at HFT ⊢
  rw [← hX] at HSC HFT HXL
  rw [← hB] at HSC ⊢
  clear hB hX hFB hFL
  obtain ⟨A, c, rfl, _, _⟩ := id h
  clear h ht
  go_enter Tryz.func9, Tryz.ntmps9
  go_wp2_with fail
  refine (HSC.out).mono ?_
  rintro e w1 ⟨vr, rfl, ⟨sr, rfl, o1⟩, b1⟩
  have H1 := (Sep.start w).oiNew b1 o1
  obtain ⟨A1, c1, rfl, _, _, _⟩ := Res.row_at H1.h0
  have H2 := H1.box 29 #[.int .i64 X.w, .slice A1 X.rows.length c1]
  clear o1 b1 H1 HSC
  go_upto_region 2 with fail
  obtain ⟨g6, hg6⟩ : ∃ k, k = w1.heap.size := ⟨_, rfl⟩
  rw [← hg6] at H2 ⊢
  generalize w1.alloc (.cells #[.int .i64 X.w, .slice A1 X.rows.length c1] 29) = w2 at *
  clear hg6
  cases B
  · have hb := H2.below
    go_wp2
    exact bodyPost_ret (results_tmp2 rfl _ _ _) rfl ⟨_, rfl, IntsIn.nil, hb⟩
  · have x0 := H2.h0.cell 0
    have x1 := H2.h0.cell 1
    simp at x0 x1
    have H3 := H2.box 24 #[.slice A s.length c]
    have HCF := Lib.hid (HFT.out _ (.agg #[.int .i64 X.w, .slice A1 X.rows.length c1]) _ H3.below ⟨_, rfl, rowIntsR H3.h2⟩ H3.h0)
    clear HFT H2
    go_wp2_with fail
    refine (HCF.out).mono ?_
    rintro e w3 ⟨v3, rfl, o3, b3⟩
    have O3 := Lib.hid (OI.base o3 H3.below.size (Nat.le_refl _))
    have hb := (H3.step b3).below
    obtain ⟨A3, c3, rfl, _, _⟩ := o3.rd
    clear o3 b3 H3 HCF x0 x1
    go_wp2
    exact bodyPost_ret (results_tmp2 rfl _ _ _) rfl ⟨_, rfl, O3.out, hb⟩
set_option maxRecDepth 100000 in
set_option maxHeartbeats 1600000 in
theorem spec_rt_c {v : Value} {s : List Cell} (k : Int) (w : World) (h : CellsRd w 0 w.heap.size v s) (hl : s.length ≤ 1048576) (hk : -100 ≤ k ∧ k ≤ 100)  :
    Calls Tryz.prog 10 #[v, .int .i64 k] w (RtPost s k w) := by
  have HSC := Lib.hid (spec_scaled_c k w h hl hk)
  have HCR : Hid (∀ w', Below w.heap.size w w' → CellsRd w' 0 w'.heap.size v s) := Lib.hid fun w' b => (h.keep (SameIn.of_below b (Nat.le_refl _))).more (Nat.le_refl _) b.size
  have HXL := scX_len (s := s) (k := k)
  have HRB : rtB s k = (scB s k && findB (scX s k) [s]) := rfl
  have HRL : rtL s k = if scB s k = true then nl (findL (scX s k) [s]) else [] := rfl
  unfold RtPost
  rw [HRB, HRL]
  clear HRB HRL
  have HFT : Hid (∀ w1 vr g, Below w.heap.size w w1 → RegRd w1 0 w1.heap.size vr (scX s k) → Blk w1 g 24 #[v] → Calls Tryz.prog 39 #[vr, .slice (some ⟨g, 0, none⟩) 1 1] w1 fun e w' => ∃ v', e = .returned (.tuple #[v', .bool (findB (scX s k) [s])]) ∧ IntsIn w' w1.heap.size w'.heap.size v' (nl (findL (scX s k) [s])) ∧ Below w1.heap.size w1 w') := Lib.hid fun w1 vr g b1 hr hb =>
    spec_find_c w1 hr (one_ssRd hb (HCR.out w1 b1)) (by show 1 ≤ 1048576; omega) (fun t ht => by rw [List.mem_singleton.1 ht]; exact hl) 
  obtain ⟨B, hB⟩ : ∃ B, B = scB s k := ⟨_, rfl⟩
  obtain ⟨X, hX⟩ : ∃ X, X = scX s k := ⟨_, rfl⟩
  obtain ⟨FB, hFB⟩ : ∃ B, B = findB (scX s k) [s] := ⟨_, rfl⟩
  obtain ⟨FL, hFL⟩ : ∃ B, B = nl (findL (scX s k) [s]) := ⟨_, rfl⟩
  rw [← hFB, ← hFL] at HFT ⊢
  rw [← hX] at HSC HFT HXL
  rw [← hB] at HSC ⊢
  clear hB hX hFB hFL
  obtain ⟨A, c, rfl, _, _⟩ := id h
  clear h 
  go_enter Tryz.func10, Tryz.ntmps10
  go_wp2_with fail
  refine (HSC.out).mono ?_
  rintro e w1 ⟨vr, rfl, ⟨sr, rfl, o1⟩, b1⟩
  have H1 := (Sep.start w).oiNew b1 o1
  obtain ⟨A1, c1, rfl, _, _, _⟩ := Res.row_at H1.h0
  have H2 := H1.box 29 #[.int .i64 X.w, .slice A1 X.rows.length c1]
  clear o1 b1 H1 HSC
  go_upto_region 2 with fail
  obtain ⟨g6, hg6⟩ : ∃ k, k = w1.heap.size := ⟨_, rfl⟩
  rw [← hg6] at H2 ⊢
  generalize w1.alloc (.cells #[.int .i64 X.w, .slice A1 X.rows.length c1] 29) = w2 at *
  clear hg6
  cases B
  · have hb := H2.below
    have H3 := H2.rowBox 3 #[] 1 0 rfl (by decide)
    go_wp2
    exact bodyPost_ret (results_tmp2 rfl _ _ _) rfl ⟨_, rfl, H3.oi, H3.below⟩
  · have x0 := H2.h0.cell 0
    have x1 := H2.h0.cell 1
    simp at x0 x1
    have H3 := H2.box 24 #[.slice A s.length c]
    have HCF := Lib.hid (HFT.out _ (.agg #[.int .i64 X.w, .slice A1 X.rows.length c1]) _ H3.below ⟨_, rfl, rowIntsR H3.h2⟩ H3.h0)
    clear HFT H2
    go_wp2_with fail
    refine (HCF.out).mono ?_
    rintro e w3 ⟨v3, rfl, o3, b3⟩
    have O3 := Lib.hid (OI.base o3 H3.below.size (Nat.le_refl _))
    have hb := (H3.step b3).below
    obtain ⟨A3, c3, rfl, _, _⟩ := o3.rd
    clear o3 b3 H3 HCF x0 x1
    go_wp2
    exact bodyPost_ret (results_tmp2 rfl _ _ _) rfl ⟨_, rfl, O3.out, hb⟩
set_option maxRecDepth 100000 in
set_option maxHeartbeats 800000 in
theorem impl_isRt_c {v : Value} {s : List Cell} (k : Int) (w : World) (h : CellsRd w 0 w.heap.size v s) (hl : s.length ≤ 1048576) (hk : -100 ≤ k ∧ k ≤ 100) (ht : Tab64 w) :
    Calls Tryz.prog 14 #[v, .int .i64 k] w fun e w' => e = .returned (.bool (rtB s k)) ∧ Below w.heap.size w w' := by
  have HC := Lib.hid (impl_rt_c k w h hl hk ht)
  obtain ⟨A, c, rfl, _, _⟩ := id h
  clear h
  go_enter Tryz.func14, Tryz.ntmps14
  go_wp2_with fail
  refine (HC.out).mono ?_
  rintro e w1 ⟨v1, e1, o1, b1⟩
  subst e1
  go_wp2
  go_ret
  exact ⟨rfl, b1⟩
set_option maxRecDepth 100000 in
set_option maxHeartbeats 800000 in
theorem spec_isRt_c {v : Value} {s : List Cell} (k : Int) (w : World) (h : CellsRd w 0 w.heap.size v s) (hl : s.length ≤ 1048576) (hk : -100 ≤ k ∧ k ≤ 100)  :
    Calls Tryz.prog 47 #[v, .int .i64 k] w fun e w' => e = .returned (.bool (rtB s k)) ∧ Below w.heap.size w w' := by
  have HC := Lib.hid (spec_rt_c k w h hl hk )
  obtain ⟨A, c, rfl, _, _⟩ := id h
  clear h
  go_enter Tryz.func47, Tryz.ntmps47
  go_wp2_with fail
  refine (HC.out).mono ?_
  rintro e w1 ⟨v1, e1, o1, b1⟩
  subst e1
  go_wp2
  go_ret
  exact ⟨rfl, b1⟩
end Go.Proofs.YtppbkiajcpdkiaaGreatDoor

namespace Go.Proofs.YtppbkiajcpdkiaaGreatDoor
open Go.RowKit

/-- is k the least scale? -/
structure LeastIs (s : List Cell) (k : Nat) : Prop where
  two : 2 ≤ k
  six : k ≤ 6
  is : rtB s k = true
  lt : ∀ i : Nat, 2 ≤ i → i < k → rtB s i = false
/-- the least scale, or -1 -/
def LrIs (s : List Cell) (n : Int) : Prop := (∃ k : Nat, n = (k : Int) ∧ LeastIs s k) ∨ (n = -1 ∧ ∀ i : Nat, 2 ≤ i → i ≤ 6 → rtB s i = false)
theorem LrIs.one {s : List Cell} {m n : Int} (h : LrIs s m) (h' : LrIs s n) : m = n := by
  rcases h with ⟨k, rfl, h⟩ | ⟨rfl, h⟩ <;> rcases h' with ⟨k', rfl, h'⟩ | ⟨rfl, h'⟩
  · rcases Nat.lt_trichotomy k k' with q | q | q
    · have := h'.lt k h.two q; rw [h.is] at this; cases this
    · rw [q]
    · have := h.lt k' h'.two q; rw [h'.is] at this; cases this
  · have := h' k h.two h.six; rw [h.is] at this; cases this
  · have := h k' h'.two h'.six; rw [h'.is] at this; cases this
  · rfl
theorem rtB_no {s : List Cell} {k : Int} (h : isShape s = false) : rtB s k = false := by unfold rtB scB; rw [h]; rfl
set_option maxRecDepth 100000 in
set_option maxHeartbeats 1600000 in
theorem impl_least_rep_c {v : Value} {s : List Cell} (w : World) (h : CellsRd w 0 w.heap.size v s) (hl : s.length ≤ 1048576) (ht : Tab64 w) :
    Calls Tryz.prog 17 #[v] w fun e w' => ∃ n : Int, e = .returned (.int .i64 n) ∧ LrIs s n ∧ Below w.heap.size w w' := by
  have HC : Hid (∀ (k : Nat) w', k ≤ 6 → Below w.heap.size w w' → Calls Tryz.prog 14 #[v, .int .i64 (k : Int)] w' fun e w'' => e = .returned (.bool (rtB s k)) ∧ Below w'.heap.size w' w'') := Lib.hid fun k w' hk b =>
    impl_isRt_c (k : Int) w' ((h.keep (SameIn.of_below b (Nat.le_refl _))).more (Nat.le_refl _) b.size) hl (by omega) (tab64_on ht b)
  obtain ⟨A, c, rfl, _, _⟩ := id h
  clear h ht
  go_enter Tryz.func17, Tryz.ntmps17
  go_wp2
  go_loopw [3] (fun kv wx => ∃ k : Nat, 2 ≤ k ∧ k ≤ 7 ∧ kv = .int .i64 k ∧ Hid (∀ i : Nat, 2 ≤ i → i < k → rtB s i = false) ∧ Below w.heap.size w wx) (fun kv _ => 7 - (intOf kv).toNat)
  case atStart => exact ⟨2, Nat.le_refl _, by omega, rfl, Lib.hid (fun i h1 h2 => by omega), Below.refl _ _⟩
  case round =>
    obtain ⟨k, hk2, hk7, rfl, HK, hbel⟩ := hrel
    by_cases hk : k ≤ 6
    · have hki : (k : Int) ≤ 6 := by omega
      have HC1 := Lib.hid (HC.out k wr hk hbel)
      obtain ⟨B, hB⟩ : ∃ B, B = rtB s k := ⟨_, rfl⟩
      rw [← hB] at HC1
      have HB := Lib.hid hB
      clear hB
      go_wp2_with fail
      refine (HC1.out).mono ?_
      rintro e w2 ⟨rfl, b2⟩
      have hb := hbel.trans (b2.mono hbel.size)
      clear b2 hbel HC1
      cases B
      · have HK2 : Hid (∀ i : Nat, 2 ≤ i → i < k + 1 → rtB s i = false) := Lib.hid (fun i h1 h2 => by
          by_cases e : i = k
          · rw [e]; exact HB.out.symm
          · exact HK.out i h1 (by omega))
        go_wp2
        go_roundw
        case rel => exact ⟨k + 1, by omega, by omega, by go_num, HK2, hb⟩
        case measure => simp [intOf]; omega
      · go_wp2
        go_ret
        exact ⟨_, rfl, .inl ⟨k, rfl, hk2, hk, HB.out.symm, HK.out⟩, hb⟩
    · obtain rfl : k = 7 := by omega
      have HN : Hid (∀ i : Nat, 2 ≤ i → i ≤ 6 → rtB s i = false) := Lib.hid (fun i h1 h2 => HK.out i h1 (by omega))
      clear HK
      go_wp2
      go_ret
      exact ⟨-1, rfl, .inr ⟨rfl, HN.out⟩, hbel⟩
set_option maxRecDepth 100000 in
set_option maxHeartbeats 1600000 in
theorem spec_least_rep_c {v : Value} {s : List Cell} (w : World) (h : CellsRd w 0 w.heap.size v s) (hl : s.length ≤ 1048576) :
    Calls Tryz.prog 18 #[v] w fun e w' => ∃ n : Int, e = .returned (.int .i64 n) ∧ LrIs s n ∧ Below w.heap.size w w' := by
  have HC : Hid (∀ (k : Nat) w', k ≤ 6 → Below w.heap.size w w' → Calls Tryz.prog 47 #[v, .int .i64 (k : Int)] w' fun e w'' => e = .returned (.bool (rtB s k)) ∧ Below w'.heap.size w' w'') := Lib.hid fun k w' hk b =>
    spec_isRt_c (k : Int) w' ((h.keep (SameIn.of_below b (Nat.le_refl _))).more (Nat.le_refl _) b.size) hl (by omega)
  have HS : Hid (∀ w', Below w.heap.size w w' → Calls Tryz.prog 35 #[v] w' fun e w'' => e = .returned (.bool (isShape s)) ∧ Below w'.heap.size w' w'') := Lib.hid fun w' b => spec_isShape_c w' ((h.keep (SameIn.of_below b (Nat.le_refl _))).more (Nat.le_refl _) b.size) hl
  have HNO : Hid (isShape s = false → ∀ i : Nat, 2 ≤ i → i ≤ 6 → rtB s i = false) := Lib.hid fun h i _ _ => rtB_no h
  obtain ⟨A, c, rfl, _, _⟩ := id h
  obtain ⟨S, hS⟩ : ∃ S, S = isShape s := ⟨_, rfl⟩
  rw [← hS] at HS HNO
  clear h hS
  go_enter Tryz.func18, Tryz.ntmps18
  go_wp2
  go_loopw [3] (fun kv wx => ∃ k : Nat, 2 ≤ k ∧ k ≤ 7 ∧ kv = .int .i64 k ∧ Hid (∀ i : Nat, 2 ≤ i → i < k → rtB s i = false) ∧ Below w.heap.size w wx) (fun kv _ => 7 - (intOf kv).toNat)
  case atStart => exact ⟨2, Nat.le_refl _, by omega, rfl, Lib.hid (fun i h1 h2 => by omega), Below.refl _ _⟩
  case round =>
    obtain ⟨k, hk2, hk7, rfl, HK, hbel⟩ := hrel
    by_cases hk : k ≤ 6
    · have hki : (k : Int) ≤ 6 := by omega
      have HS1 := Lib.hid (HS.out wr hbel)
      go_wp2_with fail
      refine (HS1.out).mono ?_
      rintro e w1 ⟨rfl, b1⟩
      replace hbel := hbel.trans (b1.mono hbel.size)
      clear b1 HS1
      cases S
      · have HN := Lib.hid (HNO.out (by first | rfl | trivial))
        clear HK
        go_wp2
        go_ret
        exact ⟨-1, rfl, .inr ⟨rfl, HN.out⟩, hbel⟩
      · have HC1 := Lib.hid (HC.out k w1 hk hbel)
        obtain ⟨B, hB⟩ : ∃ B, B = rtB s k := ⟨_, rfl⟩
        rw [← hB] at HC1
        have HB := Lib.hid hB
        clear hB
        go_wp2_with fail
        refine (HC1.out).mono ?_
        rintro e w2 ⟨rfl, b2⟩
        have hb := hbel.trans (b2.mono hbel.size)
        clear b2 hbel HC1
        cases B
        · have HK2 : Hid (∀ i : Nat, 2 ≤ i → i < k + 1 → rtB s i = false) := Lib.hid (fun i h1 h2 => by
            by_cases e : i = k
            · rw [e]; exact HB.out.symm
            · exact HK.out i h1 (by omega))
          go_wp2
          go_roundw
          case rel => exact ⟨k + 1, by omega, by omega, by go_num, HK2, hb⟩
          case measure => simp [intOf]; omega
        · go_wp2
          go_ret
          exact ⟨_, rfl, .inl ⟨k, rfl, hk2, hk, HB.out.symm, HK.out⟩, hb⟩
    · obtain rfl : k = 7 := by omega
      have HN : Hid (∀ i : Nat, 2 ≤ i → i ≤ 6 → rtB s i = false) := Lib.hid (fun i h1 h2 => HK.out i h1 (by omega))
      clear HK
      go_wp2
      go_ret
      exact ⟨-1, rfl, .inr ⟨rfl, HN.out⟩, hbel⟩
end Go.Proofs.YtppbkiajcpdkiaaGreatDoor

namespace Go.Proofs.YtppbkiajcpdkiaaGreatDoor
open Go.RowKit

theorem cells_nodupQ {r : Reg} : r.cells.Nodup := by
  unfold Reg.cells Reg.cellsTo
  unfold List.Nodup
  rw [List.pairwise_flatMap]
  refine ⟨fun y _ => ?_, ?_⟩
  · unfold Reg.rowTo
    refine List.Pairwise.map _ ?_ (List.nodup_range.sublist List.filter_sublist)
    intro a b hab h
    injection h with h1 h2
    exact hab (by omega)
  · refine List.nodup_range.imp_of_mem ?_
    intro a b _ _ hab
    intro c hc d hd e
    unfold Reg.rowTo at hc hd
    obtain ⟨i, _, rfl⟩ := List.mem_map.1 hc
    obtain ⟨j, _, rfl⟩ := List.mem_map.1 hd
    injection e with e1 e2
    exact hab (by omega)
/-- the places of the squares -/
def sqs (C : List Cell) (k : Nat) : List Cell := C.flatMap fun c => (List.range k).flatMap fun a : Nat => (List.range k).map fun b : Nat => ⟨c.x * k + a, c.y * k + b⟩
theorem flat_lenQ {α β : Type} {f : α → List β} {n : Nat} : ∀ {l : List α}, (∀ a ∈ l, (f a).length = n) → (l.flatMap f).length = l.length * n
  | [], _ => by simp
  | a :: l, h => by
    rw [List.flatMap_cons, List.length_append, h a (List.mem_cons_self ..), flat_lenQ (fun b hb => h b (List.mem_cons_of_mem _ hb)), List.length_cons, Nat.add_mul, Nat.one_mul, Nat.add_comm]
theorem sqs_len {C : List Cell} {k : Nat} : (sqs C k).length = C.length * (k * k) := by
  unfold sqs
  refine flat_lenQ fun c _ => ?_
  rw [flat_lenQ (n := k) (fun a _ => by rw [List.length_map, List.length_range]), List.length_range]
theorem mem_sqs {C : List Cell} {k : Nat} (hk : 1 ≤ k) (hC : ∀ c ∈ C, ∃ x y : Nat, c = ⟨(x : Int), (y : Int)⟩) {d : Cell} : d ∈ sqs C k ↔ ∃ i j : Nat, d = ⟨(i : Int), (j : Int)⟩ ∧ scIn C k i j = true := by
  unfold sqs
  simp only [List.mem_flatMap, List.mem_map, List.mem_range]
  constructor
  · rintro ⟨c, hc, a, ha, b, hb, rfl⟩
    obtain ⟨x, y, rfl⟩ := hC c hc
    obtain ⟨e1, _⟩ := (at_place (i := x * k + a) ha).2 rfl
    obtain ⟨e2, _⟩ := (at_place (i := y * k + b) hb).2 rfl
    refine ⟨x * k + a, y * k + b, by simp, ?_⟩
    unfold scIn
    rw [e1, e2]
    exact decide_eq_true hc
  · rintro ⟨i, j, rfl, h⟩
    refine ⟨_, of_decide_eq_true h, i % k, Nat.mod_lt _ hk, j % k, Nat.mod_lt _ hk, ?_⟩
    have h1 := Nat.div_add_mod i k
    have h2 := Nat.div_add_mod j k
    rw [Nat.mul_comm] at h1 h2
    simp only [Cell.mk.injEq]
    constructor
    · exact_mod_cast h1
    · exact_mod_cast h2
theorem sqs_nodup {C : List Cell} {k : Nat} (_hk : 1 ≤ k) (hC : ∀ c ∈ C, ∃ x y : Nat, c = ⟨(x : Int), (y : Int)⟩) (hN : C.Nodup) : (sqs C k).Nodup := by
  unfold sqs List.Nodup
  rw [List.pairwise_flatMap]
  refine ⟨fun c hc => ?_, ?_⟩
  · rw [List.pairwise_flatMap]
    refine ⟨fun a _ => ?_, ?_⟩
    · refine List.Pairwise.map _ ?_ List.nodup_range
      intro b b' hb h
      injection h with h1 h2
      exact hb (by omega)
    · refine List.nodup_range.imp_of_mem ?_
      intro a a' _ _ haa u hu v hv e
      obtain ⟨b, _, rfl⟩ := List.mem_map.1 hu
      obtain ⟨b', _, rfl⟩ := List.mem_map.1 hv
      injection e with e1 e2
      exact haa (by omega)
  · refine hN.imp_of_mem ?_
    intro c c' hc hc' hcc u hu v hv e
    simp only [List.mem_flatMap, List.mem_map, List.mem_range] at hu hv
    obtain ⟨a, ha, b, hb, rfl⟩ := hu
    obtain ⟨a', ha', b', hb', rfl⟩ := hv
    obtain ⟨x, y, rfl⟩ := hC c hc
    obtain ⟨x', y', rfl⟩ := hC c' hc'
    simp only [Cell.mk.injEq] at e
    have e1 : x * k + a = x' * k + a' := by exact_mod_cast e.1
    have e2 : y * k + b = y' * k + b' := by exact_mod_cast e.2
    have q1 := ((at_place (i := x * k + a) ha).2 rfl).1
    have q2 := ((at_place (i := x' * k + a') ha').2 rfl).1
    have q3 := ((at_place (i := y * k + b) hb).2 rfl).1
    have q4 := ((at_place (i := y' * k + b') hb').2 rfl).1
    rw [e1, q2] at q1
    rw [e2, q4] at q3
    exact hcc (by rw [q1, q3])
theorem scR_has {s : List Cell} {k : Nat} (hs : isShape s = true) (hk : 1 ≤ k) {d : Cell} : (scR s k).has d.x d.y = true ↔ ∃ i j : Nat, d = ⟨(i : Int), (j : Int)⟩ ∧ scIn (corner s) k i j = true := by
  obtain ⟨W, H, eW, eH, _, _, _, _, hC⟩ := shp_nat hs
  have cw : wdOf s * (k : Int) = ((W * k : Nat) : Int) := by rw [eW]; simp
  have ch : htOf s * (k : Int) = ((H * k : Nat) : Int) := by rw [eH]; simp
  have hrow : ∀ i j : Nat, j < H * k → ((scR s k).row j).testBit i = (decide (i < W * k) && scIn (corner s) k i j) := fun i j hj => by
    unfold Reg.row scR
    simp only [cw, ch, Int.toNat_natCast, List.getD_eq_getElem?_getD, List.getElem?_map, List.getElem?_range hj, Option.map_some, Option.getD_some]
    exact rowN_bit _
  constructor
  · intro h
    unfold Reg.has at h
    rw [Bool.and_eq_true, decide_eq_true_eq] at h
    obtain ⟨⟨h1, h2, h3, h4⟩, h5⟩ := h
    have h4 : d.y < ((scR s k).rows.length : Int) := h4
    rw [scR_len, ch, Int.toNat_natCast] at h4
    rw [hrow _ _ (by omega), Bool.and_eq_true] at h5
    refine ⟨d.x.toNat, d.y.toNat, ?_, h5.2⟩
    rw [Int.toNat_of_nonneg h1, Int.toNat_of_nonneg h3]
  · rintro ⟨i, j, rfl, h⟩
    obtain ⟨h1, h2⟩ := scIn_lt hk hC h
    unfold Reg.has
    rw [Bool.and_eq_true, decide_eq_true_eq]
    refine ⟨⟨by simp only; omega, ?_, by simp only; omega, ?_⟩, ?_⟩
    · show (i : Int) < wdOf s * (k : Int); rw [cw]; omega
    · show (j : Int) < ((scR s k).rows.length : Int); rw [scR_len, ch, Int.toNat_natCast]; omega
    · simp only [Int.toNat_natCast]
      rw [hrow i j h2, h, decide_eq_true h1]
      rfl
/-- a scaled shape has a square of places for each cell -/
theorem scX_area {s : List Cell} {k : Int} (h : scB s k = true) : areaR (scX s k) = k * k * s.length := by
  obtain ⟨h1, ⟨h2, h3⟩, h4, h5⟩ := scB_is h
  obtain ⟨n, rfl⟩ : ∃ n : Nat, k = (n : Int) := ⟨k.toNat, by omega⟩
  have hX : scX s (n : Int) = scR s n := by rw [scX, if_pos h, Int.toNat_natCast]
  have hn : 1 ≤ n := by omega
  obtain ⟨W, H, _, _, _, _, _, _, hC⟩ := shp_nat h1
  have hC2 : ∀ c ∈ corner s, ∃ x y : Nat, c = ⟨(x : Int), (y : Int)⟩ := fun c hc => by
    obtain ⟨x, y, e, _, _⟩ := hC c hc
    exact ⟨x, y, e⟩
  have hND : (corner s).Nodup := srt_nodup (srt_corner (shp_srt h1))
  have hmem : ∀ d, d ∈ (scR s n).cells ↔ d ∈ sqs (corner s) n := fun d => by rw [Reg.cells_mem, scR_has h1 hn, mem_sqs hn hC2]
  have l1 := nodup_len (cells_nodupQ (r := scR s n)) (fun d hd => (hmem d).1 hd)
  have l2 := nodup_len (sqs_nodup hn hC2 hND) (fun d hd => (hmem d).2 hd)
  have hl : (corner s).length = s.length := by unfold corner; rw [shift_length]
  have : (scR s n).cells.length = s.length * (n * n) := by rw [← hl, ← sqs_len]; omega
  rw [hX, areaR, Reg.valid_iff.2 (scR_valid h1 hn h4 h5), if_pos rfl, this]
  simp
  rw [Int.mul_comm]
end Go.Proofs.YtppbkiajcpdkiaaGreatDoor

namespace Go.Proofs.YtppbkiajcpdkiaaGreatDoor
open Go.RowKit

theorem one_len {r : Reg} (hv : r.Valid) {s : List Cell} (hs : isShape s = true) {m : Nat} (h : m ∈ allN r [s]) : bitsN m 36 = s.length := by
  obtain ⟨k, x, y, _, hm⟩ := allN_one h
  have hcm := mask_cells hv srt_turned hm
  have hl : (moveS (turnS k s) x y).length = s.length := by rw [moveS_len, turn_len (shp_nodup hs)]
  rw [← hl, ← hcm]
  unfold cellsM
  rw [cellsTo_bitsN]
/-- what a tiling of a scaled shape says -/
theorem rt_law {s : List Cell} {k : Int} (h : rtB s k = true) : tlgB (scX s k) [s] (rtL s k) = true ∧ ((rtL s k).length : Int) = k * k := by
  unfold rtB at h
  rw [Bool.and_eq_true] at h
  obtain ⟨h1, h2⟩ := h
  have hL : rtL s k = nl (findL (scX s k) [s]) := by unfold rtL; rw [if_pos h1]
  rw [hL]
  refine ⟨find_tlg h2, ?_⟩
  obtain ⟨hs, ⟨hk1, hk6⟩, _, _⟩ := scB_is h1
  have har := scX_area h1
  obtain ⟨r, hr⟩ : ∃ r, r = scX s k := ⟨_, rfl⟩
  rw [← hr] at h2 har ⊢
  unfold findB at h2
  rw [Bool.and_eq_true] at h2
  obtain ⟨hc, ho⟩ := h2
  rw [(find_yes hc).2]
  obtain ⟨t, ht⟩ : ∃ t, (til (allN r [s]) r.mask)[0]? = some t := by
    unfold ordB at ho
    exact Option.isSome_iff_exists.1 ho
  have hR : ordR (allN r [s]) r.mask 0 = t := by unfold ordR; rw [ht]; rfl
  rw [hR]
  have hval := (Bool.and_eq_true_iff.1 hc).1
  have hv := Reg.valid_iff.1 hval
  have hcnt := til_count (fun m hm => one_len hv hs hm) r.mask (Reg.mask_lt hv) t (List.mem_of_getElem? ht)
  have har2 : areaR r = ((bitsN r.mask 36 : Nat) : Int) := by
    unfold areaR
    rw [hval, if_pos rfl, cells_cnt hv, bitsN_cnt]
    rfl
  have hsl := (shp_len hs).1
  rw [har2, ← hcnt] at har
  have hn : (nl t).length = t.length := by simp [nl]
  rw [hn]
  refine Int.eq_of_mul_eq_mul_right (a := (s.length : Int)) (by omega) ?_
  rw [← har]
  simp
end Go.Proofs.YtppbkiajcpdkiaaGreatDoor
