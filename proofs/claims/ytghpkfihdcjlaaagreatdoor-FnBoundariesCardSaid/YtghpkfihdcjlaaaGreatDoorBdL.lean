
/-
  The words that the law draws. The helpers of the laws over bytes: too many bytes, lists compared. The law FnBoundaries, walked by contracts.
-/
import Derived.Test.YtghpkfihdcjlaaaGreatDoorBdI
import Derived.Test.YtghpkfihdcjlaaaGreatDoorBdD
import Derived.Test.YtghpkfihdcjlaaaGreatDoorBdB
import Derived.Test.YtghpkfihdcjlaaaGreatDoorDraw
import Derived.Test.YtghpkfihdcjlaaaGreatDoorCwWalks
import Derived.Test.YtghpkfihdcjlaaaGreatDoorEqW
import Derived.Test.YtghpkfihdcjlaaaGreatDoorBdS
import Derived.Test.YtghpkfihdcjlaaaGreatDoorBdJ
import Derived.Test.YtghpkfihdcjlaaaGreatDoorBdC
namespace Go.Proofs.YtghpkfihdcjlaaaGreatDoor
open Go.RowKit

/-- what the walks ask of a word -/
structure GoodW (w : List UInt8) : Prop where
  len : w.length ≤ 1048576
  sho : shortR w
  odd : clB w = true → ∀ S, OddS w S → S.length ≤ 12
  fil : clB w = true → (filTo w 40).length ≤ 64
theorem good_bord {s : List Cell} (h : bordOk s = true) : GoodW (bordW s) := by
  obtain ⟨a, K, ha, hK, hw, hsh, hh, hf, hn, h40⟩ := bw_data h
  have hl := shp_len hsh
  refine ⟨by rw [hw, wrd_len]; omega, bw_short h, fun _ S hS => ?_, fun _ => ?_⟩
  · rw [(bw_oddS h hS).2]; omega
  · rw [bw_fil h ha, shift_length]; omega
theorem short_len {w : List UInt8} (h : w.length ≤ 9) : shortR w := fun i k u hik hu => by
  by_cases e : i = k
  · omega
  · have h2 := (List.getElem?_eq_some_iff.1 (hu (k - 1) (by omega) (by omega))).1
    omega
theorem wndA_far {x y : Int} {p : Cell} {d : Nat} (hp : p.x ≤ 8) (hx : 8 ≤ x) : wndA x y p d = wndA 8 y p d := by
  unfold wndA
  rw [decide_eq_true (show p.x ≤ x by omega), decide_eq_true hp]
theorem wndA_out {x y : Int} {p : Cell} {d : Nat} (h : p.y < y ∨ y < p.y - 1 ∨ x < p.x) : wndA x y p d = 0 := by
  have h4 : (decide (p.y - 1 = y) && decide (p.x ≤ x)) = false := by rw [← Bool.decide_and]; exact decide_eq_false (by omega)
  have h5 : (decide (p.y = y) && decide (p.x ≤ x)) = false := by rw [← Bool.decide_and]; exact decide_eq_false (by omega)
  unfold wndA
  rw [h4, h5, Bool.and_false, Bool.and_false]
  rfl
theorem sumB_eq {F G : Cell → Nat → Int} {w : List UInt8} (h : ∀ i d, i ≤ w.length → F (wayW w i) d = G (wayW w i) d) : ∀ n, n ≤ w.length → sumB F w n = sumB G w n
  | 0, _ => rfl
  | n + 1, hn => by
    rw [sumB, sumB, sumB_eq h n (by omega)]
    cases w[n]? with
    | none => rfl
    | some u => simp only; rw [h n _ (by omega)]
theorem sumB_nul {w : List UInt8} : ∀ n, sumB (fun _ _ => 0) w n = 0
  | 0 => rfl
  | n + 1 => by
    rw [sumB, sumB_nul n]
    cases w[n]? <;> rfl
def oddG (w : List UInt8) : List Cell := (gridL (-8) (-9) 16 18).filter fun c => decide (oddF w c = 1)
theorem good_odd {w : List UInt8} (hl : w.length ≤ 8) (h8 : ∀ k : Nat, k < 18 → sumB (wndA 8 ((k : Int) - 9)) w w.length % 2 = 0) (hL : (oddG w).length ≤ 12) : ∀ S, OddS w S → S.length ≤ 12 := fun S hS => by
  refine Nat.le_trans (nodup_len hS.1 fun c hc => ?_) hL
  have ho := (hS.2 c).1 hc
  unfold oddG
  rw [List.mem_filter]
  refine ⟨?_, decide_eq_true ho⟩
  have hbd : ∀ i, i ≤ w.length → (-8 ≤ (wayW w i).x ∧ (wayW w i).x ≤ 8) ∧ (-8 ≤ (wayW w i).y ∧ (wayW w i).y ≤ 8) := fun i hi => by
    have := wayW_bd w i
    omega
  unfold oddF at ho
  split at ho
  case isFalse => cases ho
  have hin : -9 ≤ c.y ∧ c.y ≤ 8 ∧ -8 ≤ c.x := by
    apply Classical.byContradiction
    intro hn
    rw [sumB_eq (G := fun _ _ => 0) (fun i d hi => wndA_out (by have := hbd i hi; omega)) _ (Nat.le_refl _), sumB_nul] at ho
    cases ho
  have hx8 : c.x < 8 := by
    apply Classical.byContradiction
    intro hn
    rw [sumB_eq (G := wndA 8 c.y) (fun i d hi => wndA_far (hbd i hi).1.2 (by omega)) _ (Nat.le_refl _)] at ho
    have h2 := h8 (c.y + 9).toNat (by omega)
    rw [show (((c.y + 9).toNat : Nat) : Int) - 9 = c.y by omega] at h2
    omega
  exact gridL_mem (by omega) (by omega) (by omega) (by omega)
def words9 : List (List UInt8) := [[], [114, 100, 108, 117], [114, 100, 108], [117, 114, 100, 108], [114, 114, 100, 100, 108, 108, 117, 117], [114, 100, 108, 117, 114, 100, 108, 117], [114, 117, 108, 100], [120], [114, 100, 120, 108, 117]]
theorem good9_yes {w : List UInt8} (hl : w.length ≤ 8) (h8 : ∀ k : Nat, k < 18 → sumB (wndA 8 ((k : Int) - 9)) w w.length % 2 = 0) (hL : (oddG w).length ≤ 12) (hf : (filTo w 40).length ≤ 64) : GoodW w :=
  ⟨by omega, short_len (by omega), fun _ => good_odd hl h8 hL, fun _ => hf⟩
theorem good9_no {w : List UInt8} (hl : w.length ≤ 8) (h : clB w = false) : GoodW w :=
  ⟨by omega, short_len (by omega), fun h' => absurd (h.symm.trans h') (by decide), fun h' => absurd (h.symm.trans h') (by decide)⟩
theorem good9 : ∀ w ∈ words9, GoodW w := by
  intro w hw
  simp only [words9, List.mem_cons, List.not_mem_nil, or_false] at hw
  rcases hw with rfl | rfl | rfl | rfl | rfl | rfl | rfl | rfl | rfl
  · exact good9_yes (by decide) (by decide +kernel) (by decide +kernel) (by decide +kernel)
  · exact good9_yes (by decide) (by decide +kernel) (by decide +kernel) (by decide +kernel)
  · exact good9_no (by decide) (by decide +kernel)
  · exact good9_yes (by decide) (by decide +kernel) (by decide +kernel) (by decide +kernel)
  · exact good9_yes (by decide) (by decide +kernel) (by decide +kernel) (by decide +kernel)
  · exact good9_yes (by decide) (by decide +kernel) (by decide +kernel) (by decide +kernel)
  · exact good9_yes (by decide) (by decide +kernel) (by decide +kernel) (by decide +kernel)
  · exact good9_no (by decide) (by decide +kernel)
  · exact good9_no (by decide) (by decide +kernel)
/-- a drawn word -/
def WdD (w : World) : Ending → World → Prop := fun e w' => ∃ W : List UInt8, e = .returned (.string (wstr W)) ∧ GoodW W ∧ Below w.heap.size w w'
set_option maxRecDepth 100000 in
set_option maxHeartbeats 1600000 in
theorem l28Word_c {v : Value} {l : List UInt8} (w : World) (h : BytesRd w 0 w.heap.size v l) (hn : l.length ≤ 1048576) :
    Calls Tryz.prog 40 #[v] w (WdD w) := by
  have HB : Hid (∀ w', Below w.heap.size w w' → BytesRd w' 0 w'.heap.size v l) := Lib.hid fun w' b => (h.keep (SameIn.of_below b (Nat.le_refl _))).more (Nat.le_refl _) b.size
  go_enter Tryz.func40, Tryz.ntmps40
  go_wp2_with fail
  refine (l1New_c h hn (Sep.start w)).mono ?_
  rintro e w1 ⟨g, rfl, H1⟩
  have HD := Lib.hid (drawBord_c w1 (HB.out w1 H1.sep.below) hn)
  clear h
  go_wp2_with fail
  refine (HD.out).mono ?_
  rintro e w2 ⟨va, s, rfl, hs, hs8, b2⟩
  have H2 := H1.map (fun X h => h.step b2)
  have HBW := Lib.hid (spec_bord_c w2 hs (by omega))
  obtain ⟨A, c, rfl, _, _⟩ := hs
  obtain ⟨ok, hok⟩ : ∃ b, b = bordOk s := ⟨_, rfl⟩
  obtain ⟨BT, hBT⟩ : ∃ b, b = wstr (bordW s) := ⟨_, rfl⟩
  rw [← hok, ← hBT] at HBW
  have HOK := Lib.hid hok
  have HBT := Lib.hid hBT
  clear HD H1 b2 hok hBT
  go_wp2_with fail
  refine (HBW.out).mono ?_
  rintro e w3 ⟨rfl, b3⟩
  have H3 := H2.map (fun X h => h.step b3)
  clear HBW H2 b3
  cases ok
  case false =>
    have H5 := H3.map (fun X h => (h.rowBox 9 #[.string ⟨#[]⟩, .string ⟨#[114, 100, 108, 117]⟩, .string ⟨#[114, 100, 108]⟩, .string ⟨#[117, 114, 100, 108]⟩, .string ⟨#[114, 114, 100, 100, 108, 108, 117, 117]⟩, .string ⟨#[114, 100, 108, 117, 114, 100, 108, 117]⟩, .string ⟨#[114, 117, 108, 100]⟩, .string ⟨#[120]⟩, .string ⟨#[114, 100, 120, 108, 117]⟩] 1 9 rfl (by decide)).g1)
    clear H3
    go_wp2_with fail
    refine (l1PickS_c (n := 9) (b := w3.heap.size) (xs := words9.map wstr) rfl (by omega) (by omega) H5).mono ?_
    rintro e w9 ⟨x, rfl, hx, H6⟩
    obtain ⟨W, hW, rfl⟩ := List.mem_map.1 hx
    have HGW := Lib.hid (good9 W hW)
    have hb := H6.sep.below
    obtain ⟨BW, hBW⟩ : ∃ b, b = wstr W := ⟨_, rfl⟩
    rw [← hBW]
    clear H5 H6 hx hW
    go_wp2
    go_ret
    exact ⟨W, by rw [← hBW]; rfl, HGW.out, hb⟩
  case true =>
    go_wp2_with fail
    refine (l1Once_c 4 H3 (by omega)).mono ?_
    rintro e w4 ⟨q, rfl, H4⟩
    clear H3
    cases q
    case true =>
      have H5 := H4.map (fun X h => (h.rowBox 9 #[.string ⟨#[]⟩, .string ⟨#[114, 100, 108, 117]⟩, .string ⟨#[114, 100, 108]⟩, .string ⟨#[117, 114, 100, 108]⟩, .string ⟨#[114, 114, 100, 100, 108, 108, 117, 117]⟩, .string ⟨#[114, 100, 108, 117, 114, 100, 108, 117]⟩, .string ⟨#[114, 117, 108, 100]⟩, .string ⟨#[120]⟩, .string ⟨#[114, 100, 120, 108, 117]⟩] 1 9 rfl (by decide)).g1)
      clear H4
      go_wp2_with fail
      refine (l1PickS_c (n := 9) (b := w4.heap.size) (xs := words9.map wstr) rfl (by omega) (by omega) H5).mono ?_
      rintro e w9 ⟨x, rfl, hx, H6⟩
      obtain ⟨W, hW, rfl⟩ := List.mem_map.1 hx
      have HGW := Lib.hid (good9 W hW)
      have hb := H6.sep.below
      obtain ⟨BW, hBW⟩ : ∃ b, b = wstr W := ⟨_, rfl⟩
      rw [← hBW]
      clear H5 H6 hx hW
      go_wp2
      go_ret
      exact ⟨W, by rw [← hBW]; rfl, HGW.out, hb⟩
    case false =>
      have hb := H4.sep.below
      clear H4
      go_wp2
      go_ret
      exact ⟨bordW s, by rw [← HBT.out]; rfl, good_bord HOK.out.symm, hb⟩
set_option maxRecDepth 100000 in
set_option maxHeartbeats 800000 in
theorem drawInside_c {v : Value} {l : List UInt8} (w : World) (h : BytesRd w 0 w.heap.size v l) (hn : l.length ≤ 1048576) :
    Calls Tryz.prog 14 #[v] w (WdD w) := by
  go_enter Tryz.func14, Tryz.ntmps14
  go_wp2_with fail
  refine (l28Word_c w h hn).mono ?_
  rintro e w1 ⟨W, rfl, hW, b1⟩
  have HW := Lib.hid hW
  obtain ⟨BW, hBW⟩ : ∃ b, b = wstr W := ⟨_, rfl⟩
  rw [← hBW]
  clear h hW
  go_wp2
  go_ret
  exact ⟨W, by rw [← hBW]; rfl, HW.out, b1⟩
end Go.Proofs.YtghpkfihdcjlaaaGreatDoor

namespace Go.Proofs.YtghpkfihdcjlaaaGreatDoor
open Go.RowKit

set_option maxRecDepth 100000 in
theorem big_no {v : Value} {l : List UInt8} (w : World) (h : BytesRd w 0 w.heap.size v l) (hl : l.length ≤ 1048576) :
    Calls Tryz.prog 4 #[v] w fun e w' => e = .returned (.bool false) ∧ w = w' := by
  obtain ⟨A, c, rfl, hm, hr⟩ := h
  have hd : decide ((1048576 : Int) < (l.length : Int)) = false := by simp; omega
  clear hr
  go_enter Tryz.func4, Tryz.ntmps4
  go_wp2
  go_ret
  exact ⟨rfl, rfl⟩
set_option maxRecDepth 100000 in
theorem big_yes {v : Value} {l : List UInt8} (w : World) (h : BytesRd w 0 w.heap.size v l) (hl : 1048576 < l.length) :
    Calls Tryz.prog 4 #[v] w fun e w' => e = .returned (.bool true) ∧ w = w' := by
  obtain ⟨A, c, rfl, hm, hr⟩ := h
  have hd : decide ((1048576 : Int) < (l.length : Int)) = true := by simp; omega
  clear hr
  go_enter Tryz.func4, Tryz.ntmps4
  go_wp2
  go_ret
  exact ⟨rfl, rfl⟩

set_option maxRecDepth 100000 in
set_option maxHeartbeats 800000 in
theorem spec_eqShapes_same {v v' : Value} {l : List Cell} (w : World) (h : CellsRd w 0 w.heap.size v l) (h' : CellsRd w 0 w.heap.size v' l) :
    Calls Tryz.prog 11 #[v, v'] w fun e w' => e = .returned (.bool true) ∧ Below w.heap.size w w' := by
  obtain ⟨A, c, rfl, hm, hr⟩ := h
  obtain ⟨A', c', rfl, hm', hr'⟩ := h'
  unfold maxLen at hm
  clear hm'
  go_enter Tryz.func11, Tryz.ntmps11
  go_wp2
  go_loopw [5] (fun i wr => ∃ k : Nat, k ≤ l.length ∧ i = .int .i64 k ∧ Below w.heap.size w wr) (fun i _ => l.length - (intOf i).toNat)
  case atStart => exact ⟨0, Nat.zero_le _, rfl, Below.refl _ _⟩
  case round =>
    obtain ⟨k, hk, rfl, hbel⟩ := hrel
    by_cases hlt : k < l.length
    · obtain ⟨b, off, a, rfl, _, hb, hla, q1, q2⟩ := (hr.below hbel (Nat.le_refl _)).at2 hlt
      obtain ⟨b', off', a', rfl, _, hb', hla', q1', q2'⟩ := (hr'.below hbel (Nat.le_refl _)).at2 hlt
      obtain rfl : a = a' := by rw [hla] at hla'; injection hla'
      have heq : ∀ n, (Op.equal 46 (.agg #[.int .i64 a.x, .int .i64 a.y]) (.agg #[.int .i64 a.x, .int .i64 a.y])).run Tryz.prog (wr.drewN n) = .ok true (wr.drewN n) := fun n => by have := run_equal_cell (wr.drewN n) a a; rw [decide_eq_true rfl] at this; exact this
      clear hr hr' hla hla'
      go_wp2_with fail
      go_quiet (fail)
      have hbel2 := below_drewN hbel nq
      generalize wr.drewN nq = w2 at *
      clear heq q1 q2 q1' q2'
      go_wp2
      go_roundw
      case rel => exact ⟨k + 1, by omega, by go_num, hbel2⟩
      case measure => simp [intOf]; omega
    · go_wp2
      go_ret
      exact ⟨rfl, hbel⟩

end Go.Proofs.YtghpkfihdcjlaaaGreatDoor

namespace Go.Proofs.YtghpkfihdcjlaaaGreatDoor
open Go.RowKit

theorem cells_stepB {w w' : World} {v : Value} {l : List Cell} (h : CellsRd w 0 w.heap.size v l) (b : Below w.heap.size w w') : CellsRd w' 0 w'.heap.size v l := (h.keep (SameIn.of_below b (Nat.le_refl _))).more (Nat.le_refl _) b.size
set_option maxRecDepth 100000 in
set_option maxHeartbeats 6400000 in
theorem law_bd (v : Value) (l : List UInt8) (w : World) (h : BytesRd w 0 w.heap.size v l) :
    Calls Tryz.prog 3 #[v] w fun e w' => e = .returned (.bool true) ∧ Below w.heap.size w w' := by
  by_cases hl : l.length ≤ 1048576
  · have HBY : Hid (∀ w', Below w.heap.size w w' → BytesRd w' 0 w'.heap.size v l) := Lib.hid fun w' b => (h.keep (SameIn.of_below b (Nat.le_refl _))).more (Nat.le_refl _) b.size
    go_enter Tryz.func3, Tryz.ntmps3
    go_wp2_with fail
    refine (big_no w h hl).mono ?_
    rintro e w' ⟨rfl, rfl⟩
    go_wp2_with fail
    refine (drawBord_c w h hl).mono ?_
    rintro e W0 ⟨va, s, rfl, hs, hs8, b1⟩
    have HW1 := Lib.hid b1
    have HA : Hid (∀ w', Below W0.heap.size W0 w' → CellsRd w' 0 w'.heap.size va s) := Lib.hid fun w' b => cells_stepB hs b
    clear b1 h
    obtain ⟨ok, hok⟩ : ∃ b, b = bordOk s := ⟨_, rfl⟩
    obtain ⟨BT, hBT⟩ : ∃ b, b = wstr (bordW s) := ⟨_, rfl⟩
    have H1 : Hid (∀ w', Below W0.heap.size W0 w' → Calls Tryz.prog 6 #[va] w' fun e w'' => e = .returned (.tuple #[.string BT, .bool ok]) ∧ Below w'.heap.size w' w'') := Lib.hid fun w' b => by rw [hBT, hok]; exact impl_bord_c w' (HA.out w' b) (by omega)
    have H2 : Hid (∀ w', Below W0.heap.size W0 w' → Calls Tryz.prog 7 #[va] w' fun e w'' => e = .returned (.tuple #[.string BT, .bool ok]) ∧ Below w'.heap.size w' w'') := Lib.hid fun w' b => by rw [hBT, hok]; exact spec_bord_c w' (HA.out w' b) (by omega)
    have HOK := Lib.hid hok
    have HBT := Lib.hid hBT
    obtain ⟨As, cs, rfl, _, _⟩ := hs
    clear hok hBT
    have HH : Below W0.heap.size W0 W0 := Below.refl _ _
    go_wp2_with fail
    refine (H1.out _ HH).mono ?_
    rintro e w2 ⟨rfl, bb⟩
    replace HH := HH.trans (bb.mono HH.size)
    clear bb
    go_wp2_with fail
    refine (H2.out _ HH).mono ?_
    rintro e w3 ⟨rfl, bb⟩
    replace HH := HH.trans (bb.mono HH.size)
    clear bb
    clear H1 H2
    have hbb : (BT.toList == BT.toList) = true := by simp
    cases ok
    case false =>
      have HB0 := Lib.hid (HW1.out.trans (HH.mono HW1.out.size))
      clear HH
      go_wp2_with fail
      refine (drawInside_c _ (HBY.out _ HB0.out) hl).mono ?_
      rintro e U ⟨W, rfl, hgw, bu⟩
      have HW2 := Lib.hid (HB0.out.trans (bu.mono HB0.out.size))
      have HGW := Lib.hid hgw
      clear hgw bu
      obtain ⟨BW, hBW⟩ : ∃ b, b = wstr W := ⟨_, rfl⟩
      obtain ⟨C, hC⟩ : ∃ b, b = clB W := ⟨_, rfl⟩
      obtain ⟨Z, hZ⟩ : ∃ b, b = arZ W := ⟨_, rfl⟩
      obtain ⟨t1, ht1⟩ : ∃ b, b = rtN W := ⟨_, rfl⟩
      obtain ⟨t2, ht2⟩ : ∃ b, b = lfN W := ⟨_, rfl⟩
      obtain ⟨R, hR⟩ : ∃ b, b = okI W := ⟨_, rfl⟩
      obtain ⟨BC, hBC⟩ : ∃ b, b = wstr (cmpB W) := ⟨_, rfl⟩
      obtain ⟨IL, hIL⟩ : ∃ b, b = insL W := ⟨_, rfl⟩
      have K1 : Hid (∀ w', Below U.heap.size U w' → Calls Tryz.prog 10 #[.string BW] w' fun e w'' => ∃ v, e = .returned (.tuple #[v, .bool R]) ∧ CellsIn w'' w'.heap.size w''.heap.size v IL ∧ Below w'.heap.size w' w'') := Lib.hid fun w' _ => by rw [hBW, hR, hIL]; exact impl_inside_c w' HGW.out.odd
      have K2 : Hid (∀ w', Below U.heap.size U w' → Calls Tryz.prog 15 #[.string BW] w' fun e w'' => ∃ v, e = .returned (.tuple #[v, .bool R]) ∧ CellsIn w'' w'.heap.size w''.heap.size v IL ∧ Below w'.heap.size w' w'') := Lib.hid fun w' _ => by rw [hBW, hR, hIL]; exact spec_inside_c w' HGW.out.fil
      have K3 : Hid (∀ w', Below U.heap.size U w' → Calls Tryz.prog 8 #[.string BW] w' fun e w'' => e = .returned (.tuple #[.int .i64 Z, .bool C]) ∧ Below w'.heap.size w' w'') := Lib.hid fun w' _ => by rw [hBW, hZ, hC]; exact impl_area_c w'
      have K4 : Hid (∀ w', Below U.heap.size U w' → Calls Tryz.prog 16 #[.string BW] w' fun e w'' => e = .returned (.tuple #[.int .i64 Z, .bool C]) ∧ Below w'.heap.size w' w'') := Lib.hid fun w' _ => by rw [hBW, hZ, hC]; exact spec_area_c w'
      have K5 : Hid (∀ w', Below U.heap.size U w' → Calls Tryz.prog 17 #[.string BW] w' fun e w'' => e = .returned (.tuple #[.string BC, .bool C]) ∧ Below w'.heap.size w' w'') := Lib.hid fun w' _ => by rw [hBW, hBC, hC]; exact impl_cmp_c w' HGW.out.sho
      have K6 : Hid (∀ w', Below U.heap.size U w' → Calls Tryz.prog 18 #[.string BW] w' fun e w'' => e = .returned (.tuple #[.string BC, .bool C]) ∧ Below w'.heap.size w' w'') := Lib.hid fun w' _ => by rw [hBW, hBC, hC]; exact spec_cmp_c w' HGW.out.sho
      have K7 : Hid (∀ w', Below U.heap.size U w' → Calls Tryz.prog 9 #[.string BW] w' fun e w'' => e = .returned (.tuple #[.int .i64 (t1 : Nat), .int .i64 (t2 : Nat)]) ∧ Below w'.heap.size w' w'') := Lib.hid fun w' _ => by rw [hBW, ht1, ht2]; exact impl_turns_c w'
      have K8 : Hid (∀ w', Below U.heap.size U w' → Calls Tryz.prog 19 #[.string BW] w' fun e w'' => e = .returned (.tuple #[.int .i64 (t1 : Nat), .int .i64 (t2 : Nat)]) ∧ Below w'.heap.size w' w'') := Lib.hid fun w' _ => by rw [hBW, ht1, ht2]; exact spec_turns_c w' HGW.out.len
      have K9 : Hid (∀ w', Below U.heap.size U w' → Calls Tryz.prog 13 #[.string BW] w' fun e w'' => e = .returned (.bool C) ∧ Below w'.heap.size w' w'') := Lib.hid fun w' _ => by rw [hBW, hC]; exact impl_isClosed_c w'
      have K10 : Hid (∀ w', Below U.heap.size U w' → Calls Tryz.prog 20 #[.string BW] w' fun e w'' => e = .returned (.bool C) ∧ Below w'.heap.size w' w'') := Lib.hid fun w' _ => by rw [hBW, hC]; exact spec_isClosed_c w'
      rw [← hBW]
      clear hBW hC hZ ht1 ht2 hR hBC hIL
      have HH : Below U.heap.size U U := Below.refl _ _
      go_wp2_with fail
      refine (K1.out _ HH).mono ?_
      rintro e U2 ⟨x1, rfl, o1, bb⟩
      have HX1 := Lib.hid (o1.rd.more (Nat.zero_le _) (Nat.le_refl _))
      obtain ⟨A1, c1, rfl, _, _⟩ := o1.rd
      replace HH := HH.trans (bb.mono HH.size)
      clear bb o1
      go_wp2_with fail
      refine (K2.out _ HH).mono ?_
      rintro e U3 ⟨x2, rfl, o2, bb⟩
      have HX2 := Lib.hid (o2.rd.more (Nat.zero_le _) (Nat.le_refl _))
      have HX1b := Lib.hid (cells_stepB HX1.out bb)
      obtain ⟨A2, c2, rfl, _, _⟩ := o2.rd
      replace HH := HH.trans (bb.mono HH.size)
      clear o2 HX1
      have HE : Hid (∀ w', Below U3.heap.size U3 w' → Calls Tryz.prog 11 #[.slice A1 IL.length c1, .slice A2 IL.length c2] w' fun e w'' => e = .returned (.bool true) ∧ Below w'.heap.size w' w'') := Lib.hid fun w' b => spec_eqShapes_same w' (cells_stepB HX1b.out b) (cells_stepB HX2.out b)
      have HH3 : Below U3.heap.size U3 U3 := Below.refl _ _
      have HU3 := Lib.hid HH
      clear bb HX1b HX2
      go_wp2_with fail
      refine (K3.out _ HH).mono ?_
      rintro e U4 ⟨rfl, bb⟩
      replace HH := HH.trans (bb.mono HH.size)
      replace HH3 := HH3.trans (bb.mono HH3.size)
      clear bb
      go_wp2_with fail
      refine (K4.out _ HH).mono ?_
      rintro e U5 ⟨rfl, bb⟩
      replace HH := HH.trans (bb.mono HH.size)
      replace HH3 := HH3.trans (bb.mono HH3.size)
      clear bb
      go_wp2_with fail
      refine (K5.out _ HH).mono ?_
      rintro e U6 ⟨rfl, bb⟩
      replace HH := HH.trans (bb.mono HH.size)
      replace HH3 := HH3.trans (bb.mono HH3.size)
      clear bb
      go_wp2_with fail
      refine (K6.out _ HH).mono ?_
      rintro e U7 ⟨rfl, bb⟩
      replace HH := HH.trans (bb.mono HH.size)
      replace HH3 := HH3.trans (bb.mono HH3.size)
      clear bb
      go_wp2_with fail
      refine (K7.out _ HH).mono ?_
      rintro e U8 ⟨rfl, bb⟩
      replace HH := HH.trans (bb.mono HH.size)
      replace HH3 := HH3.trans (bb.mono HH3.size)
      clear bb
      go_wp2_with fail
      refine (K8.out _ HH).mono ?_
      rintro e U9 ⟨rfl, bb⟩
      replace HH := HH.trans (bb.mono HH.size)
      replace HH3 := HH3.trans (bb.mono HH3.size)
      clear bb
      go_wp2_with fail
      refine (HE.out _ HH3).mono ?_
      rintro e U10 ⟨rfl, bb⟩
      replace HH := HH.trans (bb.mono HH.size)
      clear bb HE HH3
      go_wp2_with fail
      refine (K9.out _ HH).mono ?_
      rintro e U11 ⟨rfl, bb⟩
      replace HH := HH.trans (bb.mono HH.size)
      clear bb
      go_wp2_with fail
      refine (K10.out _ HH).mono ?_
      rintro e U12 ⟨rfl, bb⟩
      replace HH := HH.trans (bb.mono HH.size)
      clear bb
      have HF := Lib.hid (HW2.out.trans (HH.mono HW2.out.size))
      clear K1 K2 K3 K4 K5 K6 K7 K8 K9 K10 HH
      go_wp2
      go_ret
      exact ⟨rfl, HF.out⟩
    case true =>
      have hb := HOK.out.symm
      obtain ⟨n, hn⟩ : ∃ n, n = s.length := ⟨_, rfl⟩
      obtain ⟨t1, ht1⟩ : ∃ t, t = rtN (bordW s) := ⟨_, rfl⟩
      obtain ⟨t2, ht2⟩ : ∃ t, t = lfN (bordW s) := ⟨_, rfl⟩
      have hcl := bw_closed hb
      obtain ⟨hk1, hk2⟩ := okI_bord hb
      obtain ⟨T, hT⟩ : ∃ T, T = corner s := ⟨_, rfl⟩
      have H3 : Hid (∀ w', Below W0.heap.size W0 w' → Calls Tryz.prog 8 #[.string BT] w' fun e w'' => e = .returned (.tuple #[.int .i64 (n : Nat), .bool true]) ∧ Below w'.heap.size w' w'') := Lib.hid fun w' _ => by
        have := impl_area_c (W := bordW s) w'
        rw [hcl, bw_area hb] at this
        rw [HBT.out, hn]
        exact this
      have H4 : Hid (∀ w', Below W0.heap.size W0 w' → Calls Tryz.prog 9 #[.string BT] w' fun e w'' => e = .returned (.tuple #[.int .i64 (t1 : Nat), .int .i64 (t2 : Nat)]) ∧ Below w'.heap.size w' w'') := Lib.hid fun w' _ => by
        rw [HBT.out, ht1, ht2]
        exact impl_turns_c w'
      have H5 : Hid (∀ w', Below W0.heap.size W0 w' → Calls Tryz.prog 10 #[.string BT] w' fun e w'' => ∃ v, e = .returned (.tuple #[v, .bool true]) ∧ CellsIn w'' w'.heap.size w''.heap.size v T ∧ Below w'.heap.size w' w'') := Lib.hid fun w' _ => by
        have := impl_inside_c (W := bordW s) w' (good_bord hb).odd
        rw [hk1, hk2, ← hT] at this
        rw [HBT.out]
        exact this
      have H6 : Hid (∀ w', Below W0.heap.size W0 w' → Calls Tryz.prog 12 #[.slice As s.length cs] w' fun e w'' => ∃ v, e = .returned v ∧ CellsIn w'' w'.heap.size w''.heap.size v T ∧ Below w'.heap.size w' w'') := Lib.hid fun w' b => by
        obtain ⟨a, K, ha, hK, hw, hsh, _⟩ := bw_data hb
        rw [hT]
        exact cornerShape_c w' (HA.out w' b) hsh
      have H7 : Hid (∀ w', Below W0.heap.size W0 w' → Calls Tryz.prog 13 #[.string BT] w' fun e w'' => e = .returned (.bool true) ∧ Below w'.heap.size w' w'') := Lib.hid fun w' _ => by
        have := impl_isClosed_c (W := bordW s) w'
        rw [hcl] at this
        rw [HBT.out]
        exact this
      have htt := bw_turns hb
      rw [← ht1, ← ht2] at htt
      have ht40 : t1 ≤ 40 ∧ t2 ≤ 40 := by
        have h40 := (clB_iff.1 hcl).1
        have e1 := trTo_le tRt (bordW s) (bordW s).length
        have e2 := trTo_le tLf (bordW s) (bordW s).length
        rw [ht1, ht2, rtN, lfN, if_pos hcl, if_pos hcl]
        omega
      have hnn : ((n : Nat) : Int) = (s.length : Int) := by rw [hn]
      have HNN := Lib.hid hn
      rw [← hn] at H6 hs8 ⊢
      have y1 : wrap64 ((t1 : Int) - (t2 : Int)) = 4 := by rw [htt]; exact IntWalk.wrap64_in _ (by omega)
      have y2 : IntKind.i64.wrap ((t1 : Int) - (t2 : Int)) = 4 := by rw [htt]; exact IntWalk.i64_in _ (by omega)
      have HTT := Lib.hid htt
      have Y1 := Lib.hid y1
      have Y2 := Lib.hid y2
      clear hn ht1 ht2 hcl hk1 hk2 hT htt hnn y1 y2 HA ht40 hb
      go_wp2_with fail
      refine (H3.out _ HH).mono ?_
      rintro e w4 ⟨rfl, bb⟩
      replace HH := HH.trans (bb.mono HH.size)
      clear bb
      go_wp2_with fail
      refine (H4.out _ HH).mono ?_
      rintro e w5 ⟨rfl, bb⟩
      replace HH := HH.trans (bb.mono HH.size)
      clear bb
      go_wp2_with fail
      refine (H5.out _ HH).mono ?_
      rintro e w6 ⟨x1, rfl, o1, bb⟩
      have HX1 := Lib.hid (o1.rd.more (Nat.zero_le _) (Nat.le_refl _))
      obtain ⟨A1, c1, rfl, _, _⟩ := o1.rd
      replace HH := HH.trans (bb.mono HH.size)
      clear bb o1
      have y1 := Y1.out
      have y2 := Y2.out
      go_wp2_with fail
      clear y1 y2
      refine (H6.out _ HH).mono ?_
      rintro e w7 ⟨x2, rfl, o2, bb⟩
      have HX2 := Lib.hid (o2.rd.more (Nat.zero_le _) (Nat.le_refl _))
      have HX1b := Lib.hid (cells_stepB HX1.out bb)
      obtain ⟨A2, c2, rfl, _, _⟩ := o2.rd
      replace HH := HH.trans (bb.mono HH.size)
      clear o2 HX1 bb
      have HE := Lib.hid (spec_eqShapes_same _ HX1b.out HX2.out)
      go_wp2_with fail
      refine (HE.out).mono ?_
      rintro e w8 ⟨rfl, bb⟩
      replace HH := HH.trans (bb.mono HH.size)
      clear bb HE HX1b HX2
      go_wp2_with fail
      refine (H7.out _ HH).mono ?_
      rintro e w9 ⟨rfl, bb⟩
      replace HH := HH.trans (bb.mono HH.size)
      clear bb
      clear H3 H4 H5 H6 H7 HTT Y1 Y2
      have HB0 := Lib.hid (HW1.out.trans (HH.mono HW1.out.size))
      clear HH
      go_wp2_with fail
      refine (drawInside_c _ (HBY.out _ HB0.out) hl).mono ?_
      rintro e U ⟨W, rfl, hgw, bu⟩
      have HW2 := Lib.hid (HB0.out.trans (bu.mono HB0.out.size))
      have HGW := Lib.hid hgw
      clear hgw bu
      obtain ⟨BW, hBW⟩ : ∃ b, b = wstr W := ⟨_, rfl⟩
      obtain ⟨C, hC⟩ : ∃ b, b = clB W := ⟨_, rfl⟩
      obtain ⟨Z, hZ⟩ : ∃ b, b = arZ W := ⟨_, rfl⟩
      obtain ⟨t1, ht1⟩ : ∃ b, b = rtN W := ⟨_, rfl⟩
      obtain ⟨t2, ht2⟩ : ∃ b, b = lfN W := ⟨_, rfl⟩
      obtain ⟨R, hR⟩ : ∃ b, b = okI W := ⟨_, rfl⟩
      obtain ⟨BC, hBC⟩ : ∃ b, b = wstr (cmpB W) := ⟨_, rfl⟩
      obtain ⟨IL, hIL⟩ : ∃ b, b = insL W := ⟨_, rfl⟩
      have K1 : Hid (∀ w', Below U.heap.size U w' → Calls Tryz.prog 10 #[.string BW] w' fun e w'' => ∃ v, e = .returned (.tuple #[v, .bool R]) ∧ CellsIn w'' w'.heap.size w''.heap.size v IL ∧ Below w'.heap.size w' w'') := Lib.hid fun w' _ => by rw [hBW, hR, hIL]; exact impl_inside_c w' HGW.out.odd
      have K2 : Hid (∀ w', Below U.heap.size U w' → Calls Tryz.prog 15 #[.string BW] w' fun e w'' => ∃ v, e = .returned (.tuple #[v, .bool R]) ∧ CellsIn w'' w'.heap.size w''.heap.size v IL ∧ Below w'.heap.size w' w'') := Lib.hid fun w' _ => by rw [hBW, hR, hIL]; exact spec_inside_c w' HGW.out.fil
      have K3 : Hid (∀ w', Below U.heap.size U w' → Calls Tryz.prog 8 #[.string BW] w' fun e w'' => e = .returned (.tuple #[.int .i64 Z, .bool C]) ∧ Below w'.heap.size w' w'') := Lib.hid fun w' _ => by rw [hBW, hZ, hC]; exact impl_area_c w'
      have K4 : Hid (∀ w', Below U.heap.size U w' → Calls Tryz.prog 16 #[.string BW] w' fun e w'' => e = .returned (.tuple #[.int .i64 Z, .bool C]) ∧ Below w'.heap.size w' w'') := Lib.hid fun w' _ => by rw [hBW, hZ, hC]; exact spec_area_c w'
      have K5 : Hid (∀ w', Below U.heap.size U w' → Calls Tryz.prog 17 #[.string BW] w' fun e w'' => e = .returned (.tuple #[.string BC, .bool C]) ∧ Below w'.heap.size w' w'') := Lib.hid fun w' _ => by rw [hBW, hBC, hC]; exact impl_cmp_c w' HGW.out.sho
      have K6 : Hid (∀ w', Below U.heap.size U w' → Calls Tryz.prog 18 #[.string BW] w' fun e w'' => e = .returned (.tuple #[.string BC, .bool C]) ∧ Below w'.heap.size w' w'') := Lib.hid fun w' _ => by rw [hBW, hBC, hC]; exact spec_cmp_c w' HGW.out.sho
      have K7 : Hid (∀ w', Below U.heap.size U w' → Calls Tryz.prog 9 #[.string BW] w' fun e w'' => e = .returned (.tuple #[.int .i64 (t1 : Nat), .int .i64 (t2 : Nat)]) ∧ Below w'.heap.size w' w'') := Lib.hid fun w' _ => by rw [hBW, ht1, ht2]; exact impl_turns_c w'
      have K8 : Hid (∀ w', Below U.heap.size U w' → Calls Tryz.prog 19 #[.string BW] w' fun e w'' => e = .returned (.tuple #[.int .i64 (t1 : Nat), .int .i64 (t2 : Nat)]) ∧ Below w'.heap.size w' w'') := Lib.hid fun w' _ => by rw [hBW, ht1, ht2]; exact spec_turns_c w' HGW.out.len
      have K9 : Hid (∀ w', Below U.heap.size U w' → Calls Tryz.prog 13 #[.string BW] w' fun e w'' => e = .returned (.bool C) ∧ Below w'.heap.size w' w'') := Lib.hid fun w' _ => by rw [hBW, hC]; exact impl_isClosed_c w'
      have K10 : Hid (∀ w', Below U.heap.size U w' → Calls Tryz.prog 20 #[.string BW] w' fun e w'' => e = .returned (.bool C) ∧ Below w'.heap.size w' w'') := Lib.hid fun w' _ => by rw [hBW, hC]; exact spec_isClosed_c w'
      rw [← hBW]
      clear hBW hC hZ ht1 ht2 hR hBC hIL
      have HH : Below U.heap.size U U := Below.refl _ _
      go_wp2_with fail
      refine (K1.out _ HH).mono ?_
      rintro e U2 ⟨x1, rfl, o1, bb⟩
      have HX1 := Lib.hid (o1.rd.more (Nat.zero_le _) (Nat.le_refl _))
      obtain ⟨A1, c1, rfl, _, _⟩ := o1.rd
      replace HH := HH.trans (bb.mono HH.size)
      clear bb o1
      go_wp2_with fail
      refine (K2.out _ HH).mono ?_
      rintro e U3 ⟨x2, rfl, o2, bb⟩
      have HX2 := Lib.hid (o2.rd.more (Nat.zero_le _) (Nat.le_refl _))
      have HX1b := Lib.hid (cells_stepB HX1.out bb)
      obtain ⟨A2, c2, rfl, _, _⟩ := o2.rd
      replace HH := HH.trans (bb.mono HH.size)
      clear o2 HX1
      have HE : Hid (∀ w', Below U3.heap.size U3 w' → Calls Tryz.prog 11 #[.slice A1 IL.length c1, .slice A2 IL.length c2] w' fun e w'' => e = .returned (.bool true) ∧ Below w'.heap.size w' w'') := Lib.hid fun w' b => spec_eqShapes_same w' (cells_stepB HX1b.out b) (cells_stepB HX2.out b)
      have HH3 : Below U3.heap.size U3 U3 := Below.refl _ _
      have HU3 := Lib.hid HH
      clear bb HX1b HX2
      go_wp2_with fail
      refine (K3.out _ HH).mono ?_
      rintro e U4 ⟨rfl, bb⟩
      replace HH := HH.trans (bb.mono HH.size)
      replace HH3 := HH3.trans (bb.mono HH3.size)
      clear bb
      go_wp2_with fail
      refine (K4.out _ HH).mono ?_
      rintro e U5 ⟨rfl, bb⟩
      replace HH := HH.trans (bb.mono HH.size)
      replace HH3 := HH3.trans (bb.mono HH3.size)
      clear bb
      go_wp2_with fail
      refine (K5.out _ HH).mono ?_
      rintro e U6 ⟨rfl, bb⟩
      replace HH := HH.trans (bb.mono HH.size)
      replace HH3 := HH3.trans (bb.mono HH3.size)
      clear bb
      go_wp2_with fail
      refine (K6.out _ HH).mono ?_
      rintro e U7 ⟨rfl, bb⟩
      replace HH := HH.trans (bb.mono HH.size)
      replace HH3 := HH3.trans (bb.mono HH3.size)
      clear bb
      go_wp2_with fail
      refine (K7.out _ HH).mono ?_
      rintro e U8 ⟨rfl, bb⟩
      replace HH := HH.trans (bb.mono HH.size)
      replace HH3 := HH3.trans (bb.mono HH3.size)
      clear bb
      go_wp2_with fail
      refine (K8.out _ HH).mono ?_
      rintro e U9 ⟨rfl, bb⟩
      replace HH := HH.trans (bb.mono HH.size)
      replace HH3 := HH3.trans (bb.mono HH3.size)
      clear bb
      go_wp2_with fail
      refine (HE.out _ HH3).mono ?_
      rintro e U10 ⟨rfl, bb⟩
      replace HH := HH.trans (bb.mono HH.size)
      clear bb HE HH3
      go_wp2_with fail
      refine (K9.out _ HH).mono ?_
      rintro e U11 ⟨rfl, bb⟩
      replace HH := HH.trans (bb.mono HH.size)
      clear bb
      go_wp2_with fail
      refine (K10.out _ HH).mono ?_
      rintro e U12 ⟨rfl, bb⟩
      replace HH := HH.trans (bb.mono HH.size)
      clear bb
      have HF := Lib.hid (HW2.out.trans (HH.mono HW2.out.size))
      clear K1 K2 K3 K4 K5 K6 K7 K8 K9 K10 HH
      go_wp2
      go_ret
      exact ⟨rfl, HF.out⟩
  · go_enter Tryz.func3, Tryz.ntmps3
    go_wp2_with fail
    refine (big_yes w h (by omega)).mono ?_
    rintro e w' ⟨rfl, rfl⟩
    go_wp2
    go_ret
    exact ⟨rfl, Below.refl _ _⟩
end Go.Proofs.YtghpkfihdcjlaaaGreatDoor
