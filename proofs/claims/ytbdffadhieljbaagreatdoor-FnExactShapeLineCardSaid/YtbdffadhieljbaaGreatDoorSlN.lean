
/-
  Inner sides of a shape: both walks; perimeter. Perimeter, trees, degrees and snakes of a shape: both walks. Snakes: both walks.
-/
import Derived.Test.YtbdffadhieljbaaGreatDoorShpX
import Derived.Test.YtbdffadhieljbaaGreatDoorShpFG
namespace Go.Proofs.YtbdffadhieljbaaGreatDoor
open Go.RowKit

def sdB (s : List Cell) (i k : Nat) : Bool := match s[i]?, s[k]? with
  | some a, some b => sideB a b
  | _, _ => false
theorem sdB_at {s : List Cell} {i k : Nat} {a b : Cell} (ha : s[i]? = some a) (hb : s[k]? = some b) : sdB s i k = sideB a b := by rw [sdB, ha, hb]
/-- how many of the first k lie beside number i -/
def innRow (s : List Cell) (i : Nat) : Nat → Nat
  | 0 => 0
  | k + 1 => innRow s i k + if sdB s i k then 1 else 0
/-- the inner sides of the first cells -/
def innTo (s : List Cell) : Nat → Nat
  | 0 => 0
  | i + 1 => innTo s i + innRow s i i
def innN (s : List Cell) : Nat := innTo s s.length
theorem innRow_le (s : List Cell) (i : Nat) : ∀ k, innRow s i k ≤ k
  | 0 => Nat.le_refl _
  | k + 1 => by
    have := innRow_le s i k
    rw [innRow]
    split <;> omega
theorem innTo_le (s : List Cell) : ∀ i, innTo s i ≤ i * i
  | 0 => Nat.le_refl _
  | i + 1 => by
    have h1 := innTo_le s i
    have h2 := innRow_le s i i
    rw [innTo, Nat.add_mul, Nat.mul_add]
    omega
theorem innTo_64 {s : List Cell} {i : Nat} (hi : i ≤ 8) : innTo s i ≤ 64 := Nat.le_trans (innTo_le s i) (Nat.mul_le_mul hi hi)
set_option maxRecDepth 100000 in
set_option maxHeartbeats 3200000 in
theorem impl_inner_c {v : Value} {s : List Cell} (w : World) (h : CellsRd w 0 w.heap.size v s) (hn : s.length ≤ 1048576) :
    Calls Tryz.prog 62 #[v] w fun e w' => e = .returned (.int .i64 (if isShape s then (innN s : Int) else 0)) ∧ Below w.heap.size w w' := by
  have HS0 := Lib.hid (impl_isShape_c w h hn)
  obtain ⟨R, hR⟩ : ∃ R : Int, R = if isShape s then (innN s : Int) else 0 := ⟨_, rfl⟩
  rw [← hR]
  have HR := Lib.hid hR
  clear hR
  obtain ⟨A, c, rfl, hm, hr⟩ := id h
  have HRS := Lib.hid hr
  clear hr hm
  clear h
  go_enter Tryz.func62, Tryz.ntmps62
  go_wp2_with fail
  refine (HS0.out).mono ?_
  rintro e w1 ⟨rfl, b1⟩
  clear HS0
  cases hsh : isShape s
  · obtain rfl : R = 0 := by rw [HR.out, hsh]; rfl
    go_wp2
    go_ret
    exact ⟨rfl, b1⟩
  obtain ⟨hl1, hl8⟩ := shp_len hsh
  have HSH := Lib.hid hsh
  have HRT : Hid (R = (innTo s s.length : Nat)) := Lib.hid (by rw [HR.out, hsh]; rfl)
  obtain ⟨b, off, hA, _, hb, hc⟩ := HRS.out.2 (by omega)
  subst hA
  have HCE := Lib.hid hc
  clear hc hsh
  go_wp2
  go_loopw [3, 11] (fun av iv wx => ∃ i : Nat, i ≤ s.length ∧ iv = .int .i64 i ∧ av = .int .i64 (innTo s i : Nat) ∧ Below w.heap.size w wx) (fun _ iv _ => s.length - (intOf iv).toNat)
  case atStart => exact ⟨0, Nat.zero_le _, rfl, rfl, b1⟩
  case round =>
    clear b1
    obtain ⟨i, hi, rfl, rfl, hbw⟩ := hrel
    by_cases hlt : i < s.length
    · go_wp2
      go_loopw [3, 15] (fun av kv wx => ∃ k : Nat, k ≤ i ∧ kv = .int .i64 k ∧ av = .int .i64 (innTo s i + innRow s i k : Nat) ∧ Below w.heap.size w wx) (fun _ kv _ => i - (intOf kv).toNat)
      case atStart => exact ⟨0, Nat.zero_le _, rfl, rfl, hbw⟩
      case round =>
        clear hbw
        obtain ⟨k, hk, rfl, rfl, hbw⟩ := hrel
        by_cases hlk : k < i
        · have hlki : (k : Int) < (i : Int) := by omega
          obtain ⟨ci, hci⟩ : ∃ ck, s[i]? = some ck := ⟨s[i], List.getElem?_eq_getElem (by omega)⟩
          obtain ⟨ck, hck⟩ : ∃ ck, s[k]? = some ck := ⟨s[k], List.getElem?_eq_getElem (by omega)⟩
          have hbr : b < wr.heap.size := by have := hbw.size; omega
          have l1 := Later.cell ((hbw.cell (p := ⟨b, off + i * 2, none⟩) hb).trans (HCE.out _ _ (cc_at hci).1)) hbr
          have l2 := Later.cell ((hbw.cell (p := ⟨b, off + i * 2 + 1, none⟩) hb).trans (by rw [Nat.add_assoc]; exact HCE.out _ _ (cc_at hci).2)) hbr
          have l3 := Later.cell ((hbw.cell (p := ⟨b, off + k * 2, none⟩) hb).trans (HCE.out _ _ (cc_at hck).1)) hbr
          have l4 := Later.cell ((hbw.cell (p := ⟨b, off + k * 2 + 1, none⟩) hb).trans (by rw [Nat.add_assoc]; exact HCE.out _ _ (cc_at hck).2)) hbr
          have HSD := Lib.hid (sdB_at hci hck)
          have ON1 := shp_on HSH.out (List.mem_of_getElem? hci)
          have ON2 := shp_on HSH.out (List.mem_of_getElem? hck)
          obtain ⟨sb, hsb⟩ : ∃ b, b = sideB ci ck := ⟨_, rfl⟩
          have HNQ : Hid (∀ w : World, Calls Tryz.prog 85 #[.agg #[.int .i64 ci.x, .int .i64 ci.y], .agg #[.int .i64 ck.x, .int .i64 ck.y]] w fun e w' => e = .returned (.bool sb) ∧ Below w.heap.size w w') := Lib.hid fun w => by
            rw [hsb]
            exact beside_c ci ck w ON1 ON2
          rw [← hsb] at HSD
          clear hci hck ON1 ON2 hsb
          go_wp2_with fail
          refine wp_region_later (by kernel_rfl) (by kernel_rfl) ?_
          repeat (go_big_quiet_step ((go_at_call 85; exact Later.call (HNQ.out _))))
          refine wpQuiet_nil ?_
          intro w3 hw3
          obtain ⟨u3, hu3⟩ := hw3
          subst hu3
          have hb3 := hbw.trans (u3.h.mono hbw.size)
          clear l1 l2 l3 l4 HNQ
          generalize u3.w = w3 at *
          cases sb
          · have HIR : Hid (innRow s i (k + 1) = innRow s i k) := Lib.hid (by rw [innRow, HSD.out]; simp)
            go_wp2
            go_roundw
            case rel => exact ⟨k + 1, by omega, by go_num, by rw [HIR.out], hb3⟩
            case measure => simp [intOf]; omega
          · have HIR : Hid (innRow s i (k + 1) = innRow s i k + 1) := Lib.hid (by rw [innRow, HSD.out]; simp)
            have n1 := innRow_le s i k
            have n2 := innTo_64 (s := s) (i := i) (by omega)
            have m1 : wrap64 (((innTo s i + innRow s i k : Nat) : Int) + 1) = ((innTo s i + (innRow s i k + 1) : Nat) : Int) := by rw [IntWalk.wrap64_in _ (by omega)]; omega
            go_wp2
            clear m1
            go_roundw
            case rel => exact ⟨k + 1, by omega, by go_num, by rw [HIR.out]; first | rfl | (congr 1; omega), hb3⟩
            case measure => simp [intOf]; omega
        · obtain rfl : k = i := by omega
          go_wp2
          go_roundw
          case rel => exact ⟨k + 1, by omega, by go_num, rfl, hbw⟩
          case measure => simp [intOf]; omega
    · obtain rfl : i = s.length := by omega
      rw [← HRT.out]
      go_wp2
      go_ret
      exact ⟨rfl, hbw⟩
set_option maxRecDepth 100000 in
set_option maxHeartbeats 3200000 in
theorem spec_inner_c {v : Value} {s : List Cell} (w : World) (h : CellsRd w 0 w.heap.size v s) (hn : s.length ≤ 1048576) :
    Calls Tryz.prog 41 #[v] w fun e w' => e = .returned (.int .i64 (if isShape s then (innN s : Int) else 0)) ∧ Below w.heap.size w w' := by
  have HS0 : Hid (∀ w1, Below w.heap.size w w1 → Calls Tryz.prog 9 #[v] w1 fun e w' => e = .returned (.bool (isShape s)) ∧ Below w1.heap.size w1 w') := Lib.hid fun w1 b1 => spec_isShape_c w1 ((h.keep (SameIn.of_below b1 (Nat.le_refl _))).more (Nat.le_refl _) b1.size) hn
  obtain ⟨R, hR⟩ : ∃ R : Int, R = if isShape s then (innN s : Int) else 0 := ⟨_, rfl⟩
  rw [← hR]
  have HR := Lib.hid hR
  clear hR
  obtain ⟨A, c, rfl, hm, hr⟩ := id h
  have HRS := Lib.hid hr
  clear hr hm
  clear h
  cases hsh : isShape s
  · have hsh' := hsh
    rw [hsh] at HS0
    clear hsh
    obtain rfl : R = 0 := by rw [HR.out, hsh']; rfl
    clear hsh'
    go_enter Tryz.func41, Tryz.ntmps41
    go_wp2
    go_loopw [3, 4] (fun av iv wx => av = .int .i64 0 ∧ iv = .int .i64 0 ∧ Below w.heap.size w wx) (fun _ _ _ => 0)
    case atStart => exact ⟨rfl, rfl, Below.refl _ _⟩
    case round =>
      obtain ⟨rfl, rfl, hbw⟩ := hrel
      by_cases h0 : s.length = 0
      · have hlt : decide ((0 : Int) < (s.length : Int)) = false := decide_eq_false (by omega)
        have hlt2 : ¬ (0 : Int) < (s.length : Int) := by omega
        clear h0
        go_wp2
        go_ret
        exact ⟨rfl, hbw⟩
      · have hlt : decide ((0 : Int) < (s.length : Int)) = true := decide_eq_true (by omega)
        have hlt2 : (0 : Int) < (s.length : Int) := by omega
        clear h0
        go_wp2_with fail
        refine (HS0.out _ hbw).mono ?_
        rintro e w1 ⟨rfl, b1⟩
        have hb := hbw.trans (b1.mono hbw.size)
        go_wp2
        go_ret
        exact ⟨rfl, hb⟩
  obtain ⟨hl1, hl8⟩ := shp_len hsh
  have HSH := Lib.hid hsh
  have HRT : Hid (R = (innTo s s.length : Nat)) := Lib.hid (by rw [HR.out, hsh]; rfl)
  rw [hsh] at HS0
  obtain ⟨b, off, hA, _, hb, hc⟩ := HRS.out.2 (by omega)
  subst hA
  have HCE := Lib.hid hc
  clear hc hsh
  go_enter Tryz.func41, Tryz.ntmps41
  go_wp2
  go_loopw [3, 4] (fun av iv wx => ∃ i : Nat, i ≤ s.length ∧ iv = .int .i64 i ∧ av = .int .i64 (innTo s i : Nat) ∧ Below w.heap.size w wx) (fun _ iv _ => s.length - (intOf iv).toNat)
  case atStart => exact ⟨0, Nat.zero_le _, rfl, rfl, Below.refl _ _⟩
  case round =>
    obtain ⟨i, hi, rfl, rfl, hbw⟩ := hrel
    by_cases hlt : i < s.length
    · have hlti : (i : Int) < (s.length : Int) := by omega
      have hltd : decide ((i : Int) < (s.length : Int)) = true := decide_eq_true hlti
      go_wp2_with fail
      refine (HS0.out _ hbw).mono ?_
      rintro e w1 ⟨rfl, b1⟩
      have hbw := hbw.trans (b1.mono hbw.size)
      clear b1
      go_wp2
      go_loopw [3, 5] (fun av kv wx => ∃ k : Nat, k ≤ i ∧ kv = .int .i64 k ∧ av = .int .i64 (innTo s i + innRow s i k : Nat) ∧ Below w.heap.size w wx) (fun _ kv _ => i - (intOf kv).toNat)
      case atStart => exact ⟨0, Nat.zero_le _, rfl, rfl, hbw⟩
      case round =>
        clear hbw
        obtain ⟨k, hk, rfl, rfl, hbw⟩ := hrel
        by_cases hlk : k < i
        · have hlki : (k : Int) < (i : Int) := by omega
          obtain ⟨ci, hci⟩ : ∃ ck, s[i]? = some ck := ⟨s[i], List.getElem?_eq_getElem (by omega)⟩
          obtain ⟨ck, hck⟩ : ∃ ck, s[k]? = some ck := ⟨s[k], List.getElem?_eq_getElem (by omega)⟩
          have hbr : b < wr.heap.size := by have := hbw.size; omega
          have l1 := Later.cell ((hbw.cell (p := ⟨b, off + i * 2, none⟩) hb).trans (HCE.out _ _ (cc_at hci).1)) hbr
          have l2 := Later.cell ((hbw.cell (p := ⟨b, off + i * 2 + 1, none⟩) hb).trans (by rw [Nat.add_assoc]; exact HCE.out _ _ (cc_at hci).2)) hbr
          have l3 := Later.cell ((hbw.cell (p := ⟨b, off + k * 2, none⟩) hb).trans (HCE.out _ _ (cc_at hck).1)) hbr
          have l4 := Later.cell ((hbw.cell (p := ⟨b, off + k * 2 + 1, none⟩) hb).trans (by rw [Nat.add_assoc]; exact HCE.out _ _ (cc_at hck).2)) hbr
          have HSD := Lib.hid (sdB_at hci hck)
          have ON1 := shp_on HSH.out (List.mem_of_getElem? hci)
          have ON2 := shp_on HSH.out (List.mem_of_getElem? hck)
          obtain ⟨sb, hsb⟩ : ∃ b, b = sideB ci ck := ⟨_, rfl⟩
          have HNQ : Hid (∀ w : World, Calls Tryz.prog 49 #[.agg #[.int .i64 ci.x, .int .i64 ci.y], .agg #[.int .i64 ck.x, .int .i64 ck.y]] w fun e w' => e = .returned (.bool sb) ∧ Below w.heap.size w w') := Lib.hid fun w => by
            rw [hsb]
            exact near_sq_c ci ck w ON1 ON2
          rw [← hsb] at HSD
          clear hci hck ON1 ON2 hsb
          go_wp2_with fail
          refine wp_region_later (by kernel_rfl) (by kernel_rfl) ?_
          repeat (go_big_quiet_step ((go_at_call 49; exact Later.call (HNQ.out _))))
          refine wpQuiet_nil ?_
          intro w3 hw3
          obtain ⟨u3, hu3⟩ := hw3
          subst hu3
          have hb3 := hbw.trans (u3.h.mono hbw.size)
          clear l1 l2 l3 l4 HNQ
          generalize u3.w = w3 at *
          cases sb
          · have HIR : Hid (innRow s i (k + 1) = innRow s i k) := Lib.hid (by rw [innRow, HSD.out]; simp)
            go_wp2
            go_roundw
            case rel => exact ⟨k + 1, by omega, by go_num, by rw [HIR.out], hb3⟩
            case measure => simp [intOf]; omega
          · have HIR : Hid (innRow s i (k + 1) = innRow s i k + 1) := Lib.hid (by rw [innRow, HSD.out]; simp)
            have n1 := innRow_le s i k
            have n2 := innTo_64 (s := s) (i := i) (by omega)
            have m1 : wrap64 (((innTo s i + innRow s i k : Nat) : Int) + 1) = ((innTo s i + (innRow s i k + 1) : Nat) : Int) := by rw [IntWalk.wrap64_in _ (by omega)]; omega
            go_wp2
            clear m1
            go_roundw
            case rel => exact ⟨k + 1, by omega, by go_num, by rw [HIR.out]; first | rfl | (congr 1; omega), hb3⟩
            case measure => simp [intOf]; omega
        · obtain rfl : k = i := by omega
          go_wp2
          go_roundw
          case rel => exact ⟨k + 1, by omega, by go_num, rfl, hbw⟩
          case measure => simp [intOf]; omega
    · obtain rfl : i = s.length := by omega
      have hltd : decide ((s.length : Int) < (s.length : Int)) = false := decide_eq_false (by omega)
      rw [← HRT.out]
      go_wp2
      go_ret
      exact ⟨rfl, hbw⟩
end Go.Proofs.YtbdffadhieljbaaGreatDoor

namespace Go.Proofs.YtbdffadhieljbaaGreatDoor
open Go.RowKit

theorem inn_le64 {s : List Cell} (h : isShape s = true) : innN s ≤ 64 := innTo_64 (shp_len h).2
def perZ (s : List Cell) : Int := 4 * (s.length : Int) - 2 * (innN s : Int)
set_option maxRecDepth 100000 in
set_option maxHeartbeats 800000 in
theorem impl_per_c {v : Value} {s : List Cell} (w : World) (h : CellsRd w 0 w.heap.size v s) (hsh : isShape s = true) :
    Calls Tryz.prog 26 #[v] w fun e w' => e = .returned (.int .i64 (perZ s)) ∧ Below w.heap.size w w' := by
  obtain ⟨hl1, hl8⟩ := shp_len hsh
  have HI : Hid (∀ w1, Below w.heap.size w w1 → Calls Tryz.prog 62 #[v] w1 fun e w' => e = .returned (.int .i64 (innN s : Int)) ∧ Below w1.heap.size w1 w') := Lib.hid fun w1 b1 => by
    have := impl_inner_c w1 ((h.keep (SameIn.of_below b1 (Nat.le_refl _))).more (Nat.le_refl _) b1.size) (by omega)
    rwa [if_pos hsh] at this
  have HS := Lib.hid (impl_isShape_c w h (by omega))
  rw [hsh] at HS
  have hi := inn_le64 hsh
  obtain ⟨P, hP⟩ : ∃ P, P = perZ s := ⟨_, rfl⟩
  rw [← hP]
  have HP : Hid (P = 4 * (s.length : Int) - 2 * (innN s : Int)) := Lib.hid (by rw [hP]; rfl)
  obtain ⟨A, c, rfl, _, _⟩ := h
  clear hP hsh
  generalize innN s = n at *
  generalize s.length = L at *
  have m1 : wrap64 (4 * (L : Int)) = 4 * (L : Int) := IntWalk.wrap64_in _ (by omega)
  have m2 : wrap64 (2 * (n : Int)) = 2 * (n : Int) := IntWalk.wrap64_in _ (by omega)
  have m3 : wrap64 (4 * (L : Int) - 2 * (n : Int)) = P := by rw [HP.out]; exact IntWalk.wrap64_in _ (by omega)
  go_enter Tryz.func26, Tryz.ntmps26
  go_wp2_with fail
  refine (HS.out).mono ?_
  rintro e w1 ⟨rfl, b1⟩
  go_wp2_with fail
  refine (HI.out _ b1).mono ?_
  rintro e w2 ⟨rfl, b2⟩
  have hb := b1.trans (b2.mono b1.size)
  go_wp2
  go_ret
  exact ⟨by rw [HP.out]; rfl, hb⟩
set_option maxRecDepth 100000 in
set_option maxHeartbeats 800000 in
theorem spec_per_c {v : Value} {s : List Cell} (w : World) (h : CellsRd w 0 w.heap.size v s) (hsh : isShape s = true) :
    Calls Tryz.prog 12 #[v] w fun e w' => e = .returned (.int .i64 (perZ s)) ∧ Below w.heap.size w w' := by
  obtain ⟨hl1, hl8⟩ := shp_len hsh
  have HI : Hid (∀ w1, Below w.heap.size w w1 → Calls Tryz.prog 41 #[v] w1 fun e w' => e = .returned (.int .i64 (innN s : Int)) ∧ Below w1.heap.size w1 w') := Lib.hid fun w1 b1 => by
    have := spec_inner_c w1 ((h.keep (SameIn.of_below b1 (Nat.le_refl _))).more (Nat.le_refl _) b1.size) (by omega)
    rwa [if_pos hsh] at this
  have HS := Lib.hid (spec_isShape_c w h (by omega))
  rw [hsh] at HS
  have hi := inn_le64 hsh
  obtain ⟨P, hP⟩ : ∃ P, P = perZ s := ⟨_, rfl⟩
  rw [← hP]
  have HP : Hid (P = 4 * (s.length : Int) - 2 * (innN s : Int)) := Lib.hid (by rw [hP]; rfl)
  obtain ⟨A, c, rfl, _, _⟩ := h
  clear hP hsh
  generalize innN s = n at *
  generalize s.length = L at *
  have m1 : wrap64 (4 * (L : Int)) = 4 * (L : Int) := IntWalk.wrap64_in _ (by omega)
  have m2 : wrap64 (2 * (n : Int)) = 2 * (n : Int) := IntWalk.wrap64_in _ (by omega)
  have m3 : wrap64 (4 * (L : Int) - 2 * (n : Int)) = P := by rw [HP.out]; exact IntWalk.wrap64_in _ (by omega)
  go_enter Tryz.func12, Tryz.ntmps12
  go_wp2_with fail
  refine (HS.out).mono ?_
  rintro e w1 ⟨rfl, b1⟩
  go_wp2_with fail
  refine (HI.out _ b1).mono ?_
  rintro e w2 ⟨rfl, b2⟩
  have hb := b1.trans (b2.mono b1.size)
  go_wp2
  go_ret
  exact ⟨by rw [HP.out]; rfl, hb⟩
noncomputable def treeB (s : List Cell) : Bool := connS s && decide ((innN s : Int) = (s.length : Int) - 1)
set_option maxRecDepth 100000 in
set_option maxHeartbeats 800000 in
theorem impl_tree_c {v : Value} {s : List Cell} (w : World) (h : CellsRd w 0 w.heap.size v s) (hsh : isShape s = true) :
    Calls Tryz.prog 71 #[v] w fun e w' => e = .returned (.bool (treeB s)) ∧ Below w.heap.size w w' := by
  obtain ⟨hl1, hl8⟩ := shp_len hsh
  have HI : Hid (∀ w1, Below w.heap.size w w1 → Calls Tryz.prog 62 #[v] w1 fun e w' => e = .returned (.int .i64 (innN s : Int)) ∧ Below w1.heap.size w1 w') := Lib.hid fun w1 b1 => by
    have := impl_inner_c w1 ((h.keep (SameIn.of_below b1 (Nat.le_refl _))).more (Nat.le_refl _) b1.size) (by omega)
    rwa [if_pos hsh] at this
  have HC := Lib.hid (impl_conn_c w h (by omega))
  have hi := inn_le64 hsh
  obtain ⟨R, hR⟩ : ∃ R, R = treeB s := ⟨_, rfl⟩
  rw [← hR]
  unfold treeB at hR
  have HR := Lib.hid hR
  obtain ⟨A, c, rfl, _, _⟩ := h
  obtain ⟨cn, hcn⟩ : ∃ b, b = connS s := ⟨_, rfl⟩
  rw [← hcn] at HR HC
  clear hR hsh hcn
  generalize innN s = n at *
  generalize s.length = L at *
  cases cn
  · obtain rfl : R = false := by rw [HR.out]; rfl
    go_enter Tryz.func71, Tryz.ntmps71
    go_wp2_with fail
    refine (HC.out).mono ?_
    rintro e w1 ⟨rfl, b1⟩
    go_wp2
    go_ret
    exact ⟨rfl, b1⟩
  · have m1 : wrap64 ((L : Int) - 1) = (L : Int) - 1 := IntWalk.wrap64_in _ (by omega)
    have e1 : ((n : Int) == (L : Int) - 1) = R := by rw [HR.out, Bool.true_and, Bool.eq_iff_iff, beq_iff_eq, decide_eq_true_iff]
    go_enter Tryz.func71, Tryz.ntmps71
    go_wp2_with fail
    refine (HC.out).mono ?_
    rintro e w1 ⟨rfl, b1⟩
    go_wp2_with fail
    refine (HI.out _ b1).mono ?_
    rintro e w2 ⟨rfl, b2⟩
    have hb := b1.trans (b2.mono b1.size)
    go_wp2
    go_ret
    exact ⟨rfl, hb⟩
set_option maxRecDepth 100000 in
set_option maxHeartbeats 800000 in
theorem spec_tree_c {v : Value} {s : List Cell} (w : World) (h : CellsRd w 0 w.heap.size v s) (hsh : isShape s = true) :
    Calls Tryz.prog 51 #[v] w fun e w' => e = .returned (.bool (treeB s)) ∧ Below w.heap.size w w' := by
  obtain ⟨hl1, hl8⟩ := shp_len hsh
  have HI : Hid (∀ w1, Below w.heap.size w w1 → Calls Tryz.prog 41 #[v] w1 fun e w' => e = .returned (.int .i64 (innN s : Int)) ∧ Below w1.heap.size w1 w') := Lib.hid fun w1 b1 => by
    have := spec_inner_c w1 ((h.keep (SameIn.of_below b1 (Nat.le_refl _))).more (Nat.le_refl _) b1.size) (by omega)
    rwa [if_pos hsh] at this
  have HC := Lib.hid (spec_conn_c w h (by omega))
  have hi := inn_le64 hsh
  obtain ⟨R, hR⟩ : ∃ R, R = treeB s := ⟨_, rfl⟩
  rw [← hR]
  unfold treeB at hR
  have HR := Lib.hid hR
  obtain ⟨A, c, rfl, _, _⟩ := h
  obtain ⟨cn, hcn⟩ : ∃ b, b = connS s := ⟨_, rfl⟩
  rw [← hcn] at HR HC
  clear hR hsh hcn
  generalize innN s = n at *
  generalize s.length = L at *
  cases cn
  · obtain rfl : R = false := by rw [HR.out]; rfl
    go_enter Tryz.func51, Tryz.ntmps51
    go_wp2_with fail
    refine (HC.out).mono ?_
    rintro e w1 ⟨rfl, b1⟩
    go_wp2
    go_ret
    exact ⟨rfl, b1⟩
  · have m1 : wrap64 ((L : Int) - 1) = (L : Int) - 1 := IntWalk.wrap64_in _ (by omega)
    have e1 : ((n : Int) == (L : Int) - 1) = R := by rw [HR.out, Bool.true_and, Bool.eq_iff_iff, beq_iff_eq, decide_eq_true_iff]
    go_enter Tryz.func51, Tryz.ntmps51
    go_wp2_with fail
    refine (HC.out).mono ?_
    rintro e w1 ⟨rfl, b1⟩
    go_wp2_with fail
    refine (HI.out _ b1).mono ?_
    rintro e w2 ⟨rfl, b2⟩
    have hb := b1.trans (b2.mono b1.size)
    go_wp2
    go_ret
    exact ⟨rfl, hb⟩
/-- how many of the first k cells lie beside c -/
def degTo (s : List Cell) (c : Cell) (k : Nat) : Nat := (s.take k).countP fun d => sideB c d
theorem degTo_succ {s : List Cell} {c d : Cell} {k : Nat} (h : s[k]? = some d) : degTo s c (k + 1) = degTo s c k + if sideB c d then 1 else 0 := by
  obtain ⟨hk, rfl⟩ := List.getElem?_eq_some_iff.1 h
  rw [degTo, degTo, List.take_succ_eq_append_getElem hk, List.countP_append, List.countP_singleton]
theorem degTo_le {s : List Cell} {c : Cell} (k : Nat) : degTo s c k ≤ k := Nat.le_trans List.countP_le_length (by rw [List.length_take]; omega)
theorem sideB_comm (a b : Cell) : sideB a b = sideB b a := by
  unfold sideB
  rw [show a.x - b.x = -(b.x - a.x) by omega, show a.y - b.y = -(b.y - a.y) by omega, Int.neg_mul_neg, Int.neg_mul_neg]
set_option maxRecDepth 100000 in
set_option maxHeartbeats 1600000 in
theorem impl_degree_c {v : Value} {s : List Cell} (c0 : Cell) (w : World) (h : CellsRd w 0 w.heap.size v s) (hsh : isShape s = true) (hc : c0 ∈ s) :
    Calls Tryz.prog 70 #[v, .agg #[.int .i64 c0.x, .int .i64 c0.y]] w fun e w' => e = .returned (.int .i64 (degTo s c0 s.length : Nat)) ∧ Below w.heap.size w w' := by
  obtain ⟨hl1, hl8⟩ := shp_len hsh
  have HSH := Lib.hid hsh
  have HON := Lib.hid (shp_on hsh hc)
  obtain ⟨A, c, rfl, _, hr⟩ := h
  obtain ⟨b, off, hA, _, hb, hcc⟩ := hr.2 (by omega)
  subst hA
  have HCE := Lib.hid hcc
  have H0 := (Sep.start w).box 39 #[.int .i64 c0.x, .int .i64 c0.y]
  obtain ⟨g, hg⟩ : ∃ g, g = w.heap.size := ⟨_, rfl⟩
  rw [← hg] at H0
  clear hsh hc hr hcc
  go_enter Tryz.func70, Tryz.ntmps70
  go_upto_region 1 with fail
  rw [← hg]
  generalize (w.alloc (.cells #[.int .i64 c0.x, .int .i64 c0.y] 39)) = W at *
  clear hg
  go_wp2
  go_loopw [5, 10] (fun av kv wx => ∃ k : Nat, k ≤ s.length ∧ kv = .int .i64 k ∧ av = .int .i64 (degTo s c0 k : Nat) ∧ Sep w wx [Res.box g 39 #[.int .i64 c0.x, .int .i64 c0.y]]) (fun _ kv _ => s.length - (intOf kv).toNat)
  case atStart => exact ⟨0, Nat.zero_le _, rfl, rfl, H0⟩
  case round =>
    clear H0
    obtain ⟨k, hk, rfl, rfl, H⟩ := hrel
    by_cases hlt : k < s.length
    · obtain ⟨d, hd⟩ : ∃ d, s[k]? = some d := ⟨s[k], List.getElem?_eq_getElem hlt⟩
      have HDG := Lib.hid (degTo_succ (c := c0) hd)
      have hbw := H.below
      have q1 : wr.cell? ⟨b, off + k * 2, none⟩ = some (.int .i64 d.x) := (hbw.cell (p := ⟨b, off + k * 2, none⟩) hb).trans (HCE.out _ _ (cc_at hd).1)
      have q2 : wr.cell? ⟨b, off + k * 2 + 1, none⟩ = some (.int .i64 d.y) := (hbw.cell (p := ⟨b, off + k * 2 + 1, none⟩) hb).trans (by rw [Nat.add_assoc]; exact HCE.out _ _ (cc_at hd).2)
      have H1 := H.box 39 #[.int .i64 d.x, .int .i64 d.y]
      obtain ⟨sb, hsb⟩ : ∃ b, b = sideB c0 d := ⟨_, rfl⟩
      have HBS : Hid (∀ w : World, Calls Tryz.prog 85 #[.agg #[.int .i64 c0.x, .int .i64 c0.y], .agg #[.int .i64 d.x, .int .i64 d.y]] w fun e w' => e = .returned (.bool sb) ∧ Below w.heap.size w w') := Lib.hid fun w => by
        rw [hsb]
        exact beside_c c0 d w HON.out (shp_on HSH.out (List.mem_of_getElem? hd))
      rw [← hsb] at HDG
      clear hd hsb hbw H
      go_upto_region 5 with fail
      obtain ⟨gd, hgd⟩ : ∃ k, k = wr.heap.size := ⟨_, rfl⟩
      rw [← hgd] at H1 ⊢
      generalize wr.alloc (.cells #[.int .i64 d.x, .int .i64 d.y] 39) = W5 at *
      clear hgd q1 q2
      have k0 : W5.cell? ⟨gd, 0, none⟩ = some (.int .i64 d.x) := H1.h0.cell 0
      have k1 : W5.cell? ⟨gd, 1, none⟩ = some (.int .i64 d.y) := H1.h0.cell 1
      have c1 : W5.cell? ⟨g, 0, none⟩ = some (.int .i64 c0.x) := H1.h1.cell 0
      have c2 : W5.cell? ⟨g, 1, none⟩ = some (.int .i64 c0.y) := H1.h1.cell 1
      go_wp2_with fail
      refine (HBS.out _).mono ?_
      rintro e w6 ⟨rfl, b6⟩
      have H3 := (H1.step b6).drop
      clear HBS H1 b6 k0 k1 c1 c2
      cases sb
      · have HIR : Hid (degTo s c0 (k + 1) = degTo s c0 k) := Lib.hid (by rw [HDG.out]; simp)
        go_wp2
        go_roundw
        case rel => exact ⟨k + 1, by omega, by go_num, by rw [HIR.out], H3⟩
        case measure => simp [intOf]; omega
      · have HIR : Hid (degTo s c0 (k + 1) = degTo s c0 k + 1) := Lib.hid (by rw [HDG.out]; simp)
        have n1 := degTo_le (s := s) (c := c0) k
        have m1 : wrap64 (((degTo s c0 k : Nat) : Int) + 1) = ((degTo s c0 k + 1 : Nat) : Int) := by rw [IntWalk.wrap64_in _ (by omega)]; omega
        go_wp2
        clear m1
        go_roundw
        case rel => exact ⟨k + 1, by omega, by go_num, by rw [HIR.out]; first | rfl | (congr 1; omega), H3⟩
        case measure => simp [intOf]; omega
    · obtain rfl : k = s.length := by omega
      have hbw := H.below
      clear H
      go_wp2
      go_ret
      exact ⟨rfl, hbw⟩
set_option maxRecDepth 100000 in
set_option maxHeartbeats 1600000 in
theorem spec_degree_c {v : Value} {s : List Cell} (c0 : Cell) (w : World) (h : CellsRd w 0 w.heap.size v s) (hsh : isShape s = true) (hc : c0 ∈ s) :
    Calls Tryz.prog 52 #[v, .agg #[.int .i64 c0.x, .int .i64 c0.y]] w fun e w' => e = .returned (.int .i64 (degTo s c0 s.length : Nat)) ∧ Below w.heap.size w w' := by
  obtain ⟨hl1, hl8⟩ := shp_len hsh
  have HSH := Lib.hid hsh
  have HON := Lib.hid (shp_on hsh hc)
  obtain ⟨A, c, rfl, _, hr⟩ := h
  obtain ⟨b, off, hA, _, hb, hcc⟩ := hr.2 (by omega)
  subst hA
  have HCE := Lib.hid hcc
  have H0 := (Sep.start w).box 39 #[.int .i64 c0.x, .int .i64 c0.y]
  obtain ⟨g, hg⟩ : ∃ g, g = w.heap.size := ⟨_, rfl⟩
  rw [← hg] at H0
  clear hsh hc hr hcc
  go_enter Tryz.func52, Tryz.ntmps52
  go_upto_region 1 with fail
  rw [← hg]
  generalize (w.alloc (.cells #[.int .i64 c0.x, .int .i64 c0.y] 39)) = W at *
  clear hg
  go_wp2
  go_loopw [5, 6] (fun av kv wx => ∃ k : Nat, k ≤ s.length ∧ kv = .int .i64 k ∧ av = .int .i64 (degTo s c0 k : Nat) ∧ Sep w wx [Res.box g 39 #[.int .i64 c0.x, .int .i64 c0.y]]) (fun _ kv _ => s.length - (intOf kv).toNat)
  case atStart => exact ⟨0, Nat.zero_le _, rfl, rfl, H0⟩
  case round =>
    clear H0
    obtain ⟨k, hk, rfl, rfl, H⟩ := hrel
    by_cases hlt : k < s.length
    · have hlti : (k : Int) < (s.length : Int) := by omega
      obtain ⟨d, hd⟩ : ∃ d, s[k]? = some d := ⟨s[k], List.getElem?_eq_getElem hlt⟩
      have HDG := Lib.hid (degTo_succ (c := c0) hd)
      have hbw := H.below
      have hbr : b < wr.heap.size := by have := hbw.size; omega
      have l1 := Later.cell ((hbw.cell (p := ⟨b, off + k * 2, none⟩) hb).trans (HCE.out _ _ (cc_at hd).1)) hbr
      have l2 := Later.cell ((hbw.cell (p := ⟨b, off + k * 2 + 1, none⟩) hb).trans (by rw [Nat.add_assoc]; exact HCE.out _ _ (cc_at hd).2)) hbr
      have l3 := Later.cell (W := wr) (p := ⟨g, 0, none⟩) (v := .int .i64 c0.x) (H.h0.cell 0) H.h0.lt
      have l4 := Later.cell (W := wr) (p := ⟨g, 1, none⟩) (v := .int .i64 c0.y) (H.h0.cell 1) H.h0.lt
      obtain ⟨sb, hsb⟩ : ∃ b, b = sideB c0 d := ⟨_, rfl⟩
      have HBS : Hid (∀ w : World, Calls Tryz.prog 49 #[.agg #[.int .i64 d.x, .int .i64 d.y], .agg #[.int .i64 c0.x, .int .i64 c0.y]] w fun e w' => e = .returned (.bool sb) ∧ Below w.heap.size w w') := Lib.hid fun w => by
        rw [hsb, sideB_comm]
        exact near_sq_c d c0 w (shp_on HSH.out (List.mem_of_getElem? hd)) HON.out
      rw [← hsb] at HDG
      clear hd hsb hbw
      go_wp2_with fail
      refine wp_region_later (by kernel_rfl) (by kernel_rfl) ?_
      repeat (go_big_quiet_step ((go_at_call 49; exact Later.call (HBS.out _))))
      refine wpQuiet_nil ?_
      intro w3 hw3
      obtain ⟨u3, hu3⟩ := hw3
      subst hu3
      have H3 := H.later u3
      clear l1 l2 l3 l4 HBS H
      generalize u3.w = w3 at *
      cases sb
      · have HIR : Hid (degTo s c0 (k + 1) = degTo s c0 k) := Lib.hid (by rw [HDG.out]; simp)
        go_wp2
        go_roundw
        case rel => exact ⟨k + 1, by omega, by go_num, by rw [HIR.out], H3⟩
        case measure => simp [intOf]; omega
      · have HIR : Hid (degTo s c0 (k + 1) = degTo s c0 k + 1) := Lib.hid (by rw [HDG.out]; simp)
        have n1 := degTo_le (s := s) (c := c0) k
        have m1 : wrap64 (((degTo s c0 k : Nat) : Int) + 1) = ((degTo s c0 k + 1 : Nat) : Int) := by rw [IntWalk.wrap64_in _ (by omega)]; omega
        go_wp2
        clear m1
        go_roundw
        case rel => exact ⟨k + 1, by omega, by go_num, by rw [HIR.out]; first | rfl | (congr 1; omega), H3⟩
        case measure => simp [intOf]; omega
    · obtain rfl : k = s.length := by omega
      have hbw := H.below
      clear H
      go_wp2
      go_ret
      exact ⟨rfl, hbw⟩
end Go.Proofs.YtbdffadhieljbaaGreatDoor

namespace Go.Proofs.YtbdffadhieljbaaGreatDoor
open Go.RowKit

noncomputable def snkB (s : List Cell) : Bool := treeB s && s.all fun c => decide (degTo s c s.length ≤ 2)
theorem snk_no {s : List Cell} {k : Nat} {c : Cell} (h : s[k]? = some c) (hd : ¬ degTo s c s.length ≤ 2) : snkB s = false := by
  have : (s.all fun c => decide (degTo s c s.length ≤ 2)) = false := by
    rw [List.all_eq_false]
    exact ⟨c, List.mem_of_getElem? h, by simpa using hd⟩
  rw [snkB, this, Bool.and_false]
theorem snk_all {s : List Cell} (h : ∀ (j : Nat) (c : Cell), j < s.length → s[j]? = some c → degTo s c s.length ≤ 2) : snkB s = treeB s := by
  have : (s.all fun c => decide (degTo s c s.length ≤ 2)) = true := by
    rw [List.all_eq_true]
    intro c hc
    obtain ⟨j, hj, rfl⟩ := List.getElem_of_mem hc
    exact decide_eq_true (h j _ hj (List.getElem?_eq_getElem hj))
  rw [snkB, this, Bool.and_true]
set_option maxRecDepth 100000 in
set_option maxHeartbeats 1600000 in
theorem impl_snake_c {v : Value} {s : List Cell} (w : World) (h : CellsRd w 0 w.heap.size v s) (hsh : isShape s = true) :
    Calls Tryz.prog 34 #[v] w fun e w' => e = .returned (.bool (snkB s)) ∧ Below w.heap.size w w' := by
  obtain ⟨hl1, hl8⟩ := shp_len hsh
  have HRD : Hid (∀ w1, Below w.heap.size w w1 → CellsRd w1 0 w1.heap.size v s) := Lib.hid fun w1 b1 => (h.keep (SameIn.of_below b1 (Nat.le_refl _))).more (Nat.le_refl _) b1.size
  have HSH := Lib.hid hsh
  obtain ⟨R, hR⟩ : ∃ R, R = snkB s := ⟨_, rfl⟩
  rw [← hR]
  have HR := Lib.hid hR
  obtain ⟨T, hT⟩ : ∃ T, T = treeB s := ⟨_, rfl⟩
  have HTT := Lib.hid hT
  have HTR : Hid (∀ w1, Below w.heap.size w w1 → Calls Tryz.prog 71 #[v] w1 fun e w' => e = .returned (.bool T) ∧ Below w1.heap.size w1 w') := Lib.hid fun w1 b1 => by
    rw [hT]
    exact impl_tree_c w1 (HRD.out w1 b1) hsh
  have HDG : Hid (∀ (k : Nat) (c : Cell) w1, s[k]? = some c → Below w.heap.size w w1 → Calls Tryz.prog 70 #[v, .agg #[.int .i64 c.x, .int .i64 c.y]] w1 fun e w' => e = .returned (.int .i64 (degTo s c s.length : Nat)) ∧ Below w1.heap.size w1 w') := Lib.hid fun k c w1 hk b1 => impl_degree_c c w1 (HRD.out w1 b1) hsh (List.mem_of_getElem? hk)
  obtain ⟨A, c, rfl, _, hr⟩ := h
  obtain ⟨b, off, hA, _, hb, hcc⟩ := hr.2 (by omega)
  subst hA
  have HCE := Lib.hid hcc
  clear hsh hr hcc hR hT
  go_enter Tryz.func34, Tryz.ntmps34
  go_wp2
  go_loopw [7] (fun kv wx => ∃ k : Nat, k ≤ s.length ∧ kv = .int .i64 k ∧ Hid (∀ (j : Nat) (c : Cell), j < k → s[j]? = some c → degTo s c s.length ≤ 2) ∧ Below w.heap.size w wx) (fun kv _ => s.length - (intOf kv).toNat)
  case atStart => exact ⟨0, Nat.zero_le _, rfl, Lib.hid (fun j c hj => absurd hj (by omega)), Below.refl _ _⟩
  case round =>
    obtain ⟨k, hk, rfl, HA, hbw⟩ := hrel
    by_cases hlt : k < s.length
    · have hlti : (k : Int) < (s.length : Int) := by omega
      obtain ⟨d, hd⟩ : ∃ d, s[k]? = some d := ⟨s[k], List.getElem?_eq_getElem hlt⟩
      have HDQ := Lib.hid (fun w1 (b1 : Below w.heap.size w w1) => HDG.out k d w1 hd b1)
      have HD := Lib.hid hd
      have q1 : wr.cell? ⟨b, off + k * 2, none⟩ = some (.int .i64 d.x) := (hbw.cell (p := ⟨b, off + k * 2, none⟩) hb).trans (HCE.out _ _ (cc_at hd).1)
      have q2 : wr.cell? ⟨b, off + k * 2 + 1, none⟩ = some (.int .i64 d.y) := (hbw.cell (p := ⟨b, off + k * 2 + 1, none⟩) hb).trans (by rw [Nat.add_assoc]; exact HCE.out _ _ (cc_at hd).2)
      have hdl := degTo_le (s := s) (c := d) s.length
      obtain ⟨D, hD⟩ : ∃ D, D = degTo s d s.length := ⟨_, rfl⟩
      rw [← hD] at HDQ hdl
      have HDD := Lib.hid hD
      clear hd hD
      have hb2 : Below w.heap.size w (wr.alloc (.cells #[.int .i64 d.x, .int .i64 d.y] 39)) := hbw.trans (((Below.refl _ _).alloc (Nat.le_refl _) _).mono hbw.size)
      have hl8d : decide ((s.length : Int) ≤ 8) = true := decide_eq_true (by omega)
      go_wp2_with fail
      refine (HDQ.out _ hb2).mono ?_
      rintro e w2 ⟨rfl, b3⟩
      have hb3 := hb2.trans (b3.mono hb2.size)
      clear q1 q2 hb2 b3 HDQ
      by_cases h2 : D ≤ 2
      · have hzz : D ≤ 2 := h2
        have HA2 : Hid (∀ (j : Nat) (c : Cell), j < k + 1 → s[j]? = some c → degTo s c s.length ≤ 2) := Lib.hid fun j c hj hc => by
          by_cases e : j = k
          · subst e; rw [HD.out] at hc; injection hc with hc; subst hc; rw [← HDD.out]; exact h2
          · exact HA.out j c (by omega) hc
        have hg : decide ((2 : Int) < (D : Int)) = false := decide_eq_false (by omega)
        go_wp2
        go_roundw
        case rel => exact ⟨k + 1, by omega, by go_num, HA2, hb3⟩
        case measure => simp [intOf]; omega
      · have hg : decide ((2 : Int) < (D : Int)) = true := decide_eq_true (by omega)
        have hg2 : (2 : Int) < (D : Int) := by omega
        obtain rfl : R = false := by rw [HR.out]; exact snk_no HD.out (by rw [← HDD.out]; exact h2)
        go_wp2
        go_ret
        exact ⟨rfl, hb3⟩
    · obtain rfl : k = s.length := by omega
      have hRT : R = T := by rw [HR.out, HTT.out]; exact snk_all fun j c hj hc => HA.out j c hj hc
      subst hRT
      go_wp2_with fail
      refine (HTR.out _ hbw).mono ?_
      rintro e w2 ⟨rfl, b3⟩
      have hb3 := hbw.trans (b3.mono hbw.size)
      go_wp2
      go_ret
      exact ⟨rfl, hb3⟩
set_option maxRecDepth 100000 in
set_option maxHeartbeats 1600000 in
theorem spec_snake_c {v : Value} {s : List Cell} (w : World) (h : CellsRd w 0 w.heap.size v s) (hsh : isShape s = true) :
    Calls Tryz.prog 20 #[v] w fun e w' => e = .returned (.bool (snkB s)) ∧ Below w.heap.size w w' := by
  obtain ⟨hl1, hl8⟩ := shp_len hsh
  have HRD : Hid (∀ w1, Below w.heap.size w w1 → CellsRd w1 0 w1.heap.size v s) := Lib.hid fun w1 b1 => (h.keep (SameIn.of_below b1 (Nat.le_refl _))).more (Nat.le_refl _) b1.size
  have HSH := Lib.hid hsh
  obtain ⟨R, hR⟩ : ∃ R, R = snkB s := ⟨_, rfl⟩
  rw [← hR]
  have HR := Lib.hid hR
  obtain ⟨T, hT⟩ : ∃ T, T = treeB s := ⟨_, rfl⟩
  have HTT := Lib.hid hT
  have HTR : Hid (∀ w1, Below w.heap.size w w1 → Calls Tryz.prog 51 #[v] w1 fun e w' => e = .returned (.bool T) ∧ Below w1.heap.size w1 w') := Lib.hid fun w1 b1 => by
    rw [hT]
    exact spec_tree_c w1 (HRD.out w1 b1) hsh
  have HDG : Hid (∀ (k : Nat) (c : Cell) w1, s[k]? = some c → Below w.heap.size w w1 → Calls Tryz.prog 52 #[v, .agg #[.int .i64 c.x, .int .i64 c.y]] w1 fun e w' => e = .returned (.int .i64 (degTo s c s.length : Nat)) ∧ Below w1.heap.size w1 w') := Lib.hid fun k c w1 hk b1 => spec_degree_c c w1 (HRD.out w1 b1) hsh (List.mem_of_getElem? hk)
  obtain ⟨A, c, rfl, _, hr⟩ := h
  obtain ⟨b, off, hA, _, hb, hcc⟩ := hr.2 (by omega)
  subst hA
  have HCE := Lib.hid hcc
  clear hsh hr hcc hR hT
  go_enter Tryz.func20, Tryz.ntmps20
  go_wp2_with fail
  refine (HTR.out _ (Below.refl _ _)).mono ?_
  rintro e w1 ⟨rfl, b1⟩
  cases T
  · obtain rfl : R = false := by rw [HR.out, snkB, ← HTT.out]; rfl
    go_wp2
    go_ret
    exact ⟨rfl, b1⟩
  go_wp2
  go_loopw [3] (fun kv wx => ∃ k : Nat, k ≤ s.length ∧ kv = .int .i64 k ∧ Hid (∀ (j : Nat) (c : Cell), j < k → s[j]? = some c → degTo s c s.length ≤ 2) ∧ Below w.heap.size w wx) (fun kv _ => s.length - (intOf kv).toNat)
  case atStart => exact ⟨0, Nat.zero_le _, rfl, Lib.hid (fun j c hj => absurd hj (by omega)), b1⟩
  case round =>
    clear b1
    obtain ⟨k, hk, rfl, HA, hbw⟩ := hrel
    by_cases hlt : k < s.length
    · have hlti : (k : Int) < (s.length : Int) := by omega
      obtain ⟨d, hd⟩ : ∃ d, s[k]? = some d := ⟨s[k], List.getElem?_eq_getElem hlt⟩
      have HDQ := Lib.hid (fun w1 (b1 : Below w.heap.size w w1) => HDG.out k d w1 hd b1)
      have HD := Lib.hid hd
      have q1 : wr.cell? ⟨b, off + k * 2, none⟩ = some (.int .i64 d.x) := (hbw.cell (p := ⟨b, off + k * 2, none⟩) hb).trans (HCE.out _ _ (cc_at hd).1)
      have q2 : wr.cell? ⟨b, off + k * 2 + 1, none⟩ = some (.int .i64 d.y) := (hbw.cell (p := ⟨b, off + k * 2 + 1, none⟩) hb).trans (by rw [Nat.add_assoc]; exact HCE.out _ _ (cc_at hd).2)
      have hdl := degTo_le (s := s) (c := d) s.length
      obtain ⟨D, hD⟩ : ∃ D, D = degTo s d s.length := ⟨_, rfl⟩
      rw [← hD] at HDQ hdl
      have HDD := Lib.hid hD
      clear hd hD
      go_wp2_with fail
      refine (HDQ.out _ hbw).mono ?_
      rintro e w2 ⟨rfl, b3⟩
      have hb3 := hbw.trans (b3.mono hbw.size)
      clear q1 q2 b3 HDQ
      by_cases h2 : D ≤ 2
      · have hzz : D ≤ 2 := h2
        have HA2 : Hid (∀ (j : Nat) (c : Cell), j < k + 1 → s[j]? = some c → degTo s c s.length ≤ 2) := Lib.hid fun j c hj hc => by
          by_cases e : j = k
          · subst e; rw [HD.out] at hc; injection hc with hc; subst hc; rw [← HDD.out]; exact h2
          · exact HA.out j c (by omega) hc
        have hg : decide ((2 : Int) < (D : Int)) = false := decide_eq_false (by omega)
        go_wp2
        go_roundw
        case rel => exact ⟨k + 1, by omega, by go_num, HA2, hb3⟩
        case measure => simp [intOf]; omega
      · have hg : decide ((2 : Int) < (D : Int)) = true := decide_eq_true (by omega)
        have hg2 : (2 : Int) < (D : Int) := by omega
        obtain rfl : R = false := by rw [HR.out]; exact snk_no HD.out (by rw [← HDD.out]; exact h2)
        go_wp2
        go_ret
        exact ⟨rfl, hb3⟩
    · obtain rfl : k = s.length := by omega
      obtain rfl : R = true := by rw [HR.out, snk_all fun j c hj hc => HA.out j c hj hc, ← HTT.out]
      go_wp2
      go_ret
      exact ⟨rfl, hbw⟩
end Go.Proofs.YtbdffadhieljbaaGreatDoor
