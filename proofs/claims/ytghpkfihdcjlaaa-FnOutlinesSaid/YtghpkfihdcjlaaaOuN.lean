
/-
  Inner sides of a shape: both walks; perimeter. Perimeter, trees, degrees and snakes of a shape: both walks.
-/
import Derived.Test.YtghpkfihdcjlaaaShpX
import Derived.Test.YtghpkfihdcjlaaaShpFG
namespace Go.Proofs.Ytghpkfihdcjlaaa
open Go.RowKit

def sdB (s : List Cell) (i k : Nat) : Bool := match s[i]?, s[k]? with
  | some a, some b => sideB a b
  | _, _ => false
theorem sdB_at {s : List Cell} {i k : Nat} {a b : Cell} (ha : s[i]? = some a) (hb : s[k]? = some b) : sdB s i k = sideB a b := by rw [sdB, ha, hb]
/-- how many of the first k lie beside number i -/
def innRow (s : List Cell) (i : Nat) : Nat → Nat
  | 0 => 0
  | k + 1 => innRow s i k + if sdB s i k then 1 else 0
/-- the inner sides of the first cells -/
def innTo (s : List Cell) : Nat → Nat
  | 0 => 0
  | i + 1 => innTo s i + innRow s i i
def innN (s : List Cell) : Nat := innTo s s.length
theorem innRow_le (s : List Cell) (i : Nat) : ∀ k, innRow s i k ≤ k
  | 0 => Nat.le_refl _
  | k + 1 => by
    have := innRow_le s i k
    rw [innRow]
    split <;> omega
theorem innTo_le (s : List Cell) : ∀ i, innTo s i ≤ i * i
  | 0 => Nat.le_refl _
  | i + 1 => by
    have h1 := innTo_le s i
    have h2 := innRow_le s i i
    rw [innTo, Nat.add_mul, Nat.mul_add]
    omega
theorem innTo_64 {s : List Cell} {i : Nat} (hi : i ≤ 8) : innTo s i ≤ 64 := Nat.le_trans (innTo_le s i) (Nat.mul_le_mul hi hi)
set_option maxRecDepth 100000 in
set_option maxHeartbeats 3200000 in
theorem impl_inner_c {v : Value} {s : List Cell} (w : World) (h : CellsRd w 0 w.heap.size v s) (hn : s.length ≤ 1048576) :
    Calls Try.prog 9 #[v] w fun e w' => e = .returned (.int .i64 (if isShape s then (innN s : Int) else 0)) ∧ Below w.heap.size w w' := by
  have HS0 := Lib.hid (impl_isShape_c w h hn)
  obtain ⟨R, hR⟩ : ∃ R : Int, R = if isShape s then (innN s : Int) else 0 := ⟨_, rfl⟩
  rw [← hR]
  have HR := Lib.hid hR
  clear hR
  obtain ⟨A, c, rfl, hm, hr⟩ := id h
  have HRS := Lib.hid hr
  clear hr hm
  clear h
  go_enter Try.func9, Try.ntmps9
  go_wp2_with fail
  refine (HS0.out).mono ?_
  rintro e w1 ⟨rfl, b1⟩
  clear HS0
  cases hsh : isShape s
  · obtain rfl : R = 0 := by rw [HR.out, hsh]; rfl
    go_wp2
    go_ret
    exact ⟨rfl, b1⟩
  obtain ⟨hl1, hl8⟩ := shp_len hsh
  have HSH := Lib.hid hsh
  have HRT : Hid (R = (innTo s s.length : Nat)) := Lib.hid (by rw [HR.out, hsh]; rfl)
  obtain ⟨b, off, hA, _, hb, hc⟩ := HRS.out.2 (by omega)
  subst hA
  have HCE := Lib.hid hc
  clear hc hsh
  go_wp2
  go_loopw [3, 11] (fun av iv wx => ∃ i : Nat, i ≤ s.length ∧ iv = .int .i64 i ∧ av = .int .i64 (innTo s i : Nat) ∧ Below w.heap.size w wx) (fun _ iv _ => s.length - (intOf iv).toNat)
  case atStart => exact ⟨0, Nat.zero_le _, rfl, rfl, b1⟩
  case round =>
    clear b1
    obtain ⟨i, hi, rfl, rfl, hbw⟩ := hrel
    by_cases hlt : i < s.length
    · go_wp2
      go_loopw [3, 15] (fun av kv wx => ∃ k : Nat, k ≤ i ∧ kv = .int .i64 k ∧ av = .int .i64 (innTo s i + innRow s i k : Nat) ∧ Below w.heap.size w wx) (fun _ kv _ => i - (intOf kv).toNat)
      case atStart => exact ⟨0, Nat.zero_le _, rfl, rfl, hbw⟩
      case round =>
        clear hbw
        obtain ⟨k, hk, rfl, rfl, hbw⟩ := hrel
        by_cases hlk : k < i
        · have hlki : (k : Int) < (i : Int) := by omega
          obtain ⟨ci, hci⟩ : ∃ ck, s[i]? = some ck := ⟨s[i], List.getElem?_eq_getElem (by omega)⟩
          obtain ⟨ck, hck⟩ : ∃ ck, s[k]? = some ck := ⟨s[k], List.getElem?_eq_getElem (by omega)⟩
          have hbr : b < wr.heap.size := by have := hbw.size; omega
          have l1 := Later.cell ((hbw.cell (p := ⟨b, off + i * 2, none⟩) hb).trans (HCE.out _ _ (cc_at hci).1)) hbr
          have l2 := Later.cell ((hbw.cell (p := ⟨b, off + i * 2 + 1, none⟩) hb).trans (by rw [Nat.add_assoc]; exact HCE.out _ _ (cc_at hci).2)) hbr
          have l3 := Later.cell ((hbw.cell (p := ⟨b, off + k * 2, none⟩) hb).trans (HCE.out _ _ (cc_at hck).1)) hbr
          have l4 := Later.cell ((hbw.cell (p := ⟨b, off + k * 2 + 1, none⟩) hb).trans (by rw [Nat.add_assoc]; exact HCE.out _ _ (cc_at hck).2)) hbr
          have HSD := Lib.hid (sdB_at hci hck)
          have ON1 := shp_on HSH.out (List.mem_of_getElem? hci)
          have ON2 := shp_on HSH.out (List.mem_of_getElem? hck)
          obtain ⟨sb, hsb⟩ : ∃ b, b = sideB ci ck := ⟨_, rfl⟩
          have HNQ : Hid (∀ w : World, Calls Try.prog 35 #[.agg #[.int .i64 ci.x, .int .i64 ci.y], .agg #[.int .i64 ck.x, .int .i64 ck.y]] w fun e w' => e = .returned (.bool sb) ∧ Below w.heap.size w w') := Lib.hid fun w => by
            rw [hsb]
            exact beside_c ci ck w ON1 ON2
          rw [← hsb] at HSD
          clear hci hck ON1 ON2 hsb
          go_wp2_with fail
          refine wp_region_later (by kernel_rfl) (by kernel_rfl) ?_
          repeat (go_big_quiet_step ((go_at_call 35; exact Later.call (HNQ.out _))))
          refine wpQuiet_nil ?_
          intro w3 hw3
          obtain ⟨u3, hu3⟩ := hw3
          subst hu3
          have hb3 := hbw.trans (u3.h.mono hbw.size)
          clear l1 l2 l3 l4 HNQ
          generalize u3.w = w3 at *
          cases sb
          · have HIR : Hid (innRow s i (k + 1) = innRow s i k) := Lib.hid (by rw [innRow, HSD.out]; simp)
            go_wp2
            go_roundw
            case rel => exact ⟨k + 1, by omega, by go_num, by rw [HIR.out], hb3⟩
            case measure => simp [intOf]; omega
          · have HIR : Hid (innRow s i (k + 1) = innRow s i k + 1) := Lib.hid (by rw [innRow, HSD.out]; simp)
            have n1 := innRow_le s i k
            have n2 := innTo_64 (s := s) (i := i) (by omega)
            have m1 : wrap64 (((innTo s i + innRow s i k : Nat) : Int) + 1) = ((innTo s i + (innRow s i k + 1) : Nat) : Int) := by rw [IntWalk.wrap64_in _ (by omega)]; omega
            go_wp2
            clear m1
            go_roundw
            case rel => exact ⟨k + 1, by omega, by go_num, by rw [HIR.out]; first | rfl | (congr 1; omega), hb3⟩
            case measure => simp [intOf]; omega
        · obtain rfl : k = i := by omega
          go_wp2
          go_roundw
          case rel => exact ⟨k + 1, by omega, by go_num, rfl, hbw⟩
          case measure => simp [intOf]; omega
    · obtain rfl : i = s.length := by omega
      rw [← HRT.out]
      go_wp2
      go_ret
      exact ⟨rfl, hbw⟩
set_option maxRecDepth 100000 in
set_option maxHeartbeats 3200000 in
theorem spec_inner_c {v : Value} {s : List Cell} (w : World) (h : CellsRd w 0 w.heap.size v s) (hn : s.length ≤ 1048576) :
    Calls Try.prog 13 #[v] w fun e w' => e = .returned (.int .i64 (if isShape s then (innN s : Int) else 0)) ∧ Below w.heap.size w w' := by
  have HS0 : Hid (∀ w1, Below w.heap.size w w1 → Calls Try.prog 23 #[v] w1 fun e w' => e = .returned (.bool (isShape s)) ∧ Below w1.heap.size w1 w') := Lib.hid fun w1 b1 => spec_isShape_c w1 ((h.keep (SameIn.of_below b1 (Nat.le_refl _))).more (Nat.le_refl _) b1.size) hn
  obtain ⟨R, hR⟩ : ∃ R : Int, R = if isShape s then (innN s : Int) else 0 := ⟨_, rfl⟩
  rw [← hR]
  have HR := Lib.hid hR
  clear hR
  obtain ⟨A, c, rfl, hm, hr⟩ := id h
  have HRS := Lib.hid hr
  clear hr hm
  clear h
  cases hsh : isShape s
  · have hsh' := hsh
    rw [hsh] at HS0
    clear hsh
    obtain rfl : R = 0 := by rw [HR.out, hsh']; rfl
    clear hsh'
    go_enter Try.func13, Try.ntmps13
    go_wp2
    go_loopw [3, 4] (fun av iv wx => av = .int .i64 0 ∧ iv = .int .i64 0 ∧ Below w.heap.size w wx) (fun _ _ _ => 0)
    case atStart => exact ⟨rfl, rfl, Below.refl _ _⟩
    case round =>
      obtain ⟨rfl, rfl, hbw⟩ := hrel
      by_cases h0 : s.length = 0
      · have hlt : decide ((0 : Int) < (s.length : Int)) = false := decide_eq_false (by omega)
        have hlt2 : ¬ (0 : Int) < (s.length : Int) := by omega
        clear h0
        go_wp2
        go_ret
        exact ⟨rfl, hbw⟩
      · have hlt : decide ((0 : Int) < (s.length : Int)) = true := decide_eq_true (by omega)
        have hlt2 : (0 : Int) < (s.length : Int) := by omega
        clear h0
        go_wp2_with fail
        refine (HS0.out _ hbw).mono ?_
        rintro e w1 ⟨rfl, b1⟩
        have hb := hbw.trans (b1.mono hbw.size)
        go_wp2
        go_ret
        exact ⟨rfl, hb⟩
  obtain ⟨hl1, hl8⟩ := shp_len hsh
  have HSH := Lib.hid hsh
  have HRT : Hid (R = (innTo s s.length : Nat)) := Lib.hid (by rw [HR.out, hsh]; rfl)
  rw [hsh] at HS0
  obtain ⟨b, off, hA, _, hb, hc⟩ := HRS.out.2 (by omega)
  subst hA
  have HCE := Lib.hid hc
  clear hc hsh
  go_enter Try.func13, Try.ntmps13
  go_wp2
  go_loopw [3, 4] (fun av iv wx => ∃ i : Nat, i ≤ s.length ∧ iv = .int .i64 i ∧ av = .int .i64 (innTo s i : Nat) ∧ Below w.heap.size w wx) (fun _ iv _ => s.length - (intOf iv).toNat)
  case atStart => exact ⟨0, Nat.zero_le _, rfl, rfl, Below.refl _ _⟩
  case round =>
    obtain ⟨i, hi, rfl, rfl, hbw⟩ := hrel
    by_cases hlt : i < s.length
    · have hlti : (i : Int) < (s.length : Int) := by omega
      have hltd : decide ((i : Int) < (s.length : Int)) = true := decide_eq_true hlti
      go_wp2_with fail
      refine (HS0.out _ hbw).mono ?_
      rintro e w1 ⟨rfl, b1⟩
      have hbw := hbw.trans (b1.mono hbw.size)
      clear b1
      go_wp2
      go_loopw [3, 5] (fun av kv wx => ∃ k : Nat, k ≤ i ∧ kv = .int .i64 k ∧ av = .int .i64 (innTo s i + innRow s i k : Nat) ∧ Below w.heap.size w wx) (fun _ kv _ => i - (intOf kv).toNat)
      case atStart => exact ⟨0, Nat.zero_le _, rfl, rfl, hbw⟩
      case round =>
        clear hbw
        obtain ⟨k, hk, rfl, rfl, hbw⟩ := hrel
        by_cases hlk : k < i
        · have hlki : (k : Int) < (i : Int) := by omega
          obtain ⟨ci, hci⟩ : ∃ ck, s[i]? = some ck := ⟨s[i], List.getElem?_eq_getElem (by omega)⟩
          obtain ⟨ck, hck⟩ : ∃ ck, s[k]? = some ck := ⟨s[k], List.getElem?_eq_getElem (by omega)⟩
          have hbr : b < wr.heap.size := by have := hbw.size; omega
          have l1 := Later.cell ((hbw.cell (p := ⟨b, off + i * 2, none⟩) hb).trans (HCE.out _ _ (cc_at hci).1)) hbr
          have l2 := Later.cell ((hbw.cell (p := ⟨b, off + i * 2 + 1, none⟩) hb).trans (by rw [Nat.add_assoc]; exact HCE.out _ _ (cc_at hci).2)) hbr
          have l3 := Later.cell ((hbw.cell (p := ⟨b, off + k * 2, none⟩) hb).trans (HCE.out _ _ (cc_at hck).1)) hbr
          have l4 := Later.cell ((hbw.cell (p := ⟨b, off + k * 2 + 1, none⟩) hb).trans (by rw [Nat.add_assoc]; exact HCE.out _ _ (cc_at hck).2)) hbr
          have HSD := Lib.hid (sdB_at hci hck)
          have ON1 := shp_on HSH.out (List.mem_of_getElem? hci)
          have ON2 := shp_on HSH.out (List.mem_of_getElem? hck)
          obtain ⟨sb, hsb⟩ : ∃ b, b = sideB ci ck := ⟨_, rfl⟩
          have HNQ : Hid (∀ w : World, Calls Try.prog 41 #[.agg #[.int .i64 ci.x, .int .i64 ci.y], .agg #[.int .i64 ck.x, .int .i64 ck.y]] w fun e w' => e = .returned (.bool sb) ∧ Below w.heap.size w w') := Lib.hid fun w => by
            rw [hsb]
            exact near_sq_c ci ck w ON1 ON2
          rw [← hsb] at HSD
          clear hci hck ON1 ON2 hsb
          go_wp2_with fail
          refine wp_region_later (by kernel_rfl) (by kernel_rfl) ?_
          repeat (go_big_quiet_step ((go_at_call 41; exact Later.call (HNQ.out _))))
          refine wpQuiet_nil ?_
          intro w3 hw3
          obtain ⟨u3, hu3⟩ := hw3
          subst hu3
          have hb3 := hbw.trans (u3.h.mono hbw.size)
          clear l1 l2 l3 l4 HNQ
          generalize u3.w = w3 at *
          cases sb
          · have HIR : Hid (innRow s i (k + 1) = innRow s i k) := Lib.hid (by rw [innRow, HSD.out]; simp)
            go_wp2
            go_roundw
            case rel => exact ⟨k + 1, by omega, by go_num, by rw [HIR.out], hb3⟩
            case measure => simp [intOf]; omega
          · have HIR : Hid (innRow s i (k + 1) = innRow s i k + 1) := Lib.hid (by rw [innRow, HSD.out]; simp)
            have n1 := innRow_le s i k
            have n2 := innTo_64 (s := s) (i := i) (by omega)
            have m1 : wrap64 (((innTo s i + innRow s i k : Nat) : Int) + 1) = ((innTo s i + (innRow s i k + 1) : Nat) : Int) := by rw [IntWalk.wrap64_in _ (by omega)]; omega
            go_wp2
            clear m1
            go_roundw
            case rel => exact ⟨k + 1, by omega, by go_num, by rw [HIR.out]; first | rfl | (congr 1; omega), hb3⟩
            case measure => simp [intOf]; omega
        · obtain rfl : k = i := by omega
          go_wp2
          go_roundw
          case rel => exact ⟨k + 1, by omega, by go_num, rfl, hbw⟩
          case measure => simp [intOf]; omega
    · obtain rfl : i = s.length := by omega
      have hltd : decide ((s.length : Int) < (s.length : Int)) = false := decide_eq_false (by omega)
      rw [← HRT.out]
      go_wp2
      go_ret
      exact ⟨rfl, hbw⟩
end Go.Proofs.Ytghpkfihdcjlaaa

namespace Go.Proofs.Ytghpkfihdcjlaaa
open Go.RowKit

theorem inn_le64 {s : List Cell} (h : isShape s = true) : innN s ≤ 64 := innTo_64 (shp_len h).2
def perZ (s : List Cell) : Int := 4 * (s.length : Int) - 2 * (innN s : Int)
set_option maxRecDepth 100000 in
set_option maxHeartbeats 800000 in
theorem impl_per_c {v : Value} {s : List Cell} (w : World) (h : CellsRd w 0 w.heap.size v s) (hsh : isShape s = true) :
    Calls Try.prog 7 #[v] w fun e w' => e = .returned (.int .i64 (perZ s)) ∧ Below w.heap.size w w' := by
  obtain ⟨hl1, hl8⟩ := shp_len hsh
  have HI : Hid (∀ w1, Below w.heap.size w w1 → Calls Try.prog 9 #[v] w1 fun e w' => e = .returned (.int .i64 (innN s : Int)) ∧ Below w1.heap.size w1 w') := Lib.hid fun w1 b1 => by
    have := impl_inner_c w1 ((h.keep (SameIn.of_below b1 (Nat.le_refl _))).more (Nat.le_refl _) b1.size) (by omega)
    rwa [if_pos hsh] at this
  have HS := Lib.hid (impl_isShape_c w h (by omega))
  rw [hsh] at HS
  have hi := inn_le64 hsh
  obtain ⟨P, hP⟩ : ∃ P, P = perZ s := ⟨_, rfl⟩
  rw [← hP]
  have HP : Hid (P = 4 * (s.length : Int) - 2 * (innN s : Int)) := Lib.hid (by rw [hP]; rfl)
  obtain ⟨A, c, rfl, _, _⟩ := h
  clear hP hsh
  generalize innN s = n at *
  generalize s.length = L at *
  have m1 : wrap64 (4 * (L : Int)) = 4 * (L : Int) := IntWalk.wrap64_in _ (by omega)
  have m2 : wrap64 (2 * (n : Int)) = 2 * (n : Int) := IntWalk.wrap64_in _ (by omega)
  have m3 : wrap64 (4 * (L : Int) - 2 * (n : Int)) = P := by rw [HP.out]; exact IntWalk.wrap64_in _ (by omega)
  go_enter Try.func7, Try.ntmps7
  go_wp2_with fail
  refine (HS.out).mono ?_
  rintro e w1 ⟨rfl, b1⟩
  go_wp2_with fail
  refine (HI.out _ b1).mono ?_
  rintro e w2 ⟨rfl, b2⟩
  have hb := b1.trans (b2.mono b1.size)
  go_wp2
  go_ret
  exact ⟨by rw [HP.out]; rfl, hb⟩
set_option maxRecDepth 100000 in
set_option maxHeartbeats 800000 in
theorem spec_per_c {v : Value} {s : List Cell} (w : World) (h : CellsRd w 0 w.heap.size v s) (hsh : isShape s = true) :
    Calls Try.prog 11 #[v] w fun e w' => e = .returned (.int .i64 (perZ s)) ∧ Below w.heap.size w w' := by
  obtain ⟨hl1, hl8⟩ := shp_len hsh
  have HI : Hid (∀ w1, Below w.heap.size w w1 → Calls Try.prog 13 #[v] w1 fun e w' => e = .returned (.int .i64 (innN s : Int)) ∧ Below w1.heap.size w1 w') := Lib.hid fun w1 b1 => by
    have := spec_inner_c w1 ((h.keep (SameIn.of_below b1 (Nat.le_refl _))).more (Nat.le_refl _) b1.size) (by omega)
    rwa [if_pos hsh] at this
  have HS := Lib.hid (spec_isShape_c w h (by omega))
  rw [hsh] at HS
  have hi := inn_le64 hsh
  obtain ⟨P, hP⟩ : ∃ P, P = perZ s := ⟨_, rfl⟩
  rw [← hP]
  have HP : Hid (P = 4 * (s.length : Int) - 2 * (innN s : Int)) := Lib.hid (by rw [hP]; rfl)
  obtain ⟨A, c, rfl, _, _⟩ := h
  clear hP hsh
  generalize innN s = n at *
  generalize s.length = L at *
  have m1 : wrap64 (4 * (L : Int)) = 4 * (L : Int) := IntWalk.wrap64_in _ (by omega)
  have m2 : wrap64 (2 * (n : Int)) = 2 * (n : Int) := IntWalk.wrap64_in _ (by omega)
  have m3 : wrap64 (4 * (L : Int) - 2 * (n : Int)) = P := by rw [HP.out]; exact IntWalk.wrap64_in _ (by omega)
  go_enter Try.func11, Try.ntmps11
  go_wp2_with fail
  refine (HS.out).mono ?_
  rintro e w1 ⟨rfl, b1⟩
  go_wp2_with fail
  refine (HI.out _ b1).mono ?_
  rintro e w2 ⟨rfl, b2⟩
  have hb := b1.trans (b2.mono b1.size)
  go_wp2
  go_ret
  exact ⟨by rw [HP.out]; rfl, hb⟩
noncomputable def treeB (s : List Cell) : Bool := connS s && decide ((innN s : Int) = (s.length : Int) - 1)
set_option maxRecDepth 100000 in
set_option maxHeartbeats 800000 in
theorem impl_tree_c {v : Value} {s : List Cell} (w : World) (h : CellsRd w 0 w.heap.size v s) (hsh : isShape s = true) :
    Calls Try.prog 21 #[v] w fun e w' => e = .returned (.bool (treeB s)) ∧ Below w.heap.size w w' := by
  obtain ⟨hl1, hl8⟩ := shp_len hsh
  have HI : Hid (∀ w1, Below w.heap.size w w1 → Calls Try.prog 9 #[v] w1 fun e w' => e = .returned (.int .i64 (innN s : Int)) ∧ Below w1.heap.size w1 w') := Lib.hid fun w1 b1 => by
    have := impl_inner_c w1 ((h.keep (SameIn.of_below b1 (Nat.le_refl _))).more (Nat.le_refl _) b1.size) (by omega)
    rwa [if_pos hsh] at this
  have HC := Lib.hid (impl_conn_c w h (by omega))
  have hi := inn_le64 hsh
  obtain ⟨R, hR⟩ : ∃ R, R = treeB s := ⟨_, rfl⟩
  rw [← hR]
  unfold treeB at hR
  have HR := Lib.hid hR
  obtain ⟨A, c, rfl, _, _⟩ := h
  obtain ⟨cn, hcn⟩ : ∃ b, b = connS s := ⟨_, rfl⟩
  rw [← hcn] at HR HC
  clear hR hsh hcn
  generalize innN s = n at *
  generalize s.length = L at *
  cases cn
  · obtain rfl : R = false := by rw [HR.out]; rfl
    go_enter Try.func21, Try.ntmps21
    go_wp2_with fail
    refine (HC.out).mono ?_
    rintro e w1 ⟨rfl, b1⟩
    go_wp2
    go_ret
    exact ⟨rfl, b1⟩
  · have m1 : wrap64 ((L : Int) - 1) = (L : Int) - 1 := IntWalk.wrap64_in _ (by omega)
    have e1 : ((n : Int) == (L : Int) - 1) = R := by rw [HR.out, Bool.true_and, Bool.eq_iff_iff, beq_iff_eq, decide_eq_true_iff]
    go_enter Try.func21, Try.ntmps21
    go_wp2_with fail
    refine (HC.out).mono ?_
    rintro e w1 ⟨rfl, b1⟩
    go_wp2_with fail
    refine (HI.out _ b1).mono ?_
    rintro e w2 ⟨rfl, b2⟩
    have hb := b1.trans (b2.mono b1.size)
    go_wp2
    go_ret
    exact ⟨rfl, hb⟩
set_option maxRecDepth 100000 in
set_option maxHeartbeats 800000 in
theorem spec_tree_c {v : Value} {s : List Cell} (w : World) (h : CellsRd w 0 w.heap.size v s) (hsh : isShape s = true) :
    Calls Try.prog 22 #[v] w fun e w' => e = .returned (.bool (treeB s)) ∧ Below w.heap.size w w' := by
  obtain ⟨hl1, hl8⟩ := shp_len hsh
  have HI : Hid (∀ w1, Below w.heap.size w w1 → Calls Try.prog 13 #[v] w1 fun e w' => e = .returned (.int .i64 (innN s : Int)) ∧ Below w1.heap.size w1 w') := Lib.hid fun w1 b1 => by
    have := spec_inner_c w1 ((h.keep (SameIn.of_below b1 (Nat.le_refl _))).more (Nat.le_refl _) b1.size) (by omega)
    rwa [if_pos hsh] at this
  have HC := Lib.hid (spec_conn_c w h (by omega))
  have hi := inn_le64 hsh
  obtain ⟨R, hR⟩ : ∃ R, R = treeB s := ⟨_, rfl⟩
  rw [← hR]
  unfold treeB at hR
  have HR := Lib.hid hR
  obtain ⟨A, c, rfl, _, _⟩ := h
  obtain ⟨cn, hcn⟩ : ∃ b, b = connS s := ⟨_, rfl⟩
  rw [← hcn] at HR HC
  clear hR hsh hcn
  generalize innN s = n at *
  generalize s.length = L at *
  cases cn
  · obtain rfl : R = false := by rw [HR.out]; rfl
    go_enter Try.func22, Try.ntmps22
    go_wp2_with fail
    refine (HC.out).mono ?_
    rintro e w1 ⟨rfl, b1⟩
    go_wp2
    go_ret
    exact ⟨rfl, b1⟩
  · have m1 : wrap64 ((L : Int) - 1) = (L : Int) - 1 := IntWalk.wrap64_in _ (by omega)
    have e1 : ((n : Int) == (L : Int) - 1) = R := by rw [HR.out, Bool.true_and, Bool.eq_iff_iff, beq_iff_eq, decide_eq_true_iff]
    go_enter Try.func22, Try.ntmps22
    go_wp2_with fail
    refine (HC.out).mono ?_
    rintro e w1 ⟨rfl, b1⟩
    go_wp2_with fail
    refine (HI.out _ b1).mono ?_
    rintro e w2 ⟨rfl, b2⟩
    have hb := b1.trans (b2.mono b1.size)
    go_wp2
    go_ret
    exact ⟨rfl, hb⟩
/-- how many of the first k cells lie beside c -/
def degTo (s : List Cell) (c : Cell) (k : Nat) : Nat := (s.take k).countP fun d => sideB c d
theorem degTo_succ {s : List Cell} {c d : Cell} {k : Nat} (h : s[k]? = some d) : degTo s c (k + 1) = degTo s c k + if sideB c d then 1 else 0 := by
  obtain ⟨hk, rfl⟩ := List.getElem?_eq_some_iff.1 h
  rw [degTo, degTo, List.take_succ_eq_append_getElem hk, List.countP_append, List.countP_singleton]
theorem degTo_le {s : List Cell} {c : Cell} (k : Nat) : degTo s c k ≤ k := Nat.le_trans List.countP_le_length (by rw [List.length_take]; omega)
theorem sideB_comm (a b : Cell) : sideB a b = sideB b a := by
  unfold sideB
  rw [show a.x - b.x = -(b.x - a.x) by omega, show a.y - b.y = -(b.y - a.y) by omega, Int.neg_mul_neg, Int.neg_mul_neg]
end Go.Proofs.Ytghpkfihdcjlaaa
