
/-
  Numbers as digits: both walks.
-/
import Derived.Test.YtjoglffhdoneoaaGreatDoorFmtDig
import Derived.Test.YtjoglffhdoneoaaGreatDoorSepX
import Derived.IntWalk
namespace Go.Proofs.YtjoglffhdoneoaaGreatDoor
open Go.RowKit

def clp (n : Int) : Int := if n < 0 then 0 else if 9 < n then 9 else n
theorem clp_in (n : Int) : 0 ≤ clp n ∧ clp n ≤ 9 := by
  unfold clp
  split
  · omega
  · split <;> omega
def digT (l : List Int) : Nat → ByteArray
  | 0 => ⟨#[]⟩
  | k + 1 => digT l k ++ dgt (clp (l.getD k 0))
theorem digT_size {l : List Int} : ∀ k, (digT l k).size = k
  | 0 => rfl
  | k + 1 => by rw [digT, ByteArray.size_append, digT_size k, dgt_size]
def digS (l : List Int) : ByteArray := if l.length ≤ 40 then digT l l.length else ⟨#[]⟩
set_option maxRecDepth 100000 in
set_option maxHeartbeats 1600000 in
theorem spec_digits_c {v : Value} {l : List Int} (w : World) (h : IntsRd w 0 w.heap.size v l) :
    Calls Tryz.prog 48 #[v] w fun e w' => e = .returned (.string (digS l)) ∧ Below w.heap.size w w' := by
  obtain ⟨A, c, rfl, hm, hr⟩ := h
  obtain ⟨n, hn⟩ : ∃ n, n = l.length := ⟨_, rfl⟩
  rw [← hn] at hm hr ⊢
  have HN := Lib.hid hn
  have HR := Lib.hid hr
  unfold maxLen at hm
  clear hn hr
  by_cases h40 : n ≤ 40
  · have h40i : (n : Int) ≤ 40 := by omega
    have h40j : ¬ (40 : Int) < (n : Int) := by omega
    have HD : Hid (digS l = digT l n) := Lib.hid (by unfold digS; rw [← HN.out, if_pos h40])
    obtain ⟨R, hR⟩ : ∃ R, R = digS l := ⟨_, rfl⟩
    rw [← hR] at HD ⊢
    clear hR
    go_enter Tryz.func48, Tryz.ntmps48
    go_wp2
    go_loopw [3, 4] (fun sv iv wx => ∃ i : Nat, i ≤ n ∧ iv = .int .i64 i ∧ sv = .string (digT l i) ∧ Below w.heap.size w wx) (fun _ iv _ => n - (intOf iv).toNat)
    case atStart => exact ⟨0, Nat.zero_le _, rfl, rfl, Below.refl _ _⟩
    case round =>
      obtain ⟨i, hi, rfl, rfl, H⟩ := hrel
      have hsz : (digT l i).size = i := digT_size i
      have hsz2 : (digT l i).size ≤ 100 := by omega
      clear hsz
      by_cases hlt : i < n
      · have hlti : (i : Int) < (n : Int) := by omega
        obtain ⟨m, hm1⟩ : ∃ m, l[i]? = some m := ⟨l[i]'(by rw [← HN.out]; exact hlt), List.getElem?_eq_getElem _⟩
        have HM := Lib.hid hm1
        obtain ⟨b, off, hA1, _, hb, hc⟩ := HR.out.2 (by omega)
        subst hA1
        have x1 := (H.cell (p := ⟨b, off + i, none⟩) hb).trans (hc i (.int .i64 m) (by simp [ic, hm1]))
        clear hc hm1
        by_cases h0 : m < 0
        · have d1 : decide (m < 9) = true := decide_eq_true (by omega)
          have d2 : decide (9 < m) = false := decide_eq_false (by omega)
          have d3 : ¬ 9 < m := by omega
          have d4 : m < 9 := by omega
          have d5 : ¬ 0 < m := by omega
          · have HS : Hid (digT l i ++ dgt 0 = digT l (i + 1)) := Lib.hid (by
              rw [digT, List.getD_eq_getElem?_getD, HM.out, Option.getD_some]
              show _ = digT l i ++ dgt (clp _)
              unfold clp
              rw [if_pos h0])
            have HC := Lib.hid (spec_dig_c 0 wr (by omega) (by omega))
            have hs1 : ¬ 9223372036854775807 < (digT l i).size + (dgt 0).size := by rw [dgt_size]; omega
            generalize digT l i = T at *
            generalize dgt 0 = U at *
            go_wp2_with fail
            refine (HC.out).mono ?_
            (rintro e w3 ⟨rfl, b3⟩; have H2 := H.trans (b3.mono H.size); clear b3)
            go_wp2
            go_roundw
            case rel => exact ⟨i + 1, by omega, by go_num, by rw [HS.out], H2⟩
            case measure => simp [intOf]; omega
        · by_cases h9 : 9 < m
          · have d3 : ¬ m < 9 := by omega
            · have HS : Hid (digT l i ++ dgt 9 = digT l (i + 1)) := Lib.hid (by
                rw [digT, List.getD_eq_getElem?_getD, HM.out, Option.getD_some]
                show _ = digT l i ++ dgt (clp _)
                unfold clp
                rw [if_neg h0, if_pos h9])
              have HC := Lib.hid (spec_dig_c 9 wr (by omega) (by omega))
              have hs1 : ¬ 9223372036854775807 < (digT l i).size + (dgt 9).size := by rw [dgt_size]; omega
              generalize digT l i = T at *
              generalize dgt 9 = U at *
              go_wp2_with fail
              refine (HC.out).mono ?_
              (rintro e w3 ⟨rfl, b3⟩; have H2 := H.trans (b3.mono H.size); clear b3)
              go_wp2
              go_roundw
              case rel => exact ⟨i + 1, by omega, by go_num, by rw [HS.out], H2⟩
              case measure => simp [intOf]; omega
          · by_cases h90 : m = 9
            · subst h90
              · have HS : Hid (digT l i ++ dgt 9 = digT l (i + 1)) := Lib.hid (by
                  rw [digT, List.getD_eq_getElem?_getD, HM.out, Option.getD_some]
                  show _ = digT l i ++ dgt (clp _)
                  unfold clp
                  rfl)
                have HC := Lib.hid (spec_dig_c 9 wr (by omega) (by omega))
                have hs1 : ¬ 9223372036854775807 < (digT l i).size + (dgt 9).size := by rw [dgt_size]; omega
                generalize digT l i = T at *
                generalize dgt 9 = U at *
                go_wp2_with fail
                refine (HC.out).mono ?_
                (rintro e w3 ⟨rfl, b3⟩; have H2 := H.trans (b3.mono H.size); clear b3)
                go_wp2
                go_roundw
                case rel => exact ⟨i + 1, by omega, by go_num, by rw [HS.out], H2⟩
                case measure => simp [intOf]; omega
            · by_cases h00 : m = 0
              · subst h00
                · have HS : Hid (digT l i ++ dgt 0 = digT l (i + 1)) := Lib.hid (by
                    rw [digT, List.getD_eq_getElem?_getD, HM.out, Option.getD_some]
                    show _ = digT l i ++ dgt (clp _)
                    unfold clp
                    rfl)
                  have HC := Lib.hid (spec_dig_c 0 wr (by omega) (by omega))
                  have hs1 : ¬ 9223372036854775807 < (digT l i).size + (dgt 0).size := by rw [dgt_size]; omega
                  generalize digT l i = T at *
                  generalize dgt 0 = U at *
                  go_wp2_with fail
                  refine (HC.out).mono ?_
                  (rintro e w3 ⟨rfl, b3⟩; have H2 := H.trans (b3.mono H.size); clear b3)
                  go_wp2
                  go_roundw
                  case rel => exact ⟨i + 1, by omega, by go_num, by rw [HS.out], H2⟩
                  case measure => simp [intOf]; omega
              · have d4 : m < 9 := by omega
                have d5 : 0 < m := by omega
                · have HS : Hid (digT l i ++ dgt m = digT l (i + 1)) := Lib.hid (by
                    rw [digT, List.getD_eq_getElem?_getD, HM.out, Option.getD_some]
                    show _ = digT l i ++ dgt (clp _)
                    unfold clp
                    rw [if_neg h0, if_neg h9])
                  have HC := Lib.hid (spec_dig_c m wr (by omega) (by omega))
                  have hs1 : ¬ 9223372036854775807 < (digT l i).size + (dgt m).size := by rw [dgt_size]; omega
                  generalize digT l i = T at *
                  generalize dgt m = U at *
                  go_wp2_with fail
                  refine (HC.out).mono ?_
                  (rintro e w3 ⟨rfl, b3⟩; have H2 := H.trans (b3.mono H.size); clear b3)
                  go_wp2
                  go_roundw
                  case rel => exact ⟨i + 1, by omega, by go_num, by rw [HS.out], H2⟩
                  case measure => simp [intOf]; omega
      · obtain rfl : i = n := by omega
        go_wp2
        go_ret
        exact ⟨by rw [HD.out]; rfl, H⟩
  · have h40i : ¬ (n : Int) ≤ 40 := by omega
    have h40j : (40 : Int) < (n : Int) := by omega
    have HD : Hid (digS l = ⟨#[]⟩) := Lib.hid (by unfold digS; rw [← HN.out, if_neg h40])
    obtain ⟨R, hR⟩ : ∃ R, R = digS l := ⟨_, rfl⟩
    rw [← hR] at HD ⊢
    clear hR
    go_enter Tryz.func48, Tryz.ntmps48
    go_wp2
    go_loopw [3, 4] (fun sv iv wx => sv = .string ⟨#[]⟩ ∧ iv = .int .i64 0 ∧ w = wx) (fun _ _ _ => 0)
    case atStart => exact ⟨rfl, rfl, rfl⟩
    case round =>
      obtain ⟨rfl, rfl, rfl⟩ := hrel
      have h0i : (0 : Int) < (n : Int) := by omega
      go_wp2
      go_ret
      exact ⟨by rw [HD.out]; rfl, Below.refl _ _⟩
set_option maxRecDepth 100000 in
set_option maxHeartbeats 1600000 in
theorem impl_digits_c {v : Value} {l : List Int} (w : World) (h : IntsRd w 0 w.heap.size v l) :
    Calls Tryz.prog 60 #[v] w fun e w' => e = .returned (.string (digS l)) ∧ Below w.heap.size w w' := by
  obtain ⟨A, c, rfl, hm, hr⟩ := h
  obtain ⟨n, hn⟩ : ∃ n, n = l.length := ⟨_, rfl⟩
  rw [← hn] at hm hr ⊢
  have HN := Lib.hid hn
  have HR := Lib.hid hr
  unfold maxLen at hm
  clear hn hr
  by_cases h40 : n ≤ 40
  · have h40i : (n : Int) ≤ 40 := by omega
    have h40j : ¬ (40 : Int) < (n : Int) := by omega
    have HD : Hid (digS l = digT l n) := Lib.hid (by unfold digS; rw [← HN.out, if_pos h40])
    obtain ⟨R, hR⟩ : ∃ R, R = digS l := ⟨_, rfl⟩
    rw [← hR] at HD ⊢
    clear hR
    go_enter Tryz.func60, Tryz.ntmps60
    go_wp2
    go_loopw [3, 11] (fun sv iv wx => ∃ i : Nat, i ≤ n ∧ iv = .int .i64 i ∧ sv = .string (digT l i) ∧ Below w.heap.size w wx) (fun _ iv _ => n - (intOf iv).toNat)
    case atStart => exact ⟨0, Nat.zero_le _, rfl, rfl, Below.refl _ _⟩
    case round =>
      obtain ⟨i, hi, rfl, rfl, H⟩ := hrel
      have hsz : (digT l i).size = i := digT_size i
      have hsz2 : (digT l i).size ≤ 100 := by omega
      clear hsz
      by_cases hlt : i < n
      · have hlti : (i : Int) < (n : Int) := by omega
        obtain ⟨m, hm1⟩ : ∃ m, l[i]? = some m := ⟨l[i]'(by rw [← HN.out]; exact hlt), List.getElem?_eq_getElem _⟩
        have HM := Lib.hid hm1
        obtain ⟨b, off, hA1, _, hb, hc⟩ := HR.out.2 (by omega)
        subst hA1
        have x1 := (H.cell (p := ⟨b, off + i, none⟩) hb).trans (hc i (.int .i64 m) (by simp [ic, hm1]))
        clear hc hm1
        by_cases h0 : m < 0
        · have d1 : decide (m < 9) = true := decide_eq_true (by omega)
          have d2 : decide (9 < m) = false := decide_eq_false (by omega)
          have d3 : ¬ 9 < m := by omega
          have d4 : m < 9 := by omega
          have d5 : ¬ 0 < m := by omega
          · have HS : Hid (digT l i ++ dgt 0 = digT l (i + 1)) := Lib.hid (by
              rw [digT, List.getD_eq_getElem?_getD, HM.out, Option.getD_some]
              show _ = digT l i ++ dgt (clp _)
              unfold clp
              rw [if_pos h0])
            have HC := Lib.hid (impl_dig_c 0 wr (by omega) (by omega))
            have hs1 : ¬ 9223372036854775807 < (digT l i).size + (dgt 0).size := by rw [dgt_size]; omega
            generalize digT l i = T at *
            generalize dgt 0 = U at *
            go_wp2_with fail
            refine (HC.out).mono ?_
            (rintro e w3 ⟨rfl, rfl⟩; have H2 := H)
            go_wp2
            go_roundw
            case rel => exact ⟨i + 1, by omega, by go_num, by rw [HS.out], H2⟩
            case measure => simp [intOf]; omega
        · by_cases h9 : 9 < m
          · have d3 : ¬ m < 9 := by omega
            · have HS : Hid (digT l i ++ dgt 9 = digT l (i + 1)) := Lib.hid (by
                rw [digT, List.getD_eq_getElem?_getD, HM.out, Option.getD_some]
                show _ = digT l i ++ dgt (clp _)
                unfold clp
                rw [if_neg h0, if_pos h9])
              have HC := Lib.hid (impl_dig_c 9 wr (by omega) (by omega))
              have hs1 : ¬ 9223372036854775807 < (digT l i).size + (dgt 9).size := by rw [dgt_size]; omega
              generalize digT l i = T at *
              generalize dgt 9 = U at *
              go_wp2_with fail
              refine (HC.out).mono ?_
              (rintro e w3 ⟨rfl, rfl⟩; have H2 := H)
              go_wp2
              go_roundw
              case rel => exact ⟨i + 1, by omega, by go_num, by rw [HS.out], H2⟩
              case measure => simp [intOf]; omega
          · by_cases h90 : m = 9
            · subst h90
              · have HS : Hid (digT l i ++ dgt 9 = digT l (i + 1)) := Lib.hid (by
                  rw [digT, List.getD_eq_getElem?_getD, HM.out, Option.getD_some]
                  show _ = digT l i ++ dgt (clp _)
                  unfold clp
                  rfl)
                have HC := Lib.hid (impl_dig_c 9 wr (by omega) (by omega))
                have hs1 : ¬ 9223372036854775807 < (digT l i).size + (dgt 9).size := by rw [dgt_size]; omega
                generalize digT l i = T at *
                generalize dgt 9 = U at *
                go_wp2_with fail
                refine (HC.out).mono ?_
                (rintro e w3 ⟨rfl, rfl⟩; have H2 := H)
                go_wp2
                go_roundw
                case rel => exact ⟨i + 1, by omega, by go_num, by rw [HS.out], H2⟩
                case measure => simp [intOf]; omega
            · by_cases h00 : m = 0
              · subst h00
                · have HS : Hid (digT l i ++ dgt 0 = digT l (i + 1)) := Lib.hid (by
                    rw [digT, List.getD_eq_getElem?_getD, HM.out, Option.getD_some]
                    show _ = digT l i ++ dgt (clp _)
                    unfold clp
                    rfl)
                  have HC := Lib.hid (impl_dig_c 0 wr (by omega) (by omega))
                  have hs1 : ¬ 9223372036854775807 < (digT l i).size + (dgt 0).size := by rw [dgt_size]; omega
                  generalize digT l i = T at *
                  generalize dgt 0 = U at *
                  go_wp2_with fail
                  refine (HC.out).mono ?_
                  (rintro e w3 ⟨rfl, rfl⟩; have H2 := H)
                  go_wp2
                  go_roundw
                  case rel => exact ⟨i + 1, by omega, by go_num, by rw [HS.out], H2⟩
                  case measure => simp [intOf]; omega
              · have d4 : m < 9 := by omega
                have d5 : 0 < m := by omega
                · have HS : Hid (digT l i ++ dgt m = digT l (i + 1)) := Lib.hid (by
                    rw [digT, List.getD_eq_getElem?_getD, HM.out, Option.getD_some]
                    show _ = digT l i ++ dgt (clp _)
                    unfold clp
                    rw [if_neg h0, if_neg h9])
                  have HC := Lib.hid (impl_dig_c m wr (by omega) (by omega))
                  have hs1 : ¬ 9223372036854775807 < (digT l i).size + (dgt m).size := by rw [dgt_size]; omega
                  generalize digT l i = T at *
                  generalize dgt m = U at *
                  go_wp2_with fail
                  refine (HC.out).mono ?_
                  (rintro e w3 ⟨rfl, rfl⟩; have H2 := H)
                  go_wp2
                  go_roundw
                  case rel => exact ⟨i + 1, by omega, by go_num, by rw [HS.out], H2⟩
                  case measure => simp [intOf]; omega
      · obtain rfl : i = n := by omega
        go_wp2
        go_ret
        exact ⟨by rw [HD.out]; rfl, H⟩
  · have h40i : ¬ (n : Int) ≤ 40 := by omega
    have h40j : (40 : Int) < (n : Int) := by omega
    have HD : Hid (digS l = ⟨#[]⟩) := Lib.hid (by unfold digS; rw [← HN.out, if_neg h40])
    obtain ⟨R, hR⟩ : ∃ R, R = digS l := ⟨_, rfl⟩
    rw [← hR] at HD ⊢
    clear hR
    go_enter Tryz.func60, Tryz.ntmps60
    go_wp2
    go_ret
    exact ⟨by rw [HD.out]; rfl, Below.refl _ _⟩
set_option maxRecDepth 100000 in
set_option maxHeartbeats 1600000 in
theorem impl_digitsS_c {v : Value} {l : List Int} (w : World) (h : IntsRd w 0 w.heap.size v l) :
    Calls Tryz.prog 60 #[v] w fun e w' => e = .returned (.string (digS l)) ∧ w = w' := by
  obtain ⟨A, c, rfl, hm, hr⟩ := h
  obtain ⟨n, hn⟩ : ∃ n, n = l.length := ⟨_, rfl⟩
  rw [← hn] at hm hr ⊢
  have HN := Lib.hid hn
  have HR := Lib.hid hr
  unfold maxLen at hm
  clear hn hr
  by_cases h40 : n ≤ 40
  · have h40i : (n : Int) ≤ 40 := by omega
    have h40j : ¬ (40 : Int) < (n : Int) := by omega
    have HD : Hid (digS l = digT l n) := Lib.hid (by unfold digS; rw [← HN.out, if_pos h40])
    obtain ⟨R, hR⟩ : ∃ R, R = digS l := ⟨_, rfl⟩
    rw [← hR] at HD ⊢
    clear hR
    go_enter Tryz.func60, Tryz.ntmps60
    go_wp2
    go_loopw [3, 11] (fun sv iv wx => ∃ i : Nat, i ≤ n ∧ iv = .int .i64 i ∧ sv = .string (digT l i) ∧ w = wx) (fun _ iv _ => n - (intOf iv).toNat)
    case atStart => exact ⟨0, Nat.zero_le _, rfl, rfl, rfl⟩
    case round =>
      obtain ⟨i, hi, rfl, rfl, rfl⟩ := hrel
      have hsz : (digT l i).size = i := digT_size i
      have hsz2 : (digT l i).size ≤ 100 := by omega
      clear hsz
      by_cases hlt : i < n
      · have hlti : (i : Int) < (n : Int) := by omega
        obtain ⟨m, hm1⟩ : ∃ m, l[i]? = some m := ⟨l[i]'(by rw [← HN.out]; exact hlt), List.getElem?_eq_getElem _⟩
        have HM := Lib.hid hm1
        obtain ⟨b, off, hA1, _, hb, hc⟩ := HR.out.2 (by omega)
        subst hA1
        have x1 := hc i (.int .i64 m) (by simp [ic, hm1])
        clear hc hm1
        by_cases h0 : m < 0
        · have d1 : decide (m < 9) = true := decide_eq_true (by omega)
          have d2 : decide (9 < m) = false := decide_eq_false (by omega)
          have d3 : ¬ 9 < m := by omega
          have d4 : m < 9 := by omega
          have d5 : ¬ 0 < m := by omega
          · have HS : Hid (digT l i ++ dgt 0 = digT l (i + 1)) := Lib.hid (by
              rw [digT, List.getD_eq_getElem?_getD, HM.out, Option.getD_some]
              show _ = digT l i ++ dgt (clp _)
              unfold clp
              rw [if_pos h0])
            have HC := Lib.hid (impl_dig_c 0 w (by omega) (by omega))
            have hs1 : ¬ 9223372036854775807 < (digT l i).size + (dgt 0).size := by rw [dgt_size]; omega
            generalize digT l i = T at *
            generalize dgt 0 = U at *
            go_wp2_with fail
            refine (HC.out).mono ?_
            (rintro e w3 ⟨rfl, rfl⟩; have H2 := True.intro)
            go_wp2
            go_roundw
            case rel => exact ⟨i + 1, by omega, by go_num, by rw [HS.out], H2⟩
            case measure => simp [intOf]; omega
        · by_cases h9 : 9 < m
          · have d3 : ¬ m < 9 := by omega
            · have HS : Hid (digT l i ++ dgt 9 = digT l (i + 1)) := Lib.hid (by
                rw [digT, List.getD_eq_getElem?_getD, HM.out, Option.getD_some]
                show _ = digT l i ++ dgt (clp _)
                unfold clp
                rw [if_neg h0, if_pos h9])
              have HC := Lib.hid (impl_dig_c 9 w (by omega) (by omega))
              have hs1 : ¬ 9223372036854775807 < (digT l i).size + (dgt 9).size := by rw [dgt_size]; omega
              generalize digT l i = T at *
              generalize dgt 9 = U at *
              go_wp2_with fail
              refine (HC.out).mono ?_
              (rintro e w3 ⟨rfl, rfl⟩; have H2 := True.intro)
              go_wp2
              go_roundw
              case rel => exact ⟨i + 1, by omega, by go_num, by rw [HS.out], H2⟩
              case measure => simp [intOf]; omega
          · by_cases h90 : m = 9
            · subst h90
              · have HS : Hid (digT l i ++ dgt 9 = digT l (i + 1)) := Lib.hid (by
                  rw [digT, List.getD_eq_getElem?_getD, HM.out, Option.getD_some]
                  show _ = digT l i ++ dgt (clp _)
                  unfold clp
                  rfl)
                have HC := Lib.hid (impl_dig_c 9 w (by omega) (by omega))
                have hs1 : ¬ 9223372036854775807 < (digT l i).size + (dgt 9).size := by rw [dgt_size]; omega
                generalize digT l i = T at *
                generalize dgt 9 = U at *
                go_wp2_with fail
                refine (HC.out).mono ?_
                (rintro e w3 ⟨rfl, rfl⟩; have H2 := True.intro)
                go_wp2
                go_roundw
                case rel => exact ⟨i + 1, by omega, by go_num, by rw [HS.out], H2⟩
                case measure => simp [intOf]; omega
            · by_cases h00 : m = 0
              · subst h00
                · have HS : Hid (digT l i ++ dgt 0 = digT l (i + 1)) := Lib.hid (by
                    rw [digT, List.getD_eq_getElem?_getD, HM.out, Option.getD_some]
                    show _ = digT l i ++ dgt (clp _)
                    unfold clp
                    rfl)
                  have HC := Lib.hid (impl_dig_c 0 w (by omega) (by omega))
                  have hs1 : ¬ 9223372036854775807 < (digT l i).size + (dgt 0).size := by rw [dgt_size]; omega
                  generalize digT l i = T at *
                  generalize dgt 0 = U at *
                  go_wp2_with fail
                  refine (HC.out).mono ?_
                  (rintro e w3 ⟨rfl, rfl⟩; have H2 := True.intro)
                  go_wp2
                  go_roundw
                  case rel => exact ⟨i + 1, by omega, by go_num, by rw [HS.out], H2⟩
                  case measure => simp [intOf]; omega
              · have d4 : m < 9 := by omega
                have d5 : 0 < m := by omega
                · have HS : Hid (digT l i ++ dgt m = digT l (i + 1)) := Lib.hid (by
                    rw [digT, List.getD_eq_getElem?_getD, HM.out, Option.getD_some]
                    show _ = digT l i ++ dgt (clp _)
                    unfold clp
                    rw [if_neg h0, if_neg h9])
                  have HC := Lib.hid (impl_dig_c m w (by omega) (by omega))
                  have hs1 : ¬ 9223372036854775807 < (digT l i).size + (dgt m).size := by rw [dgt_size]; omega
                  generalize digT l i = T at *
                  generalize dgt m = U at *
                  go_wp2_with fail
                  refine (HC.out).mono ?_
                  (rintro e w3 ⟨rfl, rfl⟩; have H2 := True.intro)
                  go_wp2
                  go_roundw
                  case rel => exact ⟨i + 1, by omega, by go_num, by rw [HS.out], H2⟩
                  case measure => simp [intOf]; omega
      · obtain rfl : i = n := by omega
        go_wp2
        go_ret
        exact ⟨by rw [HD.out]; rfl, rfl⟩
  · have h40i : ¬ (n : Int) ≤ 40 := by omega
    have h40j : (40 : Int) < (n : Int) := by omega
    have HD : Hid (digS l = ⟨#[]⟩) := Lib.hid (by unfold digS; rw [← HN.out, if_neg h40])
    obtain ⟨R, hR⟩ : ∃ R, R = digS l := ⟨_, rfl⟩
    rw [← hR] at HD ⊢
    clear hR
    go_enter Tryz.func60, Tryz.ntmps60
    go_wp2
    go_ret
    exact ⟨by rw [HD.out]; rfl, rfl⟩
end Go.Proofs.YtjoglffhdoneoaaGreatDoor
