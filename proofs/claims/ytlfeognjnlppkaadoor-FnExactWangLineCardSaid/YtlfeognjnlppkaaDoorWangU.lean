
/-
  Wang tiles: the largest square, the verdict: the walks of both sides.
-/
import Derived.Test.YtlfeognjnlppkaaDoorWangT
import Derived.Test.YtlfeognjnlppkaaDoorWangJ
import Derived.Test.YtlfeognjnlppkaaDoorFmtDig
namespace Go.Proofs.YtlfeognjnlppkaaDoor
open Go.RowKit

def okSq (l : List Wg) (n : Nat) : Bool := (fillW l n (n * n) []).isSome
def sqTo (l : List Wg) : Nat → Nat
  | 0 => 0
  | n + 1 => if okSq l (n + 1) then n + 1 else sqTo l n
theorem sqTo_le {l : List Wg} : ∀ n, sqTo l n ≤ n
  | 0 => Nat.le_refl _
  | n + 1 => by
    have := sqTo_le (l := l) n
    unfold sqTo
    split <;> omega
theorem sqTo_yes {l : List Wg} {n : Nat} (h : okSq l (n + 1) = true) : sqTo l (n + 1) = n + 1 := by rw [sqTo, if_pos h]
theorem sqTo_no {l : List Wg} {n : Nat} (h : okSq l (n + 1) = false) : sqTo l (n + 1) = sqTo l n := by rw [sqTo, if_neg (by rw [h]; exact Bool.false_ne_true)]

set_option maxRecDepth 100000 in
set_option maxHeartbeats 1600000 in
theorem spec_sq_c {v : Value} {l : List Wg} (w : World) (hl0 : WangsRd w 0 w.heap.size v l) (hA : areW l = true) :
    Calls Tryd.prog 25 #[v] w fun e w' => e = .returned (.int .i64 (sqTo l 4 : Nat)) ∧ Below w.heap.size w w' := by
  have HL0 := Lib.hid hl0
  have HA := Lib.hid hA
  obtain ⟨A, c, rfl, _, _⟩ := id hl0
  clear hl0 hA
  go_enter Tryd.func25, Tryd.ntmps25
  go_wp2
  go_loopw [3, 4] (fun s i wr => ∃ k k1 s0 : Nat, k ≤ 4 ∧ i = .int .i64 k1 ∧ k1 ≤ 5 ∧ s0 ≤ 4 ∧ Hid (k1 = k + 1) ∧ s = .int .i64 s0 ∧ Hid (s0 = sqTo l k) ∧ Below w.heap.size w wr) (fun _ i _ => 6 - (intOf i).toNat)
  case atStart => exact ⟨0, 1, 0, by omega, rfl, by omega, by omega, Lib.hid rfl, rfl, Lib.hid rfl, Below.refl _ _⟩
  case round =>
    obtain ⟨k, k1, s0, hk, rfl, hk5, hs4, HK1, rfl, HS0, hbel⟩ := hrel
    by_cases hlt : k < 4
    · have hd : decide ((k1 : Int) ≤ 4) = true := by have := HK1.out; simp; omega
      have h1 : 1 ≤ k1 := by have := HK1.out; omega
      have h4 : k1 ≤ 4 := by have := HK1.out; omega
      go_wp2_with fail
      refine (spec_areW_c (l := l) wr ((HL0.out.keep (SameIn.of_below hbel (Nat.le_refl _))).more (Nat.le_refl _) hbel.size)).mono ?_
      rintro e w1 ⟨rfl, b1⟩
      rw [HA.out]
      have hb1 := hbel.trans (b1.mono hbel.size)
      clear hbel b1
      go_wp2_with fail
      refine (spec_findFill_c k1 k1 w1 ((HL0.out.keep (SameIn.of_below hb1 (Nat.le_refl _))).more (Nat.le_refl _) hb1.size) HA.out h1 h4 h1 h4).mono ?_
      intro e w2 hp
      obtain ⟨v', rfl, _, b2⟩ := hp
      have hb2 := hb1.trans (b2.mono hb1.size)
      clear hb1 b2
      cases hq : okSq l k1
      · have hq' : (fillW l k1 (k1 * k1) []).isSome = false := hq
        rw [hq']
        have hs2 : s0 = sqTo l (k + 1) := by rw [HS0.out, sqTo_no (by rw [← HK1.out]; exact hq)]
        have HS2 := Lib.hid hs2
        have hk2 : k1 + 1 = k + 1 + 1 := by have := HK1.out; omega
        have HK2 := Lib.hid hk2
        clear hq hq' hs2 hk2 hd
        go_wp2
        go_roundw
        case rel => exact ⟨k + 1, k1 + 1, s0, by omega, by go_num, by omega, by omega, HK2, rfl, HS2, hb2⟩
        case measure => simp [intOf]; omega
      · have hq' : (fillW l k1 (k1 * k1) []).isSome = true := hq
        rw [hq']
        have hs2 : k1 = sqTo l (k + 1) := by rw [sqTo_yes (by rw [← HK1.out]; exact hq)]; exact HK1.out
        have HS2 := Lib.hid hs2
        have hk2 : k1 + 1 = k + 1 + 1 := by have := HK1.out; omega
        have HK2 := Lib.hid hk2
        clear hq hq' hs2 hk2 hd
        go_wp2
        go_roundw
        case rel => exact ⟨k + 1, k1 + 1, k1, by omega, by go_num, by omega, by omega, HK2, rfl, HS2, hb2⟩
        case measure => simp [intOf]; omega
    · obtain rfl : k = 4 := by omega
      have hd : decide ((k1 : Int) ≤ 4) = false := by have := HK1.out; simp; omega
      have h5 : ¬ k1 ≤ 4 := by have := HK1.out; omega
      go_wp2
      go_ret
      exact ⟨by rw [HS0.out]; rfl, hbel⟩

set_option maxRecDepth 100000 in
set_option maxHeartbeats 1600000 in
theorem impl_sq_c {v : Value} {l : List Wg} (w : World) (hl0 : WangsRd w 0 w.heap.size v l) (hA : areW l = true) :
    Calls Tryd.prog 32 #[v] w fun e w' => e = .returned (.int .i64 (sqTo l 4 : Nat)) ∧ Below w.heap.size w w' := by
  have HL0 := Lib.hid hl0
  have HA := Lib.hid hA
  obtain ⟨A, c, rfl, _, _⟩ := id hl0
  clear hl0 hA
  obtain ⟨R, hR⟩ : ∃ R, R = sqTo l 4 := ⟨_, rfl⟩
  rw [← hR]
  have HR := Lib.hid hR
  clear hR
  go_enter Tryd.func32, Tryd.ntmps32
  go_wp2
  go_loopw [3] (fun i wr => ∃ k : Nat, k ≤ 4 ∧ i = .int .i64 k ∧ Hid (R = sqTo l k) ∧ Below w.heap.size w wr) (fun i _ => (intOf i).toNat)
  case atStart => exact ⟨4, by omega, rfl, HR, Below.refl _ _⟩
  case round =>
    obtain ⟨k, hk, rfl, HK, hbel⟩ := hrel
    by_cases hlt : 1 ≤ k
    · have hd : decide ((1 : Int) ≤ (k : Int)) = true := by simp; omega
      go_wp2_with fail
      refine (impl_findFill_c k k wr ((HL0.out.keep (SameIn.of_below hbel (Nat.le_refl _))).more (Nat.le_refl _) hbel.size) HA.out hlt hk hlt hk).mono ?_
      intro e w2 hp
      obtain ⟨v', rfl, _, b2⟩ := hp
      have hb2 := hbel.trans (b2.mono hbel.size)
      clear hbel b2
      obtain ⟨j, hj⟩ : ∃ j, j = k - 1 := ⟨_, rfl⟩
      have HJ := Lib.hid hj
      clear hj
      cases hq : okSq l k
      · have hq' : (fillW l k (k * k) []).isSome = false := hq
        rw [hq']
        have hs2 : R = sqTo l j := by
          have e : k = j + 1 := by have := HJ.out; omega
          rw [HK.out, e, sqTo_no (by rw [← e]; exact hq)]
        have HS2 := Lib.hid hs2
        clear hq hq' hs2
        go_wp2
        go_roundw
        case rel => exact ⟨j, by have := HJ.out; omega, by have := HJ.out; go_num, HS2, hb2⟩
        case measure => simp [intOf]; omega
      · have hq' : (fillW l k (k * k) []).isSome = true := hq
        rw [hq']
        obtain rfl : R = k := by
          have e : k = j + 1 := by have := HJ.out; omega
          rw [HK.out, e, sqTo_yes (by rw [← e]; exact hq)]
        clear hq hq'
        go_wp2
        go_ret
        exact ⟨rfl, hb2⟩
    · obtain rfl : k = 0 := by omega
      obtain rfl : R = 0 := HK.out
      go_wp2
      go_ret
      exact ⟨rfl, hbel⟩

def verdict (l : List Wg) : ByteArray := match period l with
  | some (_, a, b) => (⟨#[112, 101, 114, 105, 111, 100, 105, 99, 32]⟩ : ByteArray) ++ dgt a ++ ⟨#[32, 98, 121, 32]⟩ ++ dgt b
  | none => if sqTo l 4 < 4 then (⟨#[110, 111, 116, 32, 98, 101, 121, 111, 110, 100, 32]⟩ : ByteArray) ++ dgt (sqTo l 4 : Nat) else ⟨#[111, 112, 101, 110]⟩
theorem period_le {l : List Wg} {f : List Nat} {a b : Nat} (h : period l = some (f, a, b)) : a ≤ 3 ∧ b ≤ 3 := by
  unfold period at h
  split at h
  · obtain ⟨i, hi, h⟩ := List.exists_of_findSome?_eq_some h
    obtain ⟨j, hj, h⟩ := List.exists_of_findSome?_eq_some h
    unfold tryAt at h
    split at h
    · obtain ⟨g, hg, h⟩ := Option.map_eq_some_iff.1 h
      injection h with h1 h2
      injection h2 with h2 h3
      have := List.mem_range.1 hj
      omega
    · cases h
  · cases h
theorem verdict_some {l : List Wg} {f : List Nat} {a b : Nat} (h : period l = some (f, a, b)) : verdict l = (⟨#[112, 101, 114, 105, 111, 100, 105, 99, 32]⟩ : ByteArray) ++ dgt a ++ ⟨#[32, 98, 121, 32]⟩ ++ dgt b := by unfold verdict; rw [h]
theorem verdict_none {l : List Wg} (h : period l = none) : verdict l = if sqTo l 4 < 4 then (⟨#[110, 111, 116, 32, 98, 101, 121, 111, 110, 100, 32]⟩ : ByteArray) ++ dgt (sqTo l 4 : Nat) else ⟨#[111, 112, 101, 110]⟩ := by unfold verdict; rw [h]
theorem Bsz {a : Array UInt8} : (⟨a⟩ : ByteArray).size = a.size := rfl

set_option maxRecDepth 100000 in
set_option maxHeartbeats 1600000 in
theorem spec_verdict_c {v : Value} {l : List Wg} (w : World) (hl0 : WangsRd w 0 w.heap.size v l) (hA : areW l = true) :
    Calls Tryd.prog 26 #[v] w fun e w' => e = .returned (.string (verdict l)) ∧ Below w.heap.size w w' := by
  have HL0 := Lib.hid hl0
  have HA := Lib.hid hA
  obtain ⟨A, c, rfl, _, _⟩ := id hl0
  clear hl0 hA
  obtain ⟨R, hR⟩ : ∃ R, R = verdict l := ⟨_, rfl⟩
  rw [← hR]
  have HR := Lib.hid hR
  clear hR
  go_enter Tryd.func26, Tryd.ntmps26
  go_wp2_with fail
  refine (spec_areW_c (l := l) w HL0.out).mono ?_
  rintro e w1 ⟨rfl, b1⟩
  rw [HA.out]
  have HP := Lib.hid (spec_period_c (l := l) w1 ((HL0.out.keep (SameIn.of_below b1 (Nat.le_refl _))).more (Nat.le_refl _) b1.size))
  obtain ⟨S, hS⟩ : ∃ S, S = period l := ⟨_, rfl⟩
  rw [← hS] at HP
  have HS := Lib.hid hS
  clear hS
  go_wp2_with fail
  refine (HP.out).mono ?_
  intro e w2 hp
  obtain ⟨v', x, y, rfl, hres, b2⟩ := hp
  have hb2 := b1.trans (b2.mono b1.size)
  clear b1 b2 HP
  cases S with
  | some p =>
    obtain ⟨f, a, b⟩ := p
    obtain ⟨rfl, rfl, _⟩ := hres f a b rfl
    obtain ⟨ha, hb⟩ := period_le HS.out.symm
    have hRe := HR.out.trans (verdict_some HS.out.symm)
    have HRE := Lib.hid hRe
    have za : (dgt (a : Int)).size ≤ 1 := Nat.le_refl _
    have zb : (dgt (b : Int)).size ≤ 1 := Nat.le_refl _
    clear hres hRe
    go_wp2_with fail
    refine (spec_dig_c (a : Int) w2 (by omega) (by omega)).mono ?_
    rintro e w3 ⟨rfl, b3⟩
    go_wp2_with fail
    refine (spec_dig_c (b : Int) w3 (by omega) (by omega)).mono ?_
    rintro e w4 ⟨rfl, b4⟩
    go_wp2
    go_ret
    exact ⟨by rw [HRE.out]; rfl, hb2.trans ((b3.trans (b4.mono b3.size)).mono hb2.size)⟩
  | none =>
    have hRe := HR.out.trans (verdict_none HS.out.symm)
    have HRE := Lib.hid hRe
    have hs4 := sqTo_le (l := l) 4
    clear hres hRe
    go_wp2_with fail
    refine (spec_sq_c (l := l) w2 ((HL0.out.keep (SameIn.of_below hb2 (Nat.le_refl _))).more (Nat.le_refl _) hb2.size) HA.out).mono ?_
    rintro e w3 ⟨rfl, b3⟩
    have hb3 := hb2.trans (b3.mono hb2.size)
    obtain ⟨s, hs⟩ : ∃ s, s = sqTo l 4 := ⟨_, rfl⟩
    rw [← hs] at HRE hs4 ⊢
    clear hs b3 hb2
    by_cases h4 : s < 4
    · have hd : decide ((s : Int) < 4) = true := by simp; omega
      have hRe := HRE.out
      rw [if_pos h4] at hRe
      have HRE2 := Lib.hid hRe
      have za : (dgt (s : Int)).size ≤ 1 := Nat.le_refl _
      clear hRe HRE
      go_wp2_with fail
      refine (spec_dig_c (s : Int) w3 (by omega) (by omega)).mono ?_
      rintro e w4 ⟨rfl, b4⟩
      go_wp2
      go_ret
      exact ⟨by rw [HRE2.out]; rfl, hb3.trans (b4.mono hb3.size)⟩
    · have hd : decide ((s : Int) < 4) = false := by simp; omega
      have hRe := HRE.out
      rw [if_neg h4] at hRe
      have HRE2 := Lib.hid hRe
      clear hRe HRE
      go_wp2
      go_ret
      exact ⟨by rw [HRE2.out]; rfl, hb3⟩
set_option maxRecDepth 100000 in
set_option maxHeartbeats 1600000 in
theorem impl_verdict_c {v : Value} {l : List Wg} (w : World) (hl0 : WangsRd w 0 w.heap.size v l) (hA : areW l = true) :
    Calls Tryd.prog 33 #[v] w fun e w' => e = .returned (.string (verdict l)) ∧ Below w.heap.size w w' := by
  have HL0 := Lib.hid hl0
  have HA := Lib.hid hA
  obtain ⟨A, c, rfl, _, _⟩ := id hl0
  clear hl0 hA
  obtain ⟨R, hR⟩ : ∃ R, R = verdict l := ⟨_, rfl⟩
  rw [← hR]
  have HR := Lib.hid hR
  clear hR
  go_enter Tryd.func33, Tryd.ntmps33
  go_wp2_with fail
  refine (impl_areW_c (l := l) w HL0.out).mono ?_
  rintro e w1 ⟨rfl, b1⟩
  rw [HA.out]
  have HP := Lib.hid (impl_period_c (l := l) w1 ((HL0.out.keep (SameIn.of_below b1 (Nat.le_refl _))).more (Nat.le_refl _) b1.size))
  obtain ⟨S, hS⟩ : ∃ S, S = period l := ⟨_, rfl⟩
  rw [← hS] at HP
  have HS := Lib.hid hS
  clear hS
  go_wp2_with fail
  refine (HP.out).mono ?_
  intro e w2 hp
  obtain ⟨v', x, y, rfl, hres, b2⟩ := hp
  have hb2 := b1.trans (b2.mono b1.size)
  clear b1 b2 HP
  cases S with
  | some p =>
    obtain ⟨f, a, b⟩ := p
    obtain ⟨rfl, rfl, _⟩ := hres f a b rfl
    obtain ⟨ha, hb⟩ := period_le HS.out.symm
    have hRe := HR.out.trans (verdict_some HS.out.symm)
    have HRE := Lib.hid hRe
    have za : (dgt (a : Int)).size ≤ 1 := Nat.le_refl _
    have zb : (dgt (b : Int)).size ≤ 1 := Nat.le_refl _
    clear hres hRe
    go_wp2_with fail
    refine (impl_dig_c (a : Int) w2 (by omega) (by omega)).mono ?_
    rintro e w3 ⟨rfl, rfl⟩
    go_wp2_with fail
    refine (impl_dig_c (b : Int) w2 (by omega) (by omega)).mono ?_
    rintro e w4 ⟨rfl, rfl⟩
    go_wp2
    go_ret
    exact ⟨by rw [HRE.out]; rfl, hb2⟩
  | none =>
    have hRe := HR.out.trans (verdict_none HS.out.symm)
    have HRE := Lib.hid hRe
    have hs4 := sqTo_le (l := l) 4
    clear hres hRe
    go_wp2_with fail
    refine (impl_sq_c (l := l) w2 ((HL0.out.keep (SameIn.of_below hb2 (Nat.le_refl _))).more (Nat.le_refl _) hb2.size) HA.out).mono ?_
    rintro e w3 ⟨rfl, b3⟩
    have hb3 := hb2.trans (b3.mono hb2.size)
    obtain ⟨s, hs⟩ : ∃ s, s = sqTo l 4 := ⟨_, rfl⟩
    rw [← hs] at HRE hs4 ⊢
    clear hs b3 hb2
    by_cases h4 : s < 4
    · have hd : decide ((s : Int) < 4) = true := by simp; omega
      have hRe := HRE.out
      rw [if_pos h4] at hRe
      have HRE2 := Lib.hid hRe
      have za : (dgt (s : Int)).size ≤ 1 := Nat.le_refl _
      clear hRe HRE
      go_wp2_with fail
      refine (impl_dig_c (s : Int) w3 (by omega) (by omega)).mono ?_
      rintro e w4 ⟨rfl, rfl⟩
      go_wp2
      go_ret
      exact ⟨by rw [HRE2.out]; rfl, hb3⟩
    · have hd : decide ((s : Int) < 4) = false := by simp; omega
      have hRe := HRE.out
      rw [if_neg h4] at hRe
      have HRE2 := Lib.hid hRe
      clear hRe HRE
      go_wp2
      go_ret
      exact ⟨by rw [HRE2.out]; rfl, hb3⟩
end Go.Proofs.YtlfeognjnlppkaaDoor
