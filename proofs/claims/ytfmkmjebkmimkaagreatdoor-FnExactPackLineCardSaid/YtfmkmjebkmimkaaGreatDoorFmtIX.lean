
/-
  The reference's FormatInt at every int. The program's FormatInt at every int, under the library's table.
-/
import Derived.Test.YtfmkmjebkmimkaaGreatDoorFmtDig
import Derived.Test.YtfmkmjebkmimkaaGreatDoorSepX
import Derived.Lib.ItoaMem
import Derived.Deep.DeepCutAuto
import Derived.Test.YtfmkmjebkmimkaaGreatDoorShelf
import Derived.Test.YtfmkmjebkmimkaaGreatDoorStrX
import Derived.Lib.SmallJoins
import Derived.Lib.AppendIntMem
namespace Go.Proofs.YtfmkmjebkmimkaaGreatDoor
open Go.RowKit

/-- the digits that are still to be written -/
def dd (m : Nat) : List UInt8 := if m = 0 then [] else Lib.decDigits m
theorem dd_step {m : Nat} (h : m ≠ 0) : dd m = dd (m / 10) ++ [UInt8.ofNat (48 + m % 10)] := by
  unfold dd
  rw [if_neg h]
  by_cases hs : m < 10
  · rw [Lib.decDigits, dif_pos hs, if_pos (by omega), Nat.mod_eq_of_lt hs]
    rfl
  · rw [Lib.decDigits, dif_neg hs, if_neg (by omega)]
theorem dd_len (m : Nat) : (dd m).length ≤ m := by
  induction m using Nat.strongRecOn with
  | _ m ih =>
    by_cases h : m = 0
    · subst h; simp [dd]
    · rw [dd_step h, List.length_append, List.length_singleton]
      have := ih (m / 10) (by omega)
      omega
abbrev ustr (l : List UInt8) : ByteArray := ⟨l.toArray⟩
theorem ustr_size {l : List UInt8} : (ustr l).size = l.length := List.size_toArray
theorem ustr_app {l m : List UInt8} : ustr l ++ ustr m = ustr (l ++ m) := by
  unfold ustr
  apply ByteArray.ext
  simp
set_option maxRecDepth 100000 in
set_option maxHeartbeats 3200000 in
theorem spec_fmtInt_c (n : Int) (w : World) (h0 : -4611686018427387904 ≤ n) (h1 : n ≤ 4611686018427387904) :
    Calls Tryz.prog 54 #[.int .i64 n] w fun e w' => e = .returned (.string (ustr (Lib.itoa n))) ∧ Below w.heap.size w w' := by
  by_cases hz : n = 0
  · subst hz
    go_enter Tryz.func54, Tryz.ntmps54
    go_wp2
    go_ret
    refine ⟨?_, Below.refl _ _⟩
    rw [show Lib.itoa 0 = [48] from by
      rw [show (0 : Int) = ((0 : Nat) : Int) from rfl, Lib.itoa_nonneg, Lib.decDigits_one (by decide)]
      rfl]
    rfl
  have hne : (n == 0) = false := by simp; omega
  by_cases hs : 0 < n
  · obtain ⟨N, rfl⟩ : ∃ N : Nat, n = (N : Int) := ⟨n.toNat, by omega⟩
    have hneg : decide ((N : Int) < 0) = false := by simp
    obtain ⟨R, hR⟩ : ∃ R, R = Lib.itoa (N : Int) := ⟨_, rfl⟩
    rw [← hR]
    have HR : Hid (R = dd N) := Lib.hid (by rw [hR, Lib.itoa_nonneg]; unfold dd; rw [if_neg (by omega)])
    clear hR
    go_enter Tryz.func54, Tryz.ntmps54
    go_wp2
    go_loopw [0, 3, 5] (fun nv ov _ wr => ∃ (m : Nat) (T : List UInt8), nv = .int .i64 (m : Int) ∧ ov = .string (ustr T) ∧ m ≤ N ∧ T.length ≤ N ∧ Hid (R = dd m ++ T) ∧ Below w.heap.size w wr) (fun nv _ _ _ => (intOf nv).toNat)
    case atStart => exact ⟨N, [], rfl, rfl, Nat.le_refl _, Nat.zero_le _, Lib.hid (by rw [HR.out, List.append_nil]), Below.refl _ _⟩
    case round =>
      clear hneg hne hs hz
      obtain ⟨m, T, rfl, rfl, hm, hT, HT, hb⟩ := hrel
      by_cases hm0 : m = 0
      · subst hm0
        have HT2 : Hid (R = T) := Lib.hid (by rw [HT.out]; rfl)
        go_wp2
        go_ret
        exact ⟨by rw [HT2.out]; rfl, hb⟩
      · obtain ⟨e, he⟩ : ∃ e, e = m % 10 := ⟨_, rfl⟩
        obtain ⟨q, hq⟩ : ∃ q, q = m / 10 := ⟨_, rfl⟩
        have he10 : e < 10 := by omega
        have hqm : q < m := by omega
        have m1 : (m : Int) % 10 = (e : Int) := by omega
        have m2 : (m : Int) / 10 = (q : Int) := by omega
        have m3 : ((m : Int) == 0) = false := by simp; omega
        obtain ⟨B, hB⟩ : ∃ B, B = UInt8.ofNat (48 + e) := ⟨_, rfl⟩
        have HT2 : Hid (R = dd q ++ (B :: T)) := Lib.hid (by rw [HT.out, dd_step hm0, ← he, ← hq, ← hB, List.append_assoc]; rfl)
        have hT2 : (B :: T).length ≤ N := by
          have h1 : (dd q ++ (B :: T)).length ≤ N := by rw [← HT2.out, HR.out]; exact dd_len N
          rw [List.length_append] at h1
          omega
        have hcv : (convert 47 9 (.slice (some ⟨wr.heap.size, 0, none⟩) 1 1)).run Tryz.prog (wr.alloc (.cells #[.int .u8 (48 + (e : Int))] 5)) = .ok (.string (ustr [B])) (wr.alloc (.cells #[.int .u8 (48 + (e : Int))] 5)) := by
          refine run_byte_string _ _ _ (48 + (e : Int)) ?_ (by rw [(Blk.new wr _ _).cell]; rfl)
          rw [hB, UInt8.toNat_ofNat']
          omega
        have y1 : ¬ 9223372036854775807 < (ustr [B]).size + (ustr T).size := by
          rw [ustr_size, ustr_size]
          simp only [List.length_cons, List.length_nil]
          omega
        have hm0' : 1 ≤ m := by omega
        have hb2 := hb.alloc (by exact hb.size) (.cells #[.int .u8 (48 + (e : Int))] 5)
        clear he hq hm0 hB
        go_wp2
        go_roundw
        case rel => exact ⟨q, B :: T, by go_num, by rw [ustr_app]; rfl, by omega, hT2, HT2, hb2⟩
        case measure => simp [intOf]; omega
  · obtain ⟨N, rfl⟩ : ∃ N : Nat, n = -(N : Int) := ⟨(-n).toNat, by omega⟩
    have hN : 1 ≤ N := by omega
    have hneg : decide (-(N : Int) < 0) = true := decide_eq_true (by omega)
    obtain ⟨R, hR⟩ : ∃ R, R = Lib.itoa (-(N : Int)) := ⟨_, rfl⟩
    rw [← hR]
    have HR : Hid (R = 45 :: dd N) := Lib.hid (by rw [hR, Lib.itoa_neg N hN]; unfold dd; rw [if_neg (by omega)])
    clear hR
    go_enter Tryz.func54, Tryz.ntmps54
    go_wp2
    go_loopw [0, 3, 5] (fun nv ov _ wr => ∃ (m : Nat) (T : List UInt8), nv = .int .i64 (-(m : Int)) ∧ ov = .string (ustr T) ∧ m ≤ N ∧ T.length ≤ N ∧ Hid (R = 45 :: (dd m ++ T)) ∧ Below w.heap.size w wr) (fun nv _ _ _ => (-(intOf nv)).toNat)
    case atStart => exact ⟨N, [], rfl, rfl, Nat.le_refl _, Nat.zero_le _, Lib.hid (by rw [HR.out, List.append_nil]), Below.refl _ _⟩
    case round =>
      clear hneg hne hs hz
      obtain ⟨m, T, rfl, rfl, hm, hT, HT, hb⟩ := hrel
      by_cases hm0 : m = 0
      · subst hm0
        have HT2 : Hid (R = 45 :: T) := Lib.hid (by rw [HT.out]; rfl)
        have y1 : ¬ 9223372036854775807 < 1 + (ustr T).size := by
          rw [ustr_size]
          omega
        go_wp2
        go_ret
        refine ⟨?_, hb⟩
        show Ending.returned (.string (ustr [45] ++ ustr T)) = _
        rw [ustr_app, HT2.out]
        rfl
      · obtain ⟨e, he⟩ : ∃ e, e = m % 10 := ⟨_, rfl⟩
        obtain ⟨q, hq⟩ : ∃ q, q = m / 10 := ⟨_, rfl⟩
        have he10 : e < 10 := by omega
        have hqm : q < m := by omega
        have m1 : (m : Int) % 10 = (e : Int) := by omega
        have m2 : (m : Int) / 10 = (q : Int) := by omega
        have m3 : (-(m : Int) == 0) = false := by simp; omega
        obtain ⟨B, hB⟩ : ∃ B, B = UInt8.ofNat (48 + e) := ⟨_, rfl⟩
        have HT2 : Hid (R = 45 :: (dd q ++ (B :: T))) := Lib.hid (by rw [HT.out, dd_step hm0, ← he, ← hq, ← hB, List.append_assoc]; rfl)
        have hT2 : (B :: T).length ≤ N := by
          have h1 : (45 :: (dd q ++ (B :: T))).length ≤ N + 1 := by rw [← HT2.out, HR.out]; simp [dd_len N]
          rw [List.length_cons, List.length_append] at h1
          omega
        have hcv : (convert 47 9 (.slice (some ⟨wr.heap.size, 0, none⟩) 1 1)).run Tryz.prog (wr.alloc (.cells #[.int .u8 (48 + (e : Int))] 5)) = .ok (.string (ustr [B])) (wr.alloc (.cells #[.int .u8 (48 + (e : Int))] 5)) := by
          refine run_byte_string _ _ _ (48 + (e : Int)) ?_ (by rw [(Blk.new wr _ _).cell]; rfl)
          rw [hB, UInt8.toNat_ofNat']
          omega
        have y1 : ¬ 9223372036854775807 < (ustr [B]).size + (ustr T).size := by
          rw [ustr_size, ustr_size]
          simp only [List.length_cons, List.length_nil]
          omega
        have hm0' : 1 ≤ m := by omega
        have hb2 := hb.alloc (by exact hb.size) (.cells #[.int .u8 (48 + (e : Int))] 5)
        clear he hq hm0 hB
        by_cases e0 : e = 0
        · subst e0
          have hcv0 : (convert 47 9 (.slice (some ⟨wr.heap.size, 0, none⟩) 1 1)).run Tryz.prog (wr.alloc (.cells #[.int .u8 48] 5)) = .ok (.string (ustr [B])) (wr.alloc (.cells #[.int .u8 48] 5)) := hcv
          have hb3 : Below w.heap.size w (wr.alloc (.cells #[.int .u8 48] 5)) := hb2
          have m1' : (m : Int) % 10 = 0 := m1
          clear hcv hb2 m1
          go_wp2
          go_roundw
          case rel => exact ⟨q, B :: T, by go_num, by rw [ustr_app]; rfl, by omega, hT2, HT2, hb3⟩
          case measure => simp [intOf]; omega
        · have e1 : decide (-(e : Int) < 0) = true := decide_eq_true (by omega)
          go_wp2
          go_roundw
          case rel => exact ⟨q, B :: T, by go_num, by rw [ustr_app]; rfl, by omega, hT2, HT2, hb2⟩
          case measure => simp [intOf]; omega
end Go.Proofs.YtfmkmjebkmimkaaGreatDoor

namespace Go.Proofs.YtfmkmjebkmimkaaGreatDoor
open Go.RowKit

abbrev Tab10 (w : World) : Prop := Lib.TabIs Tryz.prog w "internal/strconv.uint64pow10" .u64 Lib.pow10Tab
set_option maxRecDepth 100000 in
theorem impl_fmtInt_c (n : Int) (w : World) (h0 : -4611686018427387904 ≤ n) (h1 : n ≤ 4611686018427387904) (ht : Tab10 w) :
    Calls Tryz.prog 63 #[.int .i64 n] w fun e w' => e = .returned (.string (ustr (Lib.itoa n))) ∧ Below w.heap.size w w' := by
  have HI := Lib.hid (Tryz.strconv_Itoa n (by omega) (by omega) w ht)
  clear ht
  go_enter Tryz.func63, Tryz.ntmps63
  go_wp2_with fail
  refine (HI.out).mono ?_
  rintro e w' ⟨rfl, k, os, rfl⟩
  have hb := Go.Lib.below_grow w.heap.size w (Nat.le_refl _) k os
  go_wp2
  go_ret
  exact ⟨rfl, hb⟩
/-- the text of an int -/
abbrev itoaB (n : Int) : ByteArray := ustr (Lib.itoa n)
theorem itoa_S (w : World) (n : Int) (h0 : -4611686018427387904 ≤ n) (h1 : n ≤ 4611686018427387904) : SNumAt w n (itoaB n) := fun w' _ => spec_fmtInt_c n w' h0 h1
set_option maxRecDepth 100000 in
theorem itoa_I (w : World) (ht : Tab10 w) (n : Int) (h0 : -4611686018427387904 ≤ n) (h1 : n ≤ 4611686018427387904) : INumAt w n (itoaB n) := fun w' hb => impl_fmtInt_c n w' h0 h1 (by
  have hs : (Tryz.prog.globalNamed "internal/strconv.uint64pow10").isSome = true := by kernel_rfl
  obtain ⟨g, hg⟩ := Option.isSome_iff_exists.1 hs
  exact Go.Joins.tab_stays hg ht hb (Nat.le_refl _))
end Go.Proofs.YtfmkmjebkmimkaaGreatDoor
