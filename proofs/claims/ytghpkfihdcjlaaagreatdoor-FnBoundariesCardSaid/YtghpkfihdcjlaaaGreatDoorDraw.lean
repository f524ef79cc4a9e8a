
/-
  The law's drawing of values from bytes: its cursor.
-/
import Derived.Test.YtghpkfihdcjlaaaGreatDoorProg
import Derived.Test.YtghpkfihdcjlaaaGreatDoorSepX
import Derived.Test.YtghpkfihdcjlaaaGreatDoorRegData
import Derived.IntWalk
namespace Go.Proofs.YtghpkfihdcjlaaaGreatDoor
open Go.RowKit

/-- cells of bytes -/
def bcU (l : List UInt8) : List Value := l.map fun b => .int .u8 (b.toNat : Int)
theorem bcU_at {l : List UInt8} {k : Nat} {a : UInt8} (h : l[k]? = some a) : (bcU l)[k]? = some (.int .u8 (a.toNat : Int)) := by simp [bcU, h]
def BytesRd (w : World) (lo hi : Nat) (v : Value) (l : List UInt8) : Prop := SR w lo hi 1 v l.length (bcU l)
theorem BytesRd.keep {w w' : World} {lo hi : Nat} {v : Value} {l : List UInt8} (h : BytesRd w lo hi v l) (hs : SameIn lo hi w w') : BytesRd w' lo hi v l := SR.keep h hs

/-- the cursor: it reads the bytes l (which lay in memory ahead of w0), and lies in block g, apart from the things of L -/
def Cur (w0 w : World) (g : Nat) (l : List UInt8) (L : List Res) : Prop := ∃ (A : Option Addr) (c : Nat) (i h : Int), 0 ≤ i ∧ i ≤ l.length ∧ I64 h ∧ Rd w0 0 w0.heap.size 1 A l.length (bcU l) ∧ l.length ≤ 1048576 ∧ Sep w0 w (Res.box g 57 #[.slice A l.length c, .int .i64 i, .int .i64 h] :: L)
theorem Cur.sep {w0 w : World} {g : Nat} {l : List UInt8} {L : List Res} (h : Cur w0 w g l L) : Sep w0 w L := by
  obtain ⟨A, c, i, hh, _, _, _, _, _, H⟩ := h
  exact H.drop
theorem i64_wrap (n : Int) : I64 (wrap64 n) := by unfold wrap64 I64; omega
theorem i64_and (a b : Int) : I64 (bits .and .i64 a b) := by
  have e : bits .and .i64 a b = IntKind.i64.wrap ((BitVec.ofInt 64 a &&& BitVec.ofInt 64 b).toNat : Int) := rfl
  rw [e, IntKind.wrap_i64]
  unfold I64
  omega
theorem and255 (a : Int) : 0 ≤ bits .and .i64 a 255 ∧ bits .and .i64 a 255 ≤ 255 := by
  have h : (BitVec.ofInt 64 a &&& BitVec.ofInt 64 255).toNat ≤ 255 := by
    rw [BitVec.toNat_and]
    exact Nat.le_trans Nat.and_le_right (by decide)
  have e : bits .and .i64 a 255 = IntKind.i64.wrap ((BitVec.ofInt 64 a &&& BitVec.ofInt 64 255).toNat : Int) := rfl
  rw [e, IntKind.wrap_i64]
  omega

set_option maxRecDepth 100000 in
set_option maxHeartbeats 800000 in
theorem l1New_c {v : Value} {l : List UInt8} {w0 w : World} {L : List Res} (h : BytesRd w0 0 w0.heap.size v l) (hn : l.length ≤ 1048576) (H : Sep w0 w L) :
    Calls Tryz.prog 21 #[v] w fun e w' => ∃ g, e = .returned (.pointer (some ⟨g, 0, none⟩)) ∧ Cur w0 w' g l L := by
  obtain ⟨A, c, rfl, hm, hr⟩ := h
  go_enter Tryz.func21, Tryz.ntmps21
  go_wp2
  go_loopw [3, 4] (fun hv i wr => ∃ (k : Nat) (x : Int), k ≤ l.length ∧ k ≤ 4000 ∧ i = .int .i64 k ∧ hv = .int .i64 x ∧ I64 x ∧ Sep w0 wr L) (fun _ i _ => l.length - (intOf i).toNat)
  case atStart => exact ⟨0, _, Nat.zero_le _, Nat.zero_le _, rfl, rfl, by unfold I64; omega, H⟩
  case round =>
    clear H
    obtain ⟨k, x, hk, hk4, rfl, rfl, hx, H⟩ := hrel
    obtain ⟨hx1, hx2⟩ := hx
    by_cases hlt : k < l.length
    · by_cases h4 : k < 4000
      · have hrw := hr.keep (SameIn.of_below H.below (Nat.le_refl _))
        obtain ⟨b, off, a, rfl, _, hb, hla, q1⟩ := Rd.at1 (f := fun b : UInt8 => .int .u8 (b.toNat : Int)) hrw hlt
        have ha := a.toNat_lt
        clear hr hrw hla
        go_wp2
        go_roundw
        case rel => exact ⟨k + 1, _, by omega, by omega, by go_num, rfl, i64_and _ _, H⟩
        case measure => simp [intOf]; omega
      · skip
        obtain ⟨wf, hwf⟩ : ∃ wf : World, wf = wr := ⟨_, rfl⟩
        subst hwf
        have H1 := H.box 57 #[.slice A l.length c, .int .i64 0, .int .i64 x]
        go_wp2
        go_ret
        exact ⟨_, rfl, A, c, 0, x, by omega, by omega, ⟨hx1, hx2⟩, hr, hn, H1⟩
    · skip
      obtain ⟨wf, hwf⟩ : ∃ wf : World, wf = wr := ⟨_, rfl⟩
      subst hwf
      have H1 := H.box 57 #[.slice A l.length c, .int .i64 0, .int .i64 x]
      go_wp2
      go_ret
      exact ⟨_, rfl, A, c, 0, x, by omega, by omega, ⟨hx1, hx2⟩, hr, hn, H1⟩

set_option maxRecDepth 100000 in
set_option maxHeartbeats 1600000 in
theorem l1Byte_c {g : Nat} {l : List UInt8} {w0 w : World} {L : List Res} (H : Cur w0 w g l L) :
    Calls Tryz.prog 65 #[.pointer (some ⟨g, 0, none⟩)] w fun e w' => ∃ x : Int, e = .returned (.int .i64 x) ∧ 0 ≤ x ∧ x ≤ 255 ∧ Cur w0 w' g l L := by
  obtain ⟨A, c, i, h, hi0, hil, hh, hr, hn, H⟩ := H
  obtain ⟨hh1, hh2⟩ := hh
  have c0 := H.h0.cell 0
  have c1 := H.h0.cell 1
  have c2 := H.h0.cell 2
  have f2 := H.h0.frozen 2
  simp at c0 c1 c2
  go_enter Tryz.func65, Tryz.ntmps65
  go_wp2_with fail
  have H1 := H.set_ 2 (.int .i64 (wrap64 (wrap64 (h * 6364136223846793005) + 1442695040888963407)))
  have hq := i64_wrap (wrap64 (h * 6364136223846793005) + 1442695040888963407)
  clear H c0 c1 c2 f2 hh1 hh2
  generalize wrap64 (wrap64 (h * 6364136223846793005) + 1442695040888963407) = h' at *
  generalize w.setCell ⟨g, 2, none⟩ (.int .i64 h') = w1 at *
  have H2 : Sep w0 w1 (Res.box g 57 #[.slice A l.length c, .int .i64 i, .int .i64 h'] :: L) := H1
  clear H1
  obtain ⟨hh1, hh2⟩ := hq
  have c0 := H2.h0.cell 0
  have c1 := H2.h0.cell 1
  have c2 := H2.h0.cell 2
  simp at c0 c1 c2
  go_quiet (fail)
  go_wp2_with fail
  have hx := and255 (bits .xor .i64 (h' / 8589934592) (h' / 35184372088832))
  generalize bits .and .i64 (bits .xor .i64 (h' / 8589934592) (h' / 35184372088832)) 255 = x at *
  obtain ⟨hx1, hx2⟩ := hx
  have H3 := H2.drewN nq
  clear H2 c0 c1 c2
  generalize w1.drewN nq = w2 at *
  obtain ⟨k, rfl⟩ := Int.eq_ofNat_of_zero_le hi0
  have c0 := H3.h0.cell 0
  have c1 := H3.h0.cell 1
  simp at c0 c1
  by_cases hlt : k < l.length
  · have hd : decide ((k : Int) < (l.length : Int)) = true := by simp; omega
    go_quiet (fail)
    have H4 := H3.drewN nq
    clear H3 c0 c1
    generalize w2.drewN nq = w3 at *
    obtain ⟨b, off, a, rfl, _, hb, hla, q1⟩ := Rd.at1 (f := fun b : UInt8 => .int .u8 (b.toNat : Int)) (hr.keep (SameIn.of_below H4.below (Nat.le_refl _))) hlt
    have ha := a.toNat_lt
    have c0 := H4.h0.cell 0
    have c1 := H4.h0.cell 1
    have hk0 : (0 : Int) ≤ (k : Int) := Int.natCast_nonneg _
    have hk1 : (k : Int) < (l.length : Int) := by omega
    simp at c0 c1
    have HR := Lib.hid hr
    clear hla hr
    go_wp2_with fail
    go_quiet (fail)
    have hy := and255 (x + (a.toNat : Int))
    generalize bits .and .i64 (x + (a.toNat : Int)) 255 = y at *
    obtain ⟨hy1, hy2⟩ := hy
    have H5 := H4.drewN nq
    clear H4 c0 c1 q1
    generalize w3.drewN nq = w4 at *
    have c1 := H5.h0.cell 1
    have f1 := H5.h0.frozen 1
    simp at c1
    have H6 := H5.set_ 1 (.int .i64 ((k : Int) + 1))
    go_wp2
    go_ret
    exact ⟨y, rfl, hy1, hy2, _, c, (k : Int) + 1, h', by omega, by omega, ⟨hh1, hh2⟩, HR.out, hn, H6⟩
  · have hd : decide ((k : Int) < (l.length : Int)) = false := by simp; omega
    go_quiet (fail)
    have H4 := H3.drewN nq
    clear H3 c0 c1
    generalize w2.drewN nq = w3 at *
    go_wp2
    go_ret
    exact ⟨x, rfl, hx1, hx2, A, c, (k : Int), h', by omega, by omega, ⟨hh1, hh2⟩, hr, hn, H4⟩

set_option maxRecDepth 100000 in
set_option maxHeartbeats 800000 in
theorem l1Below_c {g : Nat} {l : List UInt8} {w0 w : World} {L : List Res} (n : Int) (H : Cur w0 w g l L) (hn : n ≤ 1073741824) :
    Calls Tryz.prog 45 #[.pointer (some ⟨g, 0, none⟩), .int .i64 n] w fun e w' => ∃ x : Int, e = .returned (.int .i64 x) ∧ 0 ≤ x ∧ (0 < n → x < n) ∧ (n ≤ 0 → x = 0) ∧ Cur w0 w' g l L := by
  by_cases h0 : n ≤ 0
  · go_enter Tryz.func45, Tryz.ntmps45
    go_wp2
    go_ret
    exact ⟨0, rfl, by omega, by omega, by omega, H⟩
  · by_cases h1 : n ≤ 256
    · have hn1 : 0 < n := by omega
      go_enter Tryz.func45, Tryz.ntmps45
      go_wp2_with fail
      refine (l1Byte_c H).mono ?_
      rintro e w1 ⟨x, rfl, hx1, hx2, H1⟩
      go_wp2
      go_ret
      exact ⟨x % n, rfl, Int.emod_nonneg _ (by omega), fun _ => Int.emod_lt_of_pos _ hn1, fun h => by omega, H1⟩
    · have hn1 : 0 < n := by omega
      go_enter Tryz.func45, Tryz.ntmps45
      go_wp2_with fail
      refine (l1Byte_c H).mono ?_
      rintro e w1 ⟨x, rfl, hx1, hx2, H1⟩
      go_wp2_with fail
      refine (l1Byte_c H1).mono ?_
      rintro e w2 ⟨y, rfl, hy1, hy2, H2⟩
      go_wp2_with fail
      refine (l1Byte_c H2).mono ?_
      rintro e w3 ⟨z, rfl, hz1, hz2, H3⟩
      go_wp2_with fail
      refine (l1Byte_c H3).mono ?_
      rintro e w4 ⟨v, rfl, hv1, hv2, H4⟩
      clear H H1 H2 H3
      go_wp2
      go_ret
      exact ⟨(x * 16777216 + y * 65536 + z * 256 + v) % n, rfl, Int.emod_nonneg _ (by omega), fun _ => Int.emod_lt_of_pos _ hn1, fun h => by omega, H4⟩

set_option maxRecDepth 100000 in
theorem l1Once_c {g : Nat} {l : List UInt8} {w0 w : World} {L : List Res} (n : Int) (H : Cur w0 w g l L) (hn : n ≤ 1073741824) :
    Calls Tryz.prog 22 #[.pointer (some ⟨g, 0, none⟩), .int .i64 n] w fun e w' => ∃ q : Bool, e = .returned (.bool q) ∧ Cur w0 w' g l L := by
  go_enter Tryz.func22, Tryz.ntmps22
  go_wp2_with fail
  refine (l1Below_c n H hn).mono ?_
  rintro e w1 ⟨x, rfl, hx1, hx2, hx3, H1⟩
  clear H hx2 hx3
  go_wp2
  go_ret
  exact ⟨x == 0, rfl, H1⟩
end Go.Proofs.YtghpkfihdcjlaaaGreatDoor
