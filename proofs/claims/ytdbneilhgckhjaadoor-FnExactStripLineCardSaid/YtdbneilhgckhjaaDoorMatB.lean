
/-
  Strips: the matrices that lead from row to row, on both sides.
-/
import Derived.Test.YtdbneilhgckhjaaDoorMatC
import Derived.Test.YtdbneilhgckhjaaDoorWangA
import Derived.Test.YtdbneilhgckhjaaDoorDomX
namespace Go.Proofs.YtdbneilhgckhjaaDoor
open Go.RowKit

theorem pow_small {wd : Nat} (h : wd ≤ 4) : 2 ^ wd ≤ 16 := Nat.pow_le_pow_right (by decide) h
theorem shl_small {wd : Nat} (h : wd ≤ 4) : IntKind.i64.wrap (2 ^ wd) = ((2 ^ wd : Nat) : Int) := by
  have : wd = 0 ∨ wd = 1 ∨ wd = 2 ∨ wd = 3 ∨ wd = 4 := by omega
  rcases this with rfl | rfl | rfl | rfl | rfl <;> rfl
theorem domMat_at {wd a : Nat} (h : a < 2 ^ wd) : (domMat wd)[a]? = some (domRow wd a) := by simp [domMat, h]
theorem domMat_len {wd : Nat} : (domMat wd).length = 2 ^ wd := by simp [domMat]
theorem domMat_take {wd a : Nat} (h : a < 2 ^ wd) : (domMat wd).take a ++ [domRow wd a] = (domMat wd).take (a + 1) := by
  rw [List.take_add_one, domMat_at h]; rfl
theorem domRow_at {wd a b : Nat} (h : b < 2 ^ wd) : (domRow wd a)[b]? = some ((fillR a.testBit b.testBit wd 0 : Nat) : Int) := by simp [domRow, h]
theorem domRow_take {wd a b : Nat} (h : b < 2 ^ wd) : ic ((domRow wd a).take b) ++ [Value.int .i64 ((fillR a.testBit b.testBit wd 0 : Nat) : Int)] = ic ((domRow wd a).take (b + 1)) := by
  rw [List.take_add_one, domRow_at h, ic_append]; rfl

set_option maxRecDepth 100000 in
set_option maxHeartbeats 1600000 in
theorem spec_trans_c (wd : Nat) (w : World) (h1 : 1 ≤ wd) (hw : wd ≤ 4) :
    Calls Tryd.prog 58 #[.int .i64 wd] w fun e w' => ∃ v vs, e = .returned (.tuple #[v, .bool true]) ∧ Sep w w' [Res.row v 24 1 (2 ^ wd) vs, Res.rows vs (domMat wd)] := by
  obtain ⟨i0, hi, hz0, hz1, hz2⟩ := info_parts infoIntX
  obtain ⟨j0, hj, y0, y1, y2⟩ := info_parts infoIntsM
  have hs1 := shl_small hw
  have hN16 := pow_small hw
  obtain ⟨N, hN⟩ : ∃ N, N = 2 ^ wd := ⟨_, rfl⟩
  rw [← hN] at hs1 hN16 ⊢
  have HN := Lib.hid hN
  have H0 := ((Sep.start w).rowBox 24 #[] 1 0 rfl (by decide)).rowsNil.p1
  have hin : inW (wd : Int) 1 4 = true := inW_iff.2 ⟨by omega, by omega⟩
  clear hN
  go_enter Tryd.func58, Tryd.ntmps58
  go_wp2_with (go_at_call 59; refine (l1In_w _ _ _ _).mono ?_; rintro e w' ⟨rfl, rfl⟩)
  clear hin
  go_loopw [4, 5] (fun mv av wx => ∃ (a : Nat) (vs : List Value), a ≤ N ∧ av = .int .i64 a ∧ Sep w wx [Res.row mv 24 1 a vs, Res.rows vs ((domMat wd).take a)]) (fun _ av _ => N - (intOf av).toNat)
  case atStart => exact ⟨0, [], Nat.zero_le _, rfl, H0⟩
  case round =>
    clear H0
    obtain ⟨a, vs, haN, rfl, H⟩ := hrel
    by_cases hlt : a < N
    · have HF : Hid (∀ (b : Nat), b < N → ∀ w : World, Calls Tryd.prog 95 #[.int .i64 wd, .int .i64 0, .int .i64 a, .int .i64 b] w fun e w' => e = .returned (.int .i64 (fillR a.testBit b.testBit wd 0 : Nat)) ∧ w = w') := Lib.hid fun b hb w => spec_fill_c a b wd (by omega) (by omega) hw wd wd 0 (Nat.le_refl _) (by omega) w
      have H1 := H.rowBox 3 #[] 1 0 rfl (by decide)
      clear H
      go_wp2
      go_loopw [6, 7] (fun rv bv wx => ∃ b : Nat, b ≤ N ∧ bv = .int .i64 b ∧ Sep w wx [Res.row rv 3 1 b (ic ((domRow wd a).take b)), Res.row u4 24 1 a vs, Res.rows vs ((domMat wd).take a)]) (fun _ bv _ => N - (intOf bv).toNat)
      case atStart => exact ⟨0, Nat.zero_le _, rfl, H1⟩
      case round =>
        clear H1
        obtain ⟨b, hbN, rfl, H⟩ := hrel
        by_cases hlb : b < N
        · have HX := Lib.hid (domRow_take (wd := wd) (a := a) (by rw [← HN.out]; exact hlb))
          obtain ⟨f, hf⟩ : ∃ f : Nat, f = fillR a.testBit b.testBit wd 0 := ⟨_, rfl⟩
          have HFF := HF.out b hlb
          rw [← hf] at HX HFF
          have HFF := Lib.hid HFF
          clear hf
          go_wp2_with fail
          refine (HFF.out wr).mono ?_
          rintro e w' ⟨rfl, rfl⟩
          go_wp2_with (at_builtin; refine wpList_app rfl _ _ 24 rfl 3 i0 _ 1 8 Tryd.underlying24 hi hz0 hz1 hz2 rfl (by decide) _ _ _ rfl (H.alloc _) _ _ _ [.int .i64 (f : Int)] rfl (Rd.fresh wr _ #[.int .i64 (f : Int)] 1 1 rfl) oc1 (by unfold maxLen; omega) (by omega) ?_; intro v2 w2 H2; clear H)
          rw [HX.out] at H2
          go_roundw
          case rel => exact ⟨b + 1, by omega, by go_num, H2⟩
          case measure => simp [intOf]; omega
        · obtain rfl : b = N := by omega
          rw [List.take_of_length_le (by rw [domRow_len, ← HN.out]; exact Nat.le_refl _)] at H
          have HT := Lib.hid (domMat_take (wd := wd) (a := a) (by rw [← HN.out]; exact hlt))
          have HL : Hid (b = (domRow wd a).length) := Lib.hid (by rw [domRow_len]; exact HN.out)
          obtain ⟨Ar, cr, rfl, _, _, _⟩ := Res.row_at H.h0
          go_wp2_with (at_builtin; refine wpList_app rfl _ _ 61 rfl 24 j0 _ 1 24 Tryd.underlying61 hj y0 y1 y2 rfl (by decide) _ _ _ rfl (H.g1.alloc _) _ _ _ [.slice Ar b cr] rfl (Rd.fresh wr _ #[.slice Ar b cr] 1 1 rfl) (ocv rfl) (by unfold maxLen; omega) (by omega) ?_; intro v2 w2 H2; clear H)
          have H3 := (H2.g1.g2.rowsSnoc HL.out).p1
          rw [HT.out] at H3
          clear H2
          go_wp2
          go_roundw
          case rel => exact ⟨a + 1, _, by omega, by go_num, H3⟩
          case measure => simp [intOf]; omega
    · obtain rfl : a = N := by omega
      rw [List.take_of_length_le (by rw [domMat_len, ← HN.out]; exact Nat.le_refl _)] at H
      go_wp2
      refine bodyPost_ret (results_tmp2 rfl _ _ _) rfl ?_
      exact ⟨_, _, rfl, H⟩

set_option maxRecDepth 100000 in
set_option maxHeartbeats 1600000 in
theorem impl_trans_c (wd : Nat) (w : World) (h1 : 1 ≤ wd) (hw : wd ≤ 4) :
    Calls Tryd.prog 66 #[.int .i64 wd] w fun e w' => ∃ v vs, e = .returned (.tuple #[v, .bool true]) ∧ Sep w w' [Res.row v 24 1 (2 ^ wd) vs, Res.rows vs (domMat wd)] := by
  obtain ⟨j0, hj, y0, y1, y2⟩ := info_parts infoIntsM
  have hs1 := shl_small hw
  have hN16 := pow_small hw
  obtain ⟨N, hN⟩ : ∃ N, N = 2 ^ wd := ⟨_, rfl⟩
  rw [← hN] at hs1 hN16 ⊢
  have HN := Lib.hid hN
  have H0 := ((Sep.start w).rowsNil).nil 24 1
  have hin : inW (wd : Int) 1 4 = true := inW_iff.2 ⟨by omega, by omega⟩
  clear hN
  go_enter Tryd.func66, Tryd.ntmps66
  go_wp2_with (go_at_call 65; refine (between_w _ _ _ _).mono ?_; rintro e w' ⟨rfl, rfl⟩)
  clear hin
  go_loopw [4, 11] (fun mv av wx => ∃ (a : Nat) (vs : List Value), a ≤ N ∧ av = .int .i64 a ∧ Sep w wx [Res.row mv 24 1 a vs, Res.rows vs ((domMat wd).take a)]) (fun _ av _ => N - (intOf av).toNat)
  case atStart => exact ⟨0, [], Nat.zero_le _, rfl, H0⟩
  case round =>
    clear H0
    obtain ⟨a, vs, haN, rfl, H⟩ := hrel
    by_cases hlt : a < N
    · have HD := Lib.hid (impl_dom_c wd a wr h1 hw (by rw [← HN.out]; exact hlt))
      have HT := Lib.hid (domMat_take (wd := wd) (a := a) (by rw [← HN.out]; exact hlt))
      have HL : Hid ((domRow wd a).length = N) := Lib.hid (by rw [domRow_len]; exact HN.out.symm)
      go_wp2_with fail
      refine (HD.out).mono ?_
      rintro e w1 ⟨v1, rfl, o1, b1⟩
      have H1 := H.oiNew b1 o1
      rw [HL.out] at H1
      clear H HD o1 b1
      obtain ⟨Ar, cr, rfl, _, _, _⟩ := Res.row_at H1.h0
      go_wp2_with (at_builtin; refine wpList_app rfl _ _ 61 rfl 24 j0 _ 1 24 Tryd.underlying61 hj y0 y1 y2 rfl (by decide) _ _ _ rfl (H1.g1.alloc _) _ _ _ [.slice Ar N cr] rfl (Rd.fresh w1 _ #[.slice Ar N cr] 1 1 rfl) (ocv rfl) (by unfold maxLen; omega) (by omega) ?_; intro v2 w2 H2; clear H1)
      have H3 := (H2.g1.g2.rowsSnoc HL.out.symm).p1
      rw [HT.out] at H3
      clear H2
      go_wp2
      go_roundw
      case rel => exact ⟨a + 1, _, by omega, by go_num, H3⟩
      case measure => simp [intOf]; omega
    · obtain rfl : a = N := by omega
      rw [List.take_of_length_le (by rw [domMat_len, ← HN.out]; exact Nat.le_refl _)] at H
      go_wp2
      refine bodyPost_ret (results_tmp2 rfl _ _ _) rfl ?_
      exact ⟨_, _, rfl, H⟩

set_option maxRecDepth 100000 in
/-- beyond the widths there is none -/
theorem spec_trans0_c (W : Int) (w : World) (h : inW W 1 4 = false) :
    Calls Tryd.prog 58 #[.int .i64 W] w fun e w' => ∃ v, e = .returned (.tuple #[v, .bool false]) ∧ Below w.heap.size w w' := by
  have hbel := (Below.refl w.heap.size w).alloc (Nat.le_refl _) (.cells #[] 24)
  go_enter Tryd.func58, Tryd.ntmps58
  go_wp2_with (go_at_call 59; refine (l1In_w _ _ _ _).mono ?_; rintro e w' ⟨rfl, rfl⟩)
  refine bodyPost_ret (results_tmp2 rfl _ _ _) rfl ?_
  exact ⟨_, rfl, hbel⟩
end Go.Proofs.YtdbneilhgckhjaaDoor
