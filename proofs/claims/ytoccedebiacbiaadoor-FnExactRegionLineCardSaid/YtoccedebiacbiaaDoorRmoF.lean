
/-
  carryMask: the program's walk.
-/
import Derived.Test.YtoccedebiacbiaaDoorRmoE
import Derived.Test.YtoccedebiacbiaaDoorMskX
import Derived.Test.YtoccedebiacbiaaDoorColX
namespace Go.Proofs.YtoccedebiacbiaaDoor
open Go.RowKit

theorem or_pow_numR {x k : Nat} (hx : x < 2 ^ 36) (hk : k < 36) : bits .or .i64 (x : Int) (wrap64 (2 ^ k)) = ((x ||| 2 ^ k : Nat) : Int) := by
  have hp : 2 ^ k < 68719476736 := Nat.pow_lt_pow_right (n := 36) (by decide) hk
  have := or_step (a := x) (m := 1) (p := k) (by omega) (by omega)
  simpa using this
theorem cellsTo_lenR {w m : Nat} : ∀ k, (cellsTo w m k).length ≤ k
  | 0 => Nat.le_refl _
  | k + 1 => by
    have := cellsTo_lenR (w := w) (m := m) k
    rw [cellsTo, List.length_append]
    split <;> simp <;> omega
set_option maxRecDepth 100000 in
set_option maxHeartbeats 1600000 in
theorem carryMask_c {v : Value} {r : Reg} {mk m : Nat} (w : World) (h : RegRd w 0 w.heap.size v r) (hv : r.Valid) (hmk : mk < 2 ^ 36) (hm : m < 8) (hok : m % 2 = 0 ∨ r.w.toNat = r.rows.length) (hin : ∀ d ∈ cellsM r.w.toNat mk, inG r.w.toNat r.rows.length d) :
    Calls Tryd.prog 55 #[v, .int .i64 mk, .int .i64 m] w fun e w' => e = .returned (.int .i64 (carN r.w.toNat r.rows.length m (cellsM r.w.toNat mk))) ∧ Below w.heap.size w w' := by
  obtain ⟨s, rfl, hs⟩ := h
  obtain ⟨A, c, rfl, _, _⟩ := hs
  have v1 := hv.1
  have v2 := hv.2.1
  have v3 := hv.2.2.2.1
  have hw0 : r.w = (r.w.toNat : Int) := by omega
  generalize r.w.toNat = wn at *
  generalize r.rows.length = hn at *
  rw [hw0]
  obtain ⟨C, hC⟩ : ∃ C, C = cellsM wn mk := ⟨_, rfl⟩
  rw [← hC] at hin ⊢
  have HIN := Lib.hid hin
  have HOK := Lib.hid hok
  have HPL := Lib.hid (fun W => impl_places_c (m := mk) W (show 1 ≤ wn by omega) (show wn ≤ 6 by omega) hmk)
  have H0 := (Sep.start w).box 27 #[.int .i64 wn, .slice A hn c]
  obtain ⟨g, hg⟩ : ∃ g, g = w.heap.size := ⟨_, rfl⟩
  rw [← hg] at H0
  have hwn6 : wn ≤ 6 := by omega
  have hhn6 : hn ≤ 6 := by omega
  clear hv v1 v2 v3 hw0 hmk hin hok
  go_enter Tryd.func55, Tryd.ntmps55
  go_upto_region 1 with fail
  rw [← hg]
  generalize (w.alloc (.cells #[.int .i64 wn, .slice A hn c] 27)) = W at *
  clear hg
  have c0 : W.cell? ⟨g, 0, none⟩ = some (.int .i64 wn) := H0.h0.cell 0
  go_wp2_with fail
  refine ((HPL.out) _).mono ?_
  rintro e w1 ⟨vC, rfl, oC, b1⟩
  rw [← hC] at oC
  have H3 := H0.oiNew b1 oC
  obtain ⟨n, hn'⟩ : ∃ n, n = C.length := ⟨_, rfl⟩
  have HCN := Lib.hid hn'
  rw [← hn'] at H3
  have hn36 : n ≤ 36 := by rw [hn', hC]; exact cellsTo_lenR 36
  obtain ⟨AC, cC, hvC, hnc, _, _⟩ := Res.row_at H3.h0
  subst hvC
  clear c0 H0 HPL b1 oC hC hn'
  go_wp2
  go_loopw [7, 16] (fun av iv wx => ∃ i : Nat, i ≤ n ∧ iv = .int .i64 i ∧ av = .int .i64 (carN wn hn m (C.take i) : Nat) ∧ Sep w wx [Res.row (.slice AC n cC) 52 2 n (cc C), Res.box g 27 #[.int .i64 wn, .slice A hn c]]) (fun _ iv _ => n - (intOf iv).toNat)
  case atStart => exact ⟨0, Nat.zero_le _, rfl, rfl, H3⟩
  case round =>
    clear H3
    obtain ⟨i, hi, rfl, rfl, H⟩ := hrel
    by_cases hlt : i < n
    · have hlti : (i : Int) < (n : Int) := by omega
      obtain ⟨d, hd⟩ : ∃ d, C[i]? = some d := ⟨C[i]'(by rw [← HCN.out]; exact hlt), List.getElem?_eq_getElem _⟩
      obtain ⟨gC, oC, cC', hs1, _, _, _⟩ := own_shape H.h0 (by omega)
      injection hs1 with hs2 hs3 hs4
      subst hs2 hs4
      obtain ⟨rfl, _⟩ := own_blk H.h0
      obtain ⟨q1, q2⟩ := own_cell2 H.h0 hd
      simp only [Nat.zero_add] at q1 q2
      have HG := HIN.out d (List.mem_of_getElem? hd)
      have HT := Lib.hid (carN_take (W := wn) (h := hn) (m := m) hd)
      have HLT := Lib.hid (mvI_lt hwn6 hhn6 HOK.out HG)
      have hal : carN wn hn m (C.take i) < 2 ^ (wn * hn) := carN_lt hwn6 hhn6 HOK.out (fun d hd => HIN.out d (List.mem_of_mem_take hd))
      have hal36 : wn * hn ≤ 36 := Nat.mul_le_mul hwn6 hhn6
      have HAL : Hid (carN wn hn m (C.take i) < 2 ^ 36) := Lib.hid (Nat.lt_of_lt_of_le hal (Nat.pow_le_pow_right (by omega) hal36))
      have HID : Hid (mvI wn hn m d < 36) := Lib.hid (Nat.lt_of_lt_of_le HLT.out hal36)
      obtain ⟨g1, g2, g3, g4⟩ := HG
      have HPC := Lib.hid (mvC_place (m := m) (show GPl.ok ⟨(wn : Int), hn, d.x, d.y⟩ from ⟨g1, g2, g3, g4, by simp only; omega, by simp only; omega⟩) (HOK.out.imp id (fun e => by omega)))
      have HCP : Hid (∀ W, _) := Lib.hid (fun W => carryPlace_c wn hn d.x d.y m W ⟨g1, g2, g3, g4, by simp only; omega, by simp only; omega⟩ hm)
      have HMV : Hid (mvI wn hn m d = ((mvC wn hn m d.x d.y).y * wn + (mvC wn hn m d.x d.y).x).toNat) := Lib.hid rfl
      obtain ⟨a, ha⟩ : ∃ a, a = carN wn hn m (C.take i) := ⟨_, rfl⟩
      obtain ⟨k, hk⟩ : ∃ k, k = mvI wn hn m d := ⟨_, rfl⟩
      rw [← ha] at HT HAL ⊢
      rw [← hk] at HT HID HMV
      obtain ⟨dx, dy⟩ := d
      simp only at q1 q2 HPC HCP HMV
      obtain ⟨P, hP⟩ : ∃ P, P = mvC wn hn m dx dy := ⟨_, rfl⟩
      rw [← hP] at HPC HCP HMV
      obtain ⟨pw, ph, px, py⟩ := P
      simp only at HPC HCP HMV
      clear hd ha hk hP hal g1 g2 g3 g4 HLT
      have H1 := H.box 52 #[.int .i64 dx, .int .i64 dy]
      clear H
      go_upto_region 5 with fail
      obtain ⟨gc, hgc⟩ : ∃ k, k = wr.heap.size := ⟨_, rfl⟩
      rw [← hgc] at H1 ⊢
      generalize wr.alloc (.cells #[.int .i64 dx, .int .i64 dy] 52) = W4 at *
      clear hgc q1 q2
      have k0 : W4.cell? ⟨gc, 0, none⟩ = some (.int .i64 dx) := H1.h0.cell 0
      have k1 : W4.cell? ⟨gc, 1, none⟩ = some (.int .i64 dy) := H1.h0.cell 1
      have H2 := H1.drop.g1
      have c0 : W4.cell? ⟨g, 0, none⟩ = some (.int .i64 wn) := H2.h0.cell 0
      have c1 : W4.cell? ⟨g, 1, none⟩ = some (.slice A hn c) := H2.h0.cell 1
      clear H1
      go_wp2_with fail
      refine ((HCP.out) _).mono ?_
      rintro e w5 ⟨rfl, b5⟩
      have H3 := (H2.step b5).box 52 #[.int .i64 px, .int .i64 py]
      clear H2 k0 k1 c0 c1 b5 HCP
      go_upto_region 6 with fail
      obtain ⟨gd, hgd⟩ : ∃ k, k = w5.heap.size := ⟨_, rfl⟩
      rw [← hgd] at H3 ⊢
      generalize w5.alloc (.cells #[.int .i64 px, .int .i64 py] 52) = W6 at *
      clear hgd
      have k0 : W6.cell? ⟨gd, 0, none⟩ = some (.int .i64 px) := H3.h0.cell 0
      have k1 : W6.cell? ⟨gd, 1, none⟩ = some (.int .i64 py) := H3.h0.cell 1
      have H4 := H3.drop
      have c0 : W6.cell? ⟨g, 0, none⟩ = some (.int .i64 wn) := H4.h0.cell 0
      obtain ⟨p1, p2, p3, p4⟩ := HPC.out
      have n1 := Int.mul_nonneg p3 (Int.natCast_nonneg wn)
      have n2 : py * (wn : Int) ≤ 6 * 6 := Int.mul_le_mul (by omega) (by omega) (by omega) (by omega)
      have n3 : py * (wn : Int) + px = (k : Int) := by rw [HMV.out]; omega
      have w1 : wrap64 (py * (wn : Int)) = py * (wn : Int) := IntWalk.wrap64_in _ (by omega)
      have w2 : wrap64 (py * (wn : Int) + px) = (k : Int) := by rw [n3]; exact IntWalk.wrap64_in _ (by have := HID.out; omega)
      have w3 := or_pow_numR HAL.out HID.out
      have k36 := HID.out
      clear H3 p1 p2 p3 p4 n1 n2 n3
      go_wp2
      clear k0 k1 c0 w1 w2 w3
      go_roundw
      case rel => exact ⟨i + 1, by omega, by go_num, by rw [HT.out], H4.g1⟩
      case measure => simp [intOf]; omega
    · obtain rfl : i = n := by omega
      have hT : C.take i = C := by rw [HCN.out, List.take_length]
      rw [hT] at *
      have hb := H.below
      clear H
      go_wp2
      go_ret
      exact ⟨rfl, hb⟩
end Go.Proofs.YtoccedebiacbiaaDoor
