
/-
  The law's drawing of regions.
-/
import Derived.Test.YtjmeplchabehfaaDraw
import Derived.Test.YtjmeplchabehfaaRect
import Derived.Test.YtjmeplchabehfaaRemove
namespace Go.Proofs.Ytjmeplchabehfaa
open Go.RowKit

theorem Cur.map {w0 w w' : World} {g : Nat} {l : List UInt8} {L L' : List Res} (h : Cur w0 w g l L) (f : ∀ X, Sep w0 w (X :: L) → Sep w0 w' (X :: L')) : Cur w0 w' g l L' := by
  obtain ⟨A, c, i, hh, h1, h2, h3, h4, h5, H⟩ := h
  exact ⟨A, c, i, hh, h1, h2, h3, h4, h5, f _ H⟩
theorem Reg.less_valid {r : Reg} (hv : r.Valid) {x y : Int} : (r.less x y).Valid ∧ (r.less x y).w = r.w := by
  unfold Reg.less
  split
  · rename_i h
    simp only [Reg.isIn, Bool.and_eq_true] at h
    by_cases hc : 0 ≤ x ∧ x < r.w ∧ 0 ≤ y ∧ y < r.rows.length
    · exact ⟨Reg.flip_valid hv (by omega), rfl⟩
    · rw [Reg.has_out hc] at h; cases h.2
  · exact ⟨hv, rfl⟩

set_option maxRecDepth 100000 in
set_option maxHeartbeats 800000 in
theorem l1Pick_c {g b n : Nat} {l : List UInt8} {w0 w : World} {L : List Res} {xs : List Int} (hn : xs.length = n) (h1 : 1 ≤ n) (h2 : n ≤ 1000) (H : Cur w0 w g l (Res.row (.slice (some ⟨b, 0, none⟩) n n) 3 1 n (ic xs) :: L)) :
    Calls Try.prog 145 #[.pointer (some ⟨g, 0, none⟩), .slice (some ⟨b, 0, none⟩) n n] w fun e w' => ∃ x : Int, e = .returned (.int .i64 x) ∧ x ∈ xs ∧ Cur w0 w' g l (Res.row (.slice (some ⟨b, 0, none⟩) n n) 3 1 n (ic xs) :: L) := by
  go_enter Try.func145, Try.ntmps145
  go_wp2_with fail
  refine (l1Below_c (n : Int) H (by omega)).mono ?_
  rintro e w1 ⟨x, rfl, hx1, hx2, hx3, H1⟩
  have hxn := hx2 (by omega)
  obtain ⟨k, rfl⟩ := Int.eq_ofNat_of_zero_le hx1
  have hk : k < xs.length := by omega
  have r0 := own_cell1 H1.sep.h0 (List.getElem?_eq_getElem hk)
  simp only [Nat.zero_add] at r0
  have hmem := List.getElem_mem hk
  generalize xs[k] = a at *
  clear hx2 hx3 H
  go_wp2
  go_ret
  exact ⟨a, rfl, hmem, H1⟩

set_option maxRecDepth 100000 in
set_option maxHeartbeats 1600000 in
theorem l6Draw_c {g : Nat} {l : List UInt8} {w0 w : World} {L : List Res} (H : Cur w0 w g l L) :
    Calls Try.prog 144 #[.pointer (some ⟨g, 0, none⟩), .int .i64 5] w fun e w' => ∃ (r : Reg) (A : Option Addr) (c : Nat), e = .returned (.agg #[.int .i64 r.w, .slice A r.rows.length c]) ∧ r.Valid ∧
      Cur w0 w' g l (Res.row (.slice A r.rows.length c) 3 1 r.rows.length (ic r.rows) :: L) := by
  have H0 := H.map (fun X h => (h.box 31 #[.int .i64 0, .slice none 0 0]).g1)
  clear H
  go_enter Try.func144, Try.ntmps144
  go_wp2_with fail
  obtain ⟨gz, hgz⟩ : ∃ gz : World, gz = w := ⟨_, rfl⟩
  subst hgz
  generalize gz.alloc (.cells #[.int .i64 0, .slice none 0 0] 31) = W at *
  refine (l1Below_c 5 H0 (by omega)).mono ?_
  rintro e w1 ⟨x, rfl, hx1, hx2, hx3, H1⟩
  have hx5 := hx2 (by omega)
  clear hx2 hx3 H0
  go_wp2_with fail
  refine (l1Below_c 5 H1 (by omega)).mono ?_
  rintro e w2 ⟨y, rfl, hy1, hy2, hy3, H2⟩
  have hy5 := hy2 (by omega)
  clear hy2 hy3 H1
  obtain ⟨a, ha⟩ : ∃ a : Nat, (a : Int) = 1 + x := ⟨(1 + x).toNat, by omega⟩
  obtain ⟨b, hb⟩ : ∃ b : Nat, (b : Int) = 1 + y := ⟨(1 + y).toNat, by omega⟩
  go_wp2_with fail
  rw [← ha, ← hb]
  have HA := Lib.hid ha
  have HB := Lib.hid hb
  have hab : 1 ≤ a ∧ a ≤ 5 ∧ 1 ≤ b ∧ b ≤ 5 := by omega
  clear ha hb
  refine (rect_c a b w2 ⟨hab.1, by omega⟩ ⟨hab.2.2.1, by omega⟩).mono ?_
  rintro e w3 ⟨A, c, rfl, o3, b3⟩
  obtain ⟨r, hr⟩ : ∃ r : Reg, r = ⟨(a : Int), List.replicate b (2 ^ a - 1)⟩ := ⟨_, rfl⟩
  have hv : r.Valid := by
    rw [hr]
    refine ⟨by simp only; omega, by simp only; omega, by simp; omega, by simp; omega, fun q hq => ?_⟩
    simp only [List.mem_replicate] at hq
    rw [hq.2]
    have := pow_le_64 (wn := a) (by omega)
    simp only [Int.toNat_natCast]
    omega
  have hl : r.rows.length = b := by rw [hr]; simp
  have hw : (a : Int) = r.w := by rw [hr]
  have hrows : List.replicate b ((2 : Int) ^ a - 1) = r.rows := by rw [hr]
  rw [hrows] at o3
  rw [← hl] at o3 ⊢
  rw [hw]
  have H3 := H2.map (fun X h => ((h.oiNew b3 o3).box 31 #[.int .i64 r.w, .slice A r.rows.length c]).g2)
  clear H2 b3 o3 hrows hl hw hr
  go_wp2_with fail
  generalize w3.alloc (.cells #[.int .i64 r.w, .slice A r.rows.length c] 31) = w4 at *
  refine (l1Below_c 3 H3 (by omega)).mono ?_
  rintro e w5 ⟨n, rfl, hn1, hn2, hn3, H5⟩
  have hn5 := hn2 (by omega)
  have hv2 := hv.2.1
  have hv4 := hv.2.2.2.1
  clear hn2 hn3 H3
  go_wp2
  go_loopw [8] (fun nv wr => ∃ (k : Int) (r : Reg) (A : Option Addr) (c : Nat), nv = .int .i64 k ∧ 0 ≤ k ∧ k ≤ 2 ∧ r.Valid ∧ Cur w0 wr g l (Res.box w3.heap.size 31 #[.int .i64 r.w, .slice A r.rows.length c] :: Res.row (.slice A r.rows.length c) 3 1 r.rows.length (ic r.rows) :: Res.box gz.heap.size 31 #[.int .i64 0, .slice none 0 0] :: L)) (fun nv _ => (intOf nv).toNat)
  case atStart => exact ⟨n, r, A, c, rfl, hn1, by omega, hv, H5⟩
  case round =>
    clear H5 hv hv2 hv4
    obtain ⟨k, r, A, c, rfl, hk0, hk2, hv, H⟩ := hrel
    have hv1 := hv.1
    have hv2 := hv.2.1
    have hv4 := hv.2.2.2.1
    have x0 := H.sep.h0.cell 0
    have x1 := H.sep.h0.cell 1
    simp at x0 x1
    by_cases hk : 0 < k
    · have HV := Lib.hid hv
      clear hv
      go_wp2_with fail
      clear x0 x1
      refine (l1Below_c r.w H (by omega)).mono ?_
      rintro e w6 ⟨x, rfl, hx1, hx2, hx3, H6⟩
      have x0 := H6.sep.h0.cell 0
      have x1 := H6.sep.h0.cell 1
      simp at x0 x1
      have hx5 := hx2 (by omega)
      clear hx2 hx3 H
      go_wp2_with fail
      go_region_with ((first
        | (go_at_call 103; refine (l1Below_c (r.rows.length : Int) (by exact H6.map (fun X h => h.drew)) (by omega)).mono ?_; rintro e w7 ⟨y, rfl, hy1, hy2, hy3, H7⟩; have z0 := H7.sep.h0.cell 0; have z1 := H7.sep.h0.cell 1; have f0 := H7.sep.h0.frozen 0; have f1 := H7.sep.h0.frozen 1; simp at z0 z1; clear hy2 hy3)
        | (go_at_call 101; refine (spec_remove_c (r := r) x y w7 ⟨_, rfl, (H7.sep.g1.oi.sr).more (Nat.zero_le _) (Nat.le_refl _)⟩ (by omega)).mono ?_; rintro e w8 ⟨v8, rfl, ⟨s8, rfl, o8⟩, b8⟩; obtain ⟨A8, c8, rfl, _, _⟩ := o8.rd; have H8 := H7.map (fun X h => (h.oiNew b8 o8).g1); have q0 := H8.sep.h1.cell 0; have q1 := H8.sep.h1.cell 1; have p0 := H8.sep.h1.frozen 0; have p1 := H8.sep.h1.frozen 1; simp at q0 q1)))
      all_goals
        have H9 := H8.map (fun X h => (((h.g2.set_ 0 (.int .i64 (r.less x y).w)).set_ 1 (.slice A8 (r.less x y).rows.length c8)).g3.drop).g1)
        have hlv := Reg.less_valid HV.out (x := x) (y := y)
        obtain ⟨r', hr'⟩ : ∃ r', r' = r.less x y := ⟨_, rfl⟩
        rw [← hr'] at H9 hlv ⊢
        have HLV := Lib.hid hlv.1
        clear hr' hlv x0 x1 z0 z1 f0 f1 q0 q1 p0 p1 H8 H7 H6 o8 b8
        go_wp2
        go_roundw
        case rel => exact ⟨k - 1, r', A8, c8, rfl, by omega, by omega, HLV.out, H9⟩
        case measure => simp [intOf]; omega
    · have z0 := H.sep.h2.cell 0
      have z1 := H.sep.h2.cell 1
      have f0 := H.sep.h2.frozen 0
      have f1 := H.sep.h2.frozen 1
      simp at z0 z1
      have H6 := H.sep.g2.set_ 0 (.int .i64 r.w) |>.set_ 1 (.slice A r.rows.length c)
      have u0 := H6.h0.cell 0
      have u1 := H6.h0.cell 1
      simp at u0 u1
      have H7 := H.map (fun X h => ((h.g3.set_ 0 (.int .i64 r.w)).set_ 1 (.slice A r.rows.length c)).drop.g1.drop)
      have HV := Lib.hid hv
      clear hv H6
      go_wp2
      exact bodyPost_ret (v := .agg #[.int .i64 r.w, .slice A r.rows.length c]) (by simp [results, Try.results144, go_sem, u0, u1]) rfl ⟨r, A, c, rfl, HV.out, H7⟩
end Go.Proofs.Ytjmeplchabehfaa
