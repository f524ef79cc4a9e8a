
/-
  The law's drawing of regions. The law's draw of a shape that is grown cell by cell, right or not. A shape's text: plain, and the reference's walk. The reference's 'ParseShape' at texts of right shapes, and the names of the pieces. The reference's 'PieceNamed' at the names of the pieces. The law's drawing of regions, right or not. The laws' draws of regions for coverings, common regions, packings. The drawings of the law FnScales.
-/
import Derived.Test.YtppbkiajcpdkiaaGreatDoorDraw
import Derived.Test.YtppbkiajcpdkiaaGreatDoorRect
import Derived.Test.YtppbkiajcpdkiaaGreatDoorFlipX
import Derived.Test.YtppbkiajcpdkiaaGreatDoorCellX
import Derived.Test.YtppbkiajcpdkiaaGreatDoorMotC
import Derived.Test.YtppbkiajcpdkiaaGreatDoorOriP
import Derived.Test.YtppbkiajcpdkiaaGreatDoorUbyte
import Derived.Test.YtppbkiajcpdkiaaGreatDoorSepX
import Derived.Test.YtppbkiajcpdkiaaGreatDoorShpX
import Derived.Lib.Join
import Derived.Lib.Strings
import Derived.Deep.DeepCutAuto
import Derived.Test.YtppbkiajcpdkiaaGreatDoorQTail
namespace Go.Proofs.YtppbkiajcpdkiaaGreatDoor
open Go.RowKit

theorem Cur.map {w0 w w' : World} {g : Nat} {l : List UInt8} {L L' : List Res} (h : Cur w0 w g l L) (f : ∀ X, Sep w0 w (X :: L) → Sep w0 w' (X :: L')) : Cur w0 w' g l L' := by
  obtain ⟨A, c, i, hh, h1, h2, h3, h4, h5, H⟩ := h
  exact ⟨A, c, i, hh, h1, h2, h3, h4, h5, f _ H⟩
theorem Reg.less_valid {r : Reg} (hv : r.Valid) {x y : Int} : (r.less x y).Valid ∧ (r.less x y).w = r.w := by
  unfold Reg.less
  split
  · rename_i h
    simp only [Reg.isIn, Bool.and_eq_true] at h
    by_cases hc : 0 ≤ x ∧ x < r.w ∧ 0 ≤ y ∧ y < r.rows.length
    · exact ⟨Reg.flip_valid hv (by omega), rfl⟩
    · rw [Reg.has_out hc] at h; cases h.2
  · exact ⟨hv, rfl⟩

set_option maxRecDepth 100000 in
set_option maxHeartbeats 800000 in
theorem l1Pick_c {g b n : Nat} {l : List UInt8} {w0 w : World} {L : List Res} {xs : List Int} (hn : xs.length = n) (h1 : 1 ≤ n) (h2 : n ≤ 1000) (H : Cur w0 w g l (Res.row (.slice (some ⟨b, 0, none⟩) n n) 3 1 n (ic xs) :: L)) :
    Calls Tryz.prog 94 #[.pointer (some ⟨g, 0, none⟩), .slice (some ⟨b, 0, none⟩) n n] w fun e w' => ∃ x : Int, e = .returned (.int .i64 x) ∧ x ∈ xs ∧ Cur w0 w' g l (Res.row (.slice (some ⟨b, 0, none⟩) n n) 3 1 n (ic xs) :: L) := by
  go_enter Tryz.func94, Tryz.ntmps94
  go_wp2_with fail
  refine (l1Below_c (n : Int) H (by omega)).mono ?_
  rintro e w1 ⟨x, rfl, hx1, hx2, hx3, H1⟩
  have hxn := hx2 (by omega)
  obtain ⟨k, rfl⟩ := Int.eq_ofNat_of_zero_le hx1
  have hk : k < xs.length := by omega
  have r0 := own_cell1 H1.sep.h0 (List.getElem?_eq_getElem hk)
  simp only [Nat.zero_add] at r0
  have hmem := List.getElem_mem hk
  generalize xs[k] = a at *
  clear hx2 hx3 H
  go_wp2
  go_ret
  exact ⟨a, rfl, hmem, H1⟩

set_option maxRecDepth 100000 in
set_option maxHeartbeats 1600000 in
theorem l6DrawM_c (mo : Int) (hm1 : 1 ≤ mo) (hm5 : mo ≤ 5) {g : Nat} {l : List UInt8} {w0 w : World} {L : List Res} (H : Cur w0 w g l L) :
    Calls Tryz.prog 51 #[.pointer (some ⟨g, 0, none⟩), .int .i64 mo] w fun e w' => ∃ (r : Reg) (A : Option Addr) (c : Nat), e = .returned (.agg #[.int .i64 r.w, .slice A r.rows.length c]) ∧ r.Valid ∧
      Cur w0 w' g l (Res.row (.slice A r.rows.length c) 3 1 r.rows.length (ic r.rows) :: L) := by
  have H0 := H.map (fun X h => (h.box 29 #[.int .i64 0, .slice none 0 0]).g1)
  clear H
  go_enter Tryz.func51, Tryz.ntmps51
  go_wp2_with fail
  obtain ⟨gz, hgz⟩ : ∃ gz : World, gz = w := ⟨_, rfl⟩
  subst hgz
  generalize gz.alloc (.cells #[.int .i64 0, .slice none 0 0] 29) = W at *
  refine (l1Below_c mo H0 (by omega)).mono ?_
  rintro e w1 ⟨x, rfl, hx1, hx2, hx3, H1⟩
  have hx5 := hx2 (by omega)
  clear hx2 hx3 H0
  go_wp2_with fail
  refine (l1Below_c mo H1 (by omega)).mono ?_
  rintro e w2 ⟨y, rfl, hy1, hy2, hy3, H2⟩
  have hy5 := hy2 (by omega)
  clear hy2 hy3 H1
  obtain ⟨a, ha⟩ : ∃ a : Nat, (a : Int) = 1 + x := ⟨(1 + x).toNat, by omega⟩
  obtain ⟨b, hb⟩ : ∃ b : Nat, (b : Int) = 1 + y := ⟨(1 + y).toNat, by omega⟩
  go_wp2_with fail
  rw [← ha, ← hb]
  have HA := Lib.hid ha
  have HB := Lib.hid hb
  have hab : 1 ≤ a ∧ a ≤ 5 ∧ 1 ≤ b ∧ b ≤ 5 := by omega
  clear ha hb
  refine (rect_c a b w2 ⟨hab.1, by omega⟩ ⟨hab.2.2.1, by omega⟩).mono ?_
  rintro e w3 ⟨A, c, rfl, o3, b3⟩
  obtain ⟨r, hr⟩ : ∃ r : Reg, r = ⟨(a : Int), List.replicate b (2 ^ a - 1)⟩ := ⟨_, rfl⟩
  have hv : r.Valid := by
    rw [hr]
    refine ⟨by simp only; omega, by simp only; omega, by simp; omega, by simp; omega, fun q hq => ?_⟩
    simp only [List.mem_replicate] at hq
    rw [hq.2]
    have := pow_le_64 (wn := a) (by omega)
    simp only [Int.toNat_natCast]
    omega
  have hl : r.rows.length = b := by rw [hr]; simp
  have hw : (a : Int) = r.w := by rw [hr]
  have hrows : List.replicate b ((2 : Int) ^ a - 1) = r.rows := by rw [hr]
  rw [hrows] at o3
  rw [← hl] at o3 ⊢
  rw [hw]
  have H3 := H2.map (fun X h => ((h.oiNew b3 o3).box 29 #[.int .i64 r.w, .slice A r.rows.length c]).g2)
  clear H2 b3 o3 hrows hl hw hr
  go_wp2_with fail
  generalize w3.alloc (.cells #[.int .i64 r.w, .slice A r.rows.length c] 29) = w4 at *
  refine (l1Below_c 3 H3 (by omega)).mono ?_
  rintro e w5 ⟨n, rfl, hn1, hn2, hn3, H5⟩
  have hn5 := hn2 (by omega)
  have hv2 := hv.2.1
  have hv4 := hv.2.2.2.1
  clear hn2 hn3 H3
  go_wp2
  go_loopw [8] (fun nv wr => ∃ (k : Int) (r : Reg) (A : Option Addr) (c : Nat), nv = .int .i64 k ∧ 0 ≤ k ∧ k ≤ 2 ∧ r.Valid ∧ Cur w0 wr g l (Res.box w3.heap.size 29 #[.int .i64 r.w, .slice A r.rows.length c] :: Res.row (.slice A r.rows.length c) 3 1 r.rows.length (ic r.rows) :: Res.box gz.heap.size 29 #[.int .i64 0, .slice none 0 0] :: L)) (fun nv _ => (intOf nv).toNat)
  case atStart => exact ⟨n, r, A, c, rfl, hn1, by omega, hv, H5⟩
  case round =>
    clear H5 hv hv2 hv4
    obtain ⟨k, r, A, c, rfl, hk0, hk2, hv, H⟩ := hrel
    have hv1 := hv.1
    have hv2 := hv.2.1
    have hv4 := hv.2.2.2.1
    have x0 := H.sep.h0.cell 0
    have x1 := H.sep.h0.cell 1
    simp at x0 x1
    by_cases hk : 0 < k
    · have HV := Lib.hid hv
      clear hv
      go_wp2_with fail
      clear x0 x1
      refine (l1Below_c r.w H (by omega)).mono ?_
      rintro e w6 ⟨x, rfl, hx1, hx2, hx3, H6⟩
      have x0 := H6.sep.h0.cell 0
      have x1 := H6.sep.h0.cell 1
      simp at x0 x1
      have hx5 := hx2 (by omega)
      clear hx2 hx3 H
      go_wp2_with fail
      go_region_with ((first
        | (go_at_call 115; refine (l1Below_c (r.rows.length : Int) (by exact H6.map (fun X h => h.drew)) (by omega)).mono ?_; rintro e w7 ⟨y, rfl, hy1, hy2, hy3, H7⟩; have z0 := H7.sep.h0.cell 0; have z1 := H7.sep.h0.cell 1; have f0 := H7.sep.h0.frozen 0; have f1 := H7.sep.h0.frozen 1; simp at z0 z1; clear hy2 hy3)
        | (go_at_call 117; refine (spec_remove_c (r := r) x y w7 ⟨_, rfl, (H7.sep.g1.oi.sr).more (Nat.zero_le _) (Nat.le_refl _)⟩ (by omega)).mono ?_; rintro e w8 ⟨v8, rfl, ⟨s8, rfl, o8⟩, b8⟩; obtain ⟨A8, c8, rfl, _, _⟩ := o8.rd; have H8 := H7.map (fun X h => (h.oiNew b8 o8).g1); have q0 := H8.sep.h1.cell 0; have q1 := H8.sep.h1.cell 1; have p0 := H8.sep.h1.frozen 0; have p1 := H8.sep.h1.frozen 1; simp at q0 q1)))
      all_goals
        have H9 := H8.map (fun X h => (((h.g2.set_ 0 (.int .i64 (r.less x y).w)).set_ 1 (.slice A8 (r.less x y).rows.length c8)).g3.drop).g1)
        have hlv := Reg.less_valid HV.out (x := x) (y := y)
        obtain ⟨r', hr'⟩ : ∃ r', r' = r.less x y := ⟨_, rfl⟩
        rw [← hr'] at H9 hlv ⊢
        have HLV := Lib.hid hlv.1
        clear hr' hlv x0 x1 z0 z1 f0 f1 q0 q1 p0 p1 H8 H7 H6 o8 b8
        go_wp2
        go_roundw
        case rel => exact ⟨k - 1, r', A8, c8, rfl, by omega, by omega, HLV.out, H9⟩
        case measure => simp [intOf]; omega
    · have z0 := H.sep.h2.cell 0
      have z1 := H.sep.h2.cell 1
      have f0 := H.sep.h2.frozen 0
      have f1 := H.sep.h2.frozen 1
      simp at z0 z1
      have H6 := H.sep.g2.set_ 0 (.int .i64 r.w) |>.set_ 1 (.slice A r.rows.length c)
      have u0 := H6.h0.cell 0
      have u1 := H6.h0.cell 1
      simp at u0 u1
      have H7 := H.map (fun X h => ((h.g3.set_ 0 (.int .i64 r.w)).set_ 1 (.slice A r.rows.length c)).drop.g1.drop)
      have HV := Lib.hid hv
      clear hv H6
      go_wp2
      exact bodyPost_ret (v := .agg #[.int .i64 r.w, .slice A r.rows.length c]) (by simp [results, Tryz.results51, go_sem, u0, u1]) rfl ⟨r, A, c, rfl, HV.out, H7⟩
set_option maxRecDepth 100000 in
theorem l6Draw_c {g : Nat} {l : List UInt8} {w0 w : World} {L : List Res} (H : Cur w0 w g l L) :
    Calls Tryz.prog 51 #[.pointer (some ⟨g, 0, none⟩), .int .i64 5] w fun e w' => ∃ (r : Reg) (A : Option Addr) (c : Nat), e = .returned (.agg #[.int .i64 r.w, .slice A r.rows.length c]) ∧ r.Valid ∧
      Cur w0 w' g l (Res.row (.slice A r.rows.length c) 3 1 r.rows.length (ic r.rows) :: L) := l6DrawM_c 5 (by omega) (by omega) H
end Go.Proofs.YtppbkiajcpdkiaaGreatDoor

namespace Go.Proofs.YtppbkiajcpdkiaaGreatDoor
open Go.RowKit

/-- a thing that holds cells which can be read -/
def CellsBy (R : Res) (v : Value) (s : List Cell) : Prop := ∀ (w : World) (lo : Nat), R.holds w → (∀ b, R.dom b → lo ≤ b) → CellsRd w lo w.heap.size v s
theorem CellsBy.row {v : Value} {s : List Cell} (h : s.length ≤ 1048576) : CellsBy (Res.row v 65 2 s.length (cc s)) v s := fun w lo hw hd => by
  have hw : w.ownsRow 0 65 2 v s.length (cc s) := hw
  have h1 : w.ownsRow lo 65 2 v s.length (cc s) := ⟨hw.1, by
    rcases hw.2 with hn | ⟨g, cap, cur, rfl, hbg, rest⟩
    · exact .inl hn
    · exact .inr ⟨g, cap, cur, rfl, hd g (by simp [Res.row, Value.ownBlock]), rest⟩⟩
  obtain ⟨A, c, rfl, _, _, hr⟩ := own_rd h1
  exact ⟨A, c, rfl, by unfold maxLen; omega, hr⟩
theorem CellsBy.tail {b c : Nat} {s : List Cell} (h : s.length ≤ 1048576) (h1 : 1 ≤ s.length) : CellsBy (Res.row (.slice (some ⟨b, 0, none⟩) s.length c) 65 2 s.length (cc s)) (.slice (some ⟨b, 2, none⟩) (s.length - 1) (c - 1)) (s.drop 1) := fun w lo hw hd => by
  obtain ⟨A, c', e, _, hr⟩ := CellsBy.row h w lo hw hd
  injection e with e1 e2 e3
  subst e1
  obtain ⟨b2, o2, e4, h5, h6, hc⟩ := hr.2 (by omega)
  injection e4 with e4
  injection e4 with e4 e6
  subst e4
  subst e6
  have hd : (cc s).drop 2 = cc (s.drop 1) := by have := cc_drop (l := s) (k := 1) h1; simpa using this
  refine ⟨some ⟨b, 2, none⟩, c - 1, by rw [List.length_drop], by rw [List.length_drop]; unfold maxLen; omega, by rw [cc_length], fun hn => ⟨b, 2, rfl, h5, h6, fun j u hu => ?_⟩⟩
  have := hc (2 + j) u (by rw [← hd, List.getElem?_drop] at hu; exact hu)
  simpa using this
theorem CellsBy.tail1 {A : Option Addr} {s : List Cell} (h1 : s.length = 1) {R : Res} : CellsBy R (.slice A 0 0) (s.drop 1) := fun w lo _ _ =>
  ⟨A, 0, by rw [List.length_drop, h1], by rw [List.length_drop]; unfold maxLen; omega, by rw [cc_length], fun hn => by rw [List.length_drop] at hn; omega⟩
set_option maxRecDepth 100000 in
set_option maxHeartbeats 3200000 in
theorem l2Grow_c {g : Nat} {l : List UInt8} {w0 w : World} {L : List Res} (n : Nat) (hn1 : 1 ≤ n) (hn7 : n ≤ 7) (H : Cur w0 w g l L) :
    Calls Tryz.prog 185 #[.pointer (some ⟨g, 0, none⟩), .int .i64 n] w fun e w' => ∃ v s, e = .returned v ∧ 1 ≤ s.length ∧ s.length ≤ 7 ∧ Cur w0 w' g l (Res.row v 65 2 s.length (cc s) :: L) := by
  obtain ⟨i0, hi, hz0, hz1, hz2⟩ := info_parts infoCell
  have H0 : Cur w0 (w.alloc (.cells #[.int .i64 3, .int .i64 3] 65)) g l (Res.row (.slice (some ⟨w.heap.size, 0, none⟩) 1 1) 65 2 1 (cc [⟨3, 3⟩]) :: L) := H.map (fun X h => (h.rowBox 65 #[.int .i64 3, .int .i64 3] 2 1 rfl (by decide)).g1)
  clear H
  go_enter Tryz.func185, Tryz.ntmps185
  go_wp2
  go_loopw [5, 6] (fun sv iv wr => ∃ (k : Nat) (S : List Cell), 1 ≤ k ∧ iv = .int .i64 k ∧ k ≤ n ∧ S.length ≤ k ∧ 1 ≤ S.length ∧ Hid (∀ c ∈ S, On c) ∧ Cur w0 wr g l (Res.row sv 65 2 S.length (cc S) :: L)) (fun _ iv _ => n - (intOf iv).toNat)
  case atStart => exact ⟨1, [⟨3, 3⟩], Nat.le_refl _, rfl, hn1, Nat.le_refl _, Nat.le_refl _, Lib.hid (fun c hc => by simp at hc; subst hc; unfold On; decide), H0⟩
  case round =>
    clear H0
    obtain ⟨k, S, hk1, rfl, hkn, hSk, hS1, HON, H⟩ := hrel
    by_cases hlt : k < n
    · obtain ⟨b, o, c, rfl, hc1, hc2, hbw⟩ := own_shape H.sep.h0 (by omega)
      obtain ⟨rfl, _⟩ := own_blk H.sep.h0
      go_wp2_with fail
      refine (l1Below_c (S.length : Int) H (by omega)).mono ?_
      rintro e w5 ⟨x, rfl, hx1, hx2, _, H5⟩
      obtain ⟨j, rfl⟩ := Int.eq_ofNat_of_zero_le hx1
      have hj : j < S.length := by have := hx2 (by omega); omega
      have r0 := own_cell2 H5.sep.h0 (List.getElem?_eq_getElem hj)
      generalize S[j] = d at *
      obtain ⟨r0, r1⟩ := r0
      simp only [Nat.zero_add] at r0 r1
      have hj2 : (j : Int) < (S.length : Int) := by omega
      clear hx1 hx2 H
      have H6 := H5.map (fun X h => (h.box 65 #[.int .i64 d.x, .int .i64 d.y]).g1)
      clear H5
      go_wp2_with fail
      generalize w5.alloc (.cells #[.int .i64 d.x, .int .i64 d.y] 65) = w6 at *
      refine (l1Below_c 4 H6 (by omega)).mono ?_
      rintro e w7 ⟨y, rfl, hy1, hy2, _, H7⟩
      have x0 := H7.sep.h0.cell 0
      have x1 := H7.sep.h0.cell 1
      simp at x0 x1
      clear H6
      go_upto_region 8 with fail
      have H8 := H7.map (fun X h => (h.box 65 #[.int .i64 (wrap64 (d.x + (1 - y).tmod 2)), .int .i64 (wrap64 (d.y + (2 - y).tmod 2))]).g1)
      clear H7 x0 x1
      generalize wrap64 (d.x + (1 - y).tmod 2) = X at *
      generalize wrap64 (d.y + (2 - y).tmod 2) = Y at *
      generalize w7.alloc (.cells #[.int .i64 X, .int .i64 Y] 65) = w8 at *
      have z0 := H8.sep.h0.cell 0
      have z1 := H8.sep.h0.cell 1
      simp at z0 z1
      obtain ⟨M, hM⟩ : ∃ M, M = decide ((⟨X, Y⟩ : Cell) ∈ S) := ⟨_, rfl⟩
      have HHC := Lib.hid (spec_has2_c X Y w8 (CellsBy.row (by omega) w8 0 H8.sep.h2 (fun _ _ => Nat.zero_le _)) (by omega))
      rw [← hM] at HHC
      clear hM
      cases hx : inR X 0 7
      · clear HHC
        go_wp2_with (first
          | (go_at_call 36; refine (l1In_r _ _ _ _).mono ?_; rintro e w' ⟨rfl, rfl⟩; (try simp only [hx]); (try simp only [hy]))
          | (go_at_call 123; refine (HHC.out).mono ?_; rintro e w' ⟨rfl, rfl⟩)
          | fail)
        go_roundw
        case rel => exact ⟨k + 1, S, by omega, by go_num, by omega, by omega, hS1, HON, H8.map (fun X h => h.g1.drop.g1.drop)⟩
        case measure => simp [intOf]; omega
      · cases hy : inR Y 0 7
        · clear HHC
          go_wp2_with (first
            | (go_at_call 36; refine (l1In_r _ _ _ _).mono ?_; rintro e w' ⟨rfl, rfl⟩; (try simp only [hx]); (try simp only [hy]))
            | (go_at_call 123; refine (HHC.out).mono ?_; rintro e w' ⟨rfl, rfl⟩)
            | fail)
          go_roundw
          case rel => exact ⟨k + 1, S, by omega, by go_num, by omega, by omega, hS1, HON, H8.map (fun X h => h.g1.drop.g1.drop)⟩
          case measure => simp [intOf]; omega
        · cases M
          · have HX := Lib.hid hx
            have HY := Lib.hid hy
            obtain ⟨B, cb, ci, ch, e1, e2, e3, e4, e5, HS⟩ := H8
            have HS' := HS.g3
            clear HS
            go_wp2_with (first
              | (go_at_call 36; refine (l1In_r _ _ _ _).mono ?_; rintro e w' ⟨rfl, rfl⟩; (try simp only [hx]); (try simp only [hy]))
              | (go_at_call 123; refine (HHC.out).mono ?_; rintro e w' ⟨rfl, rfl⟩)
              | (at_builtin; refine wpList_app rfl _ _ 24 rfl 65 i0 _ 2 16 Tryz.underlying24 hi hz0 hz1 hz2 rfl (by decide) _ _ _ rfl (HS'.alloc _) _ _ _ [.int .i64 X, .int .i64 Y] rfl (Rd.fresh w8 _ #[.int .i64 X, .int .i64 Y] 2 1 rfl) oc2 (by unfold maxLen; omega) (by omega) ?_; intro v9 w9 H9)
              | fail)
            clear HS' HHC
            have hls : (S ++ [(⟨X, Y⟩ : Cell)]).length = S.length + 1 := by simp
            have hcc : cc S ++ [Value.int .i64 X, .int .i64 Y] = cc (S ++ [⟨X, Y⟩]) := by rw [cc_append]; rfl
            rw [hcc, ← hls] at H9
            go_roundw
            case rel => exact ⟨k + 1, S ++ [⟨X, Y⟩], by omega, by go_num, by omega, by omega, by omega, Lib.hid (fun c hc => by
              rcases List.mem_append.1 hc with hc | hc
              · exact HON.out c hc
              · rw [List.mem_singleton.1 hc]
                obtain ⟨q1, q2⟩ := inR_iff.1 HX.out
                obtain ⟨q3, q4⟩ := inR_iff.1 HY.out
                exact ⟨⟨q1, q2⟩, q3, q4⟩), B, cb, ci, ch, e1, e2, e3, e4, e5, H9.g1.g2.drop.g2.drop⟩
            case measure => simp [intOf]; omega
          · skip
            go_wp2_with (first
              | (go_at_call 36; refine (l1In_r _ _ _ _).mono ?_; rintro e w' ⟨rfl, rfl⟩; (try simp only [hx]); (try simp only [hy]))
              | (go_at_call 123; refine (HHC.out).mono ?_; rintro e w' ⟨rfl, rfl⟩)
              | fail)
            go_roundw
            case rel => exact ⟨k + 1, S, by omega, by go_num, by omega, by omega, hS1, HON, H8.map (fun X h => h.g1.drop.g1.drop)⟩
            case measure => simp [intOf]; omega
    · have HSC := Lib.hid (spec_sort_c wr (CellsBy.row (by omega) wr 0 H.sep.h0 (fun _ _ => Nat.zero_le _)) (by omega))
      have HS8 := Lib.hid (sortC_len (s := S))
      obtain ⟨T, hT⟩ : ∃ T, T = sortC S := ⟨_, rfl⟩
      have hT1 : 1 ≤ T.length := by
        obtain ⟨c, hc⟩ := List.exists_mem_of_length_pos (l := S) (by omega)
        have := List.length_pos_of_mem ((mem_sortC (s := S)).2 hc)
        rw [hT]; omega
      have hTl : T.length ≤ 7 := by have := HS8.out; rw [hT]; omega
      have hTs : ∀ c ∈ T, Sml 100 c := fun c hc => by
        rw [hT] at hc
        obtain ⟨⟨p1, p2⟩, p3, p4⟩ := HON.out c (mem_sortC.1 hc)
        exact ⟨⟨by omega, by omega⟩, ⟨by omega, by omega⟩⟩
      rw [← hT] at HSC
      have HTS := Lib.hid hTs
      clear hT hTs HS8
      obtain ⟨b, o, c, rfl, hc1, hc2, hbw⟩ := own_shape H.sep.h0 (by omega)
      go_wp2_with fail
      refine (HSC.out).mono ?_
      rintro e w2 ⟨v2, rfl, o2, b2⟩
      have H2 := H.map (fun X h => (h.oiNew b2 o2).g1)
      have HCC := Lib.hid (l2CornerB_c w2 (CellsBy.row (by omega) w2 0 H2.sep.h0 (fun _ _ => Nat.zero_le _)) hT1 (by omega) HTS.out)
      obtain ⟨U, hU⟩ : ∃ U, U = corner T := ⟨_, rfl⟩
      have hUl : U.length = T.length := by rw [hU]; unfold corner; rw [shift_length]
      rw [← hU] at HCC
      have HUL := Lib.hid hUl
      obtain ⟨A2, c2, rfl, _, _, _⟩ := Res.row_at H2.sep.h0
      clear hU hUl H o2 b2 HSC
      go_wp2_with fail
      refine (HCC.out).mono ?_
      rintro e w3 ⟨v3, rfl, o3, b3⟩
      have H3 := H2.map (fun X h => (h.oiNew b3 o3).g1.g2.drop.g2.drop)
      clear H2 o3 b3
      go_wp2
      go_ret
      exact ⟨_, U, rfl, by rw [HUL.out]; omega, by rw [HUL.out]; omega, H3⟩
set_option maxRecDepth 100000 in
set_option maxHeartbeats 800000 in
theorem l2Shape_c {g : Nat} {l : List UInt8} {w0 w : World} {L : List Res} (H : Cur w0 w g l L) :
    Calls Tryz.prog 154 #[.pointer (some ⟨g, 0, none⟩)] w fun e w' => ∃ v s, e = .returned v ∧ 1 ≤ s.length ∧ s.length ≤ 7 ∧ Cur w0 w' g l (Res.row v 65 2 s.length (cc s) :: L) := by
  go_enter Tryz.func154, Tryz.ntmps154
  go_wp2_with fail
  refine (l1Below_c 7 H (by omega)).mono ?_
  rintro e w1 ⟨x, rfl, hx1, hx2, _, H1⟩
  obtain ⟨n, hn⟩ : ∃ n : Nat, (n : Int) = 1 + x := ⟨(1 + x).toNat, by omega⟩
  have hn7 : 1 ≤ n ∧ n ≤ 7 := by have := hx2 (by omega); omega
  have HN := Lib.hid hn
  clear hx1 hx2 H
  go_wp2_with fail
  rw [← HN.out]
  refine (l2Grow_c n hn7.1 hn7.2 H1).mono ?_
  rintro e w2 ⟨v, s, rfl, h1, h2, H2⟩
  clear H1
  go_wp2
  go_ret
  exact ⟨v, s, rfl, h1, h2, H2⟩
set_option maxRecDepth 100000 in
set_option maxHeartbeats 3200000 in
theorem l2Any_c {g : Nat} {l : List UInt8} {w0 w : World} {L : List Res} (H : Cur w0 w g l L) :
    Calls Tryz.prog 93 #[.pointer (some ⟨g, 0, none⟩)] w fun e w' => ∃ v s R, e = .returned v ∧ s.length ≤ 8 ∧ CellsBy R v s ∧ Cur w0 w' g l (R :: L) := by
  obtain ⟨i0, hi, hz0, hz1, hz2⟩ := info_parts infoCell
  go_enter Tryz.func93, Tryz.ntmps93
  go_wp2_with fail
  refine (l2Shape_c H).mono ?_
  rintro e w1 ⟨v, s, rfl, hs1, hs7, H1⟩
  clear H
  go_wp2_with fail
  refine (l1Below_c 12 H1 (by omega)).mono ?_
  rintro e w2 ⟨q, rfl, hq1, hq2, _, H2⟩
  clear H1 hq2
  obtain ⟨b, o, c, rfl, hc1, hc2, hbw⟩ := own_shape H2.sep.h0 (by omega)
  obtain ⟨rfl, _⟩ := own_blk H2.sep.h0
  by_cases h0 : q = 0
  · subst h0
    go_wp2_with fail
    refine (l1Below_c 9 H2 (by omega)).mono ?_
    rintro e w3 ⟨x, rfl, hx1, hx2, _, H3⟩
    have hx3 := hx2 (by omega)
    clear hx2
    go_wp2_with fail
    refine (l1Below_c 9 H3 (by omega)).mono ?_
    rintro e w4 ⟨y, rfl, hy1, hy2, _, H4⟩
    clear H3 hy2
    obtain ⟨B, cb, ci, ch, e1, e2, e3, e4, e5, HS⟩ := H4
    have HS' := HS.g1
    clear HS
    go_wp2_with (at_builtin; refine wpList_app rfl _ _ 24 rfl 65 i0 _ 2 16 Tryz.underlying24 hi hz0 hz1 hz2 rfl (by decide) _ _ _ rfl (HS'.alloc _) _ _ _ [.int .i64 (x - 1), .int .i64 y] rfl (Rd.fresh w4 _ #[.int .i64 (x - 1), .int .i64 y] 2 1 rfl) oc2 (by unfold maxLen; omega) (by omega) ?_; intro v5 w5 H5)
    clear HS'
    have hls : (s ++ [(⟨(x - 1), y⟩ : Cell)]).length = s.length + 1 := by simp
    have hcc : cc s ++ [Value.int .i64 (x - 1), .int .i64 y] = cc (s ++ [⟨(x - 1), y⟩]) := by rw [cc_append]; rfl
    rw [hcc, ← hls] at H5
    go_wp2
    go_ret
    exact ⟨_, _, _, rfl, by omega, CellsBy.row (by omega), B, cb, ci, ch, e1, e2, e3, e4, e5, H5.g1⟩
  · by_cases h1 : q = 1
    · subst h1
      go_wp2_with fail
      refine (l1Below_c 8 H2 (by omega)).mono ?_
      rintro e w3 ⟨x, rfl, hx1, hx2, _, H3⟩
      have hx3 := hx2 (by omega)
      clear hx2
      go_wp2_with fail
      refine (l1Below_c 8 H3 (by omega)).mono ?_
      rintro e w4 ⟨y, rfl, hy1, hy2, _, H4⟩
      clear H3 hy2
      obtain ⟨B, cb, ci, ch, e1, e2, e3, e4, e5, HS⟩ := H4
      have HS' := HS.g1
      clear HS
      go_wp2_with (at_builtin; refine wpList_app rfl _ _ 24 rfl 65 i0 _ 2 16 Tryz.underlying24 hi hz0 hz1 hz2 rfl (by decide) _ _ _ rfl (HS'.alloc _) _ _ _ [.int .i64 x, .int .i64 y] rfl (Rd.fresh w4 _ #[.int .i64 x, .int .i64 y] 2 1 rfl) oc2 (by unfold maxLen; omega) (by omega) ?_; intro v5 w5 H5)
      clear HS'
      have hls : (s ++ [(⟨x, y⟩ : Cell)]).length = s.length + 1 := by simp
      have hcc : cc s ++ [Value.int .i64 x, .int .i64 y] = cc (s ++ [⟨x, y⟩]) := by rw [cc_append]; rfl
      rw [hcc, ← hls] at H5
      have HSC := Lib.hid (spec_sort_c w5 (CellsBy.row (by omega) w5 0 H5.h0 (fun _ _ => Nat.zero_le _)) (by omega))
      obtain ⟨S, hS⟩ : ∃ S, S = sortC (s ++ [(⟨x, y⟩ : Cell)]) := ⟨_, rfl⟩
      have hSl : S.length ≤ 8 := by rw [hS]; have := sortC_len (s := s ++ [(⟨x, y⟩ : Cell)]); omega
      rw [← hS] at HSC
      clear hS hcc
      obtain ⟨A5, c5, rfl, _, _, _⟩ := Res.row_at H5.h0
      rw [hls] at HSC ⊢
      go_wp2_with fail
      refine (HSC.out).mono ?_
      rintro e w6 ⟨v6, rfl, o6, b6⟩
      have H6 := H5.oiNew b6 o6
      clear H5 o6 b6
      go_wp2
      go_ret
      exact ⟨_, _, _, rfl, by omega, CellsBy.row (by omega), B, cb, ci, ch, e1, e2, e3, e4, e5, H6.g2.onTail (L' := Res.row v6 65 2 S.length (cc S) :: L) (by intro q; simp only [List.mem_cons]; grind) (H6.g1.drop.g1.drop)⟩
    · by_cases h2 : q = 2
      · subst h2
        by_cases hc : c = 1
        · subst hc
          go_wp2
          go_ret
          exact ⟨_, s.drop 1, _, rfl, by rw [List.length_drop]; omega, CellsBy.tail1 (s := s) (by omega), H2⟩
        · go_wp2
          go_ret
          exact ⟨_, s.drop 1, _, rfl, by rw [List.length_drop]; omega, CellsBy.tail (s := s) (by omega) (by omega), H2⟩
      · by_cases h3 : q = 3
        · subst h3
          have H3 := H2.map (fun X h => (h.rowBox 3 #[.int .i64 (-1), .int .i64 8, .int .i64 9223372036854775807] 1 3 rfl (by decide)).g1)
          clear H2
          go_wp2_with fail
          refine (l1Pick_c (n := 3) (b := w2.heap.size) (xs := [-1, 8, 9223372036854775807]) rfl (by omega) (by omega) H3).mono ?_
          rintro e w5 ⟨x, rfl, hx, H5⟩
          have H6 := H5.map (fun X h => h.g1.drop)
          clear H3 H5 hx
          obtain ⟨d, t, rfl⟩ : ∃ d t, s = d :: t := by
            cases s with
            | nil => simp at hs1
            | cons d t => exact ⟨d, t, rfl⟩
          obtain ⟨r0, r1⟩ := own_cell2 (j := 0) (u := d) H6.sep.h0 rfl
          have fr := own_free H6.sep.h0 0
          simp only [Nat.zero_mul, Nat.add_zero, Nat.zero_add] at r0 r1 fr
          have H7 := H6.map (fun X h => (h.g1.setRow (j := 0) (by rw [cc_length]; omega) (.int .i64 x)).g1)
          have hcc : (cc (d :: t)).set 0 (.int .i64 x) = cc (⟨x, d.y⟩ :: t) := rfl
          rw [hcc] at H7
          simp only [Nat.add_zero] at H7
          obtain ⟨n, hn⟩ : ∃ n, n = (d :: t).length := ⟨_, rfl⟩
          have hn2 : (({ x := x, y := d.y } : Cell) :: t).length = n := hn.symm
          rw [← hn] at H7 hs1 hs7 ⊢
          have h0n : (0 : Int) < (n : Int) := by omega
          have HN := Lib.hid hn2
          clear hn hn2 H6 hcc
          go_wp2
          go_ret
          exact ⟨_, ⟨x, d.y⟩ :: t, _, rfl, by rw [HN.out]; omega, CellsBy.row (by rw [HN.out]; omega), by rw [HN.out]; exact H7⟩
        · have b0 : (q == 0) = false := by simp [h0]
          have b1 : (q == 1) = false := by simp [h1]
          have b2 : (q == 2) = false := by simp [h2]
          have b3 : (q == 3) = false := by simp [h3]
          go_wp2
          go_ret
          exact ⟨_, s, _, rfl, by omega, CellsBy.row (by omega), H2⟩
end Go.Proofs.YtppbkiajcpdkiaaGreatDoor

namespace Go.Proofs.YtppbkiajcpdkiaaGreatDoor
open Go.RowKit

theorem shp_srt {s : List Cell} (h : isShape s = true) : Srt s := List.pairwise_iff_getElem.2 fun _ j hi hj hij => shp_pair h (List.getElem?_eq_getElem hi) j hij (List.getElem?_eq_getElem hj)
theorem srt_corner {s : List Cell} (h : Srt s) : Srt (corner s) := List.pairwise_map.2 (List.Pairwise.imp (fun {a b} hab => by rw [bef_iff] at hab ⊢; simp only; omega) h)
theorem sort_shp {s : List Cell} (h : isShape s = true) : sortC s = s := sortC_is (shp_srt h) fun _ => Iff.rfl
/-- a list that is drawn: in order, on the board -/
structure Grd (D : List Cell) : Prop where
  srt : Srt D
  on : ∀ c ∈ D, On c
  len : 1 ≤ D.length ∧ D.length ≤ 8
theorem grd_corner {s : List Cell} (h : isShape s = true) : Grd (corner s) := ⟨srt_corner (shp_srt h), fun _ hc => corner_on h hc, by unfold corner; rw [shift_length]; exact shp_len h⟩
/-- the text of row k -/
def rowF (D : List Cell) (k : Nat) : List UInt8 := D.foldl (fun t c => if c.y = (k : Int) then t ++ (List.replicate (c.x.toNat - t.length) 46 ++ [35]) else t) []
theorem rowF_take {D : List Cell} {i k : Nat} {c : Cell} (h : D[i]? = some c) : rowF (D.take (i + 1)) k = if c.y = (k : Int) then rowF (D.take i) k ++ (List.replicate (c.x.toNat - (rowF (D.take i) k).length) 46 ++ [35]) else rowF (D.take i) k := by
  have : D.take (i + 1) = D.take i ++ [c] := by rw [List.take_add_one, h]; rfl
  unfold rowF
  rw [this, List.foldl_append]
  rfl
theorem rowF_len {D : List Cell} (hD : Grd D) : ∀ (i k : Nat), i ≤ D.length → (rowF (D.take i) k).length = 0 ∨ ∃ j c, j < i ∧ D[j]? = some c ∧ c.y = (k : Int) ∧ ((rowF (D.take i) k).length : Int) = c.x + 1
  | 0, _, _ => .inl rfl
  | i + 1, k, hi => by
    obtain ⟨c, hc⟩ : ∃ c, D[i]? = some c := ⟨D[i], List.getElem?_eq_getElem (by omega)⟩
    have ih := rowF_len hD i k (by omega)
    have hon := hD.on c (List.mem_of_getElem? hc)
    unfold On at hon
    rw [rowF_take hc]
    split
    · rename_i hy
      refine .inr ⟨i, c, by omega, hc, hy, ?_⟩
      have hle : ((rowF (D.take i) k).length : Int) ≤ c.x := by
        rcases ih with h | ⟨j, d, hj, hd, hdy, hl⟩
        · omega
        · obtain ⟨hj', rfl⟩ := List.getElem?_eq_some_iff.1 hd
          obtain ⟨hi', rfl⟩ := List.getElem?_eq_some_iff.1 hc
          have := bef_iff.1 (List.pairwise_iff_getElem.1 hD.srt j i hj' hi' hj)
          omega
      simp only [List.length_append, List.length_replicate, List.length_cons, List.length_nil]
      omega
    · rcases ih with h | ⟨j, d, hj, hd, hdy, hl⟩
      · exact .inl h
      · exact .inr ⟨j, d, by omega, hd, hdy, hl⟩
/-- the next cell lies behind its row's text -/
theorem rowF_le {D : List Cell} (hD : Grd D) {i k : Nat} {c : Cell} (hc : D[i]? = some c) (hk : c.y = (k : Int)) : (rowF (D.take i) k).length ≤ c.x.toNat := by
  have hi := (List.getElem?_eq_some_iff.1 hc).1
  rcases rowF_len hD i k (by omega) with h | ⟨j, d, hj, hd, hdy, hl⟩
  · omega
  · obtain ⟨hj', rfl⟩ := List.getElem?_eq_some_iff.1 hd
    obtain ⟨hi', rfl⟩ := List.getElem?_eq_some_iff.1 hc
    have := bef_iff.1 (List.pairwise_iff_getElem.1 hD.srt j i hj' hi' hj)
    omega
theorem rowF_8 {D : List Cell} (hD : Grd D) {i k : Nat} (hi : i ≤ D.length) : (rowF (D.take i) k).length ≤ 8 := by
  rcases rowF_len hD i k hi with h | ⟨j, d, hj, hd, hdy, hl⟩
  · omega
  · have := hD.on d (List.mem_of_getElem? hd)
    unfold On at this
    omega
theorem rowF_none {k : Nat} : ∀ {B : List Cell} {t : List UInt8}, (∀ c ∈ B, c.y ≠ (k : Int)) → B.foldl (fun t c => if c.y = (k : Int) then t ++ (List.replicate (c.x.toNat - t.length) 46 ++ [35]) else t) t = t
  | [], _, _ => rfl
  | c :: B, t, h => by
    rw [List.foldl_cons, if_neg (h c (by simp))]
    exact rowF_none fun d hd => h d (by simp [hd])
/-- the rows up to y, with strokes between them -/
def txtF (f : Nat → List UInt8) : Nat → List UInt8
  | 0 => f 0
  | y + 1 => txtF f y ++ 47 :: f (y + 1)
theorem txtF_len {f : Nat → List UInt8} (h : ∀ k, (f k).length ≤ 8) : ∀ y, (txtF f y).length ≤ 9 * y + 8
  | 0 => h 0
  | y + 1 => by
    have := txtF_len h y
    have := h (y + 1)
    rw [txtF, List.length_append, List.length_cons]
    omega
theorem txtF_next {f : Nat → List UInt8} {y : Nat} (h : f (y + 1) = []) : txtF f (y + 1) = txtF f y ++ [47] := by rw [txtF, h]
theorem txtF_same {f g : Nat → List UInt8} : ∀ {y : Nat}, (∀ k, k ≤ y → g k = f k) → txtF g y = txtF f y
  | 0, h => h 0 (Nat.le_refl _)
  | y + 1, h => by rw [txtF, txtF, h _ (Nat.le_refl _), txtF_same fun k hk => h k (by omega)]
theorem txtF_add {f g : Nat → List UInt8} {y : Nat} {e : List UInt8} (h : ∀ k, k < y → g k = f k) (hy : g y = f y ++ e) : txtF g y = txtF f y ++ e := by
  cases y with
  | zero => exact hy
  | succ y => rw [txtF, txtF, hy, txtF_same (f := f) (g := g) fun k hk => h k (by omega)]; simp
/-- a shape's text -/
def fmtSh (s : List Cell) : ByteArray := tb (txtF (rowF (corner s)) (htOf s - 1).toNat)
set_option maxRecDepth 100000 in
set_option maxHeartbeats 3200000 in
theorem spec_fmtSh_c {v : Value} {s : List Cell} (w : World) (h : CellsRd w 0 w.heap.size v s) (hsh : isShape s = true) :
    Calls Tryz.prog 203 #[v] w fun e w' => e = .returned (.string (fmtSh s)) ∧ Below w.heap.size w w' := by
  have HC := Lib.hid (cornerShape_c w h hsh)
  obtain ⟨A, c, rfl, _, _⟩ := id h
  have HG := Lib.hid (grd_corner hsh)
  have HSH := Lib.hid hsh
  obtain ⟨D, hD⟩ : ∃ D, D = corner s := ⟨_, rfl⟩
  rw [← hD] at HC HG
  have HR : Hid (fmtSh s = tb (txtF (rowF D) (htOf s - 1).toNat)) := Lib.hid (by rw [hD]; rfl)
  have HDD := Lib.hid hD
  obtain ⟨R, hR⟩ : ∃ R, R = fmtSh s := ⟨_, rfl⟩
  rw [← hR] at HR ⊢
  clear h hsh hD hR
  go_enter Tryz.func203, Tryz.ntmps203
  go_wp2_with fail
  refine (HC.out).mono ?_
  rintro e w1 ⟨v1, rfl, o1, b1⟩
  obtain ⟨A1, c1, rfl, _, hr⟩ := o1.rd
  obtain ⟨n, hn⟩ : ∃ n, n = D.length := ⟨_, rfl⟩
  rw [← hn] at hr ⊢
  have HN := Lib.hid hn
  obtain ⟨b, off, hA1, _, hb, hc⟩ := hr.2 (by have := HG.out.len; omega)
  subst hA1
  have HCE := Lib.hid hc
  have hn8 : n ≤ 8 := by have := HG.out.len; omega
  have hn1 : 1 ≤ n := by have := HG.out.len; omega
  clear hr hc hn o1 HC
  go_wp2
  go_loopw [4, 5, 6, 7] (fun tv xv yv iv wx => ∃ (i x y : Nat) (T : List UInt8), i ≤ n ∧ iv = .int .i64 i ∧ xv = .int .i64 x ∧ yv = .int .i64 y ∧ tv = .string (tb T) ∧ x ≤ 8 ∧ y ≤ 7 ∧ Hid (T = txtF (rowF (D.take i)) y) ∧ Hid (x = (rowF (D.take i) y).length) ∧ Hid (∀ c ∈ D.take i, c.y ≤ (y : Int)) ∧ Hid (∀ c, D[i]? = some c → (y : Int) ≤ c.y) ∧ Hid (i = n → (y : Int) = htOf s - 1) ∧ w1 = wx) (fun _ _ _ iv _ => n - (intOf iv).toNat)
  case atStart => exact ⟨0, 0, 0, [], Nat.zero_le _, rfl, rfl, rfl, rfl, by omega, by omega, Lib.hid rfl, Lib.hid rfl, Lib.hid (fun c hc => by simp at hc), Lib.hid (fun c hc => by have := HG.out.on c (List.mem_of_getElem? hc); unfold On at this; omega), Lib.hid (fun h => by omega), rfl⟩
  case round =>
    obtain ⟨i, x, y, T, hi, rfl, rfl, rfl, rfl, hx8, hy7, HT, HX, HY, HYN, HE, rfl⟩ := hrel
    by_cases hlt : i < n
    · have hlti : (i : Int) < (n : Int) := by omega
      obtain ⟨d, hd⟩ : ∃ d, D[i]? = some d := ⟨D[i]'(by rw [← HN.out]; exact hlt), List.getElem?_eq_getElem _⟩
      have hon := HG.out.on d (List.mem_of_getElem? hd)
      unfold On at hon
      have hdy := HYN.out d hd
      obtain ⟨cX, hcX⟩ : ∃ m : Nat, d.x = (m : Int) := ⟨d.x.toNat, by omega⟩
      obtain ⟨cY, hcY⟩ : ∃ m : Nat, d.y = (m : Int) := ⟨d.y.toNat, by omega⟩
      have x1 := HCE.out _ _ (cc_at hd).1
      have x2 : w1.cell? ⟨b, off + i * 2 + 1, none⟩ = some (.int .i64 d.y) := by rw [Nat.add_assoc]; exact HCE.out _ _ (cc_at hd).2
      rw [hcX] at x1
      rw [hcY] at x2
      have hyc : y ≤ cY := by omega
      have hcX7 : cX ≤ 7 := by omega
      have hcY7 : cY ≤ 7 := by omega
      have HD := Lib.hid hd
      have HCX := Lib.hid hcX
      have HCY := Lib.hid hcY
      clear hd hon hdy hcX hcY HYN HE
      go_wp2
      go_loopw [4, 5, 6] (fun tv xv yv wx => ∃ (x y : Nat) (T : List UInt8), xv = .int .i64 x ∧ yv = .int .i64 y ∧ tv = .string (tb T) ∧ x ≤ 8 ∧ y ≤ cY ∧ Hid (T = txtF (rowF (D.take i)) y) ∧ Hid (x = (rowF (D.take i) y).length) ∧ Hid (∀ c ∈ D.take i, c.y ≤ (y : Int)) ∧ w1 = wx) (fun _ _ yv _ => cY - (intOf yv).toNat)
      case atStart => exact ⟨x, y, T, rfl, rfl, rfl, hx8, hyc, HT, HX, HY, rfl⟩
      case round =>
        clear HT HX HY hx8 hyc hy7
        obtain ⟨x, y, T, rfl, rfl, rfl, hx8, hyc, HT, HX, HY, rfl⟩ := hrel
        have hTl : (tb T).size ≤ 80 := by
          rw [tb_size, HT.out]
          have := txtF_len (f := rowF (D.take i)) (fun k => rowF_8 HG.out (by rw [← HN.out]; omega)) y
          omega
        have hs1 : ¬ 9223372036854775807 < (tb T).size + 1 := by omega
        by_cases hy : y < cY
        · have hyi : (y : Int) < (cY : Int) := by omega
          have HT2 : Hid (T ++ [47] = txtF (rowF (D.take i)) (y + 1)) := Lib.hid (by
            rw [HT.out, txtF_next (rowF_none fun c hc => by have := HY.out c hc; omega)])
          have HX2 : Hid (0 = (rowF (D.take i) (y + 1)).length) := Lib.hid (by
            have : rowF (D.take i) (y + 1) = [] := rowF_none fun c hc => by have := HY.out c hc; omega
            rw [this]; rfl)
          have HY2 : Hid (∀ c ∈ D.take i, c.y ≤ ((y + 1 : Nat) : Int)) := Lib.hid fun c hc => by have := HY.out c hc; omega
          go_wp2
          go_roundw
          case rel => exact ⟨0, y + 1, T ++ [47], rfl, by go_num, congrArg Value.string (tb_app (a := T) (b := [47])), by omega, by omega, HT2, HX2, HY2, trivial⟩
          case measure => simp [intOf]; omega
        · obtain rfl : y = cY := by omega
          have HXL : Hid (x ≤ cX) := Lib.hid (by
            have := rowF_le HG.out HD.out HCY.out
            rw [← HX.out] at this
            have := HCX.out
            omega)
          have hxl := HXL.out
          clear hs1
          go_wp2
          go_loopw [4, 5] (fun tv xv wx => ∃ (e : Nat), xv = .int .i64 ((x + e : Nat) : Int) ∧ tv = .string (tb (T ++ List.replicate e 46)) ∧ x + e ≤ cX ∧ w1 = wx) (fun _ xv _ => cX - (intOf xv).toNat)
          case atStart => exact ⟨0, rfl, by simp, by omega, rfl⟩
          case round =>
            obtain ⟨e, rfl, rfl, hxe, rfl⟩ := hrel
            have hT2 : (tb (T ++ List.replicate e 46)).size ≤ 90 := by
              rw [tb_size] at hTl ⊢
              rw [List.length_append, List.length_replicate]
              omega
            have hs1 : ¬ 9223372036854775807 < (tb (T ++ List.replicate e 46)).size + 1 := by omega
            by_cases hx : x + e < cX
            · have hxi : ((x + e : Nat) : Int) < (cX : Int) := by omega
              have HS : Hid (tb (T ++ List.replicate e 46) ++ ⟨#[46]⟩ = tb (T ++ List.replicate (e + 1) 46)) := Lib.hid (by
                rw [List.replicate_succ', ← List.append_assoc]
                exact tb_app (b := [46]))
              generalize tb (T ++ List.replicate e 46) = U at *
              obtain ⟨z, hz⟩ : ∃ z : Nat, z = x + e := ⟨_, rfl⟩
              rw [← hz] at hxi hxe hx ⊢
              have HZ := Lib.hid hz
              clear hz
              go_wp2
              go_roundw
              case rel => exact ⟨e + 1, by have := HZ.out; go_num, by rw [HS.out], by have := HZ.out; omega, trivial⟩
              case measure => simp [intOf]; omega
            · have hze : x + e = cX := by omega
              have HNT : Hid (T ++ List.replicate e 46 ++ [35] = txtF (rowF (D.take (i + 1))) y) := Lib.hid (by
                have h1 := rowF_take (k := y) HD.out
                rw [if_pos HCY.out] at h1
                have h2 := txtF_add (f := rowF (D.take i)) (g := rowF (D.take (i + 1))) (y := y) (e := List.replicate (d.x.toNat - (rowF (D.take i) y).length) 46 ++ [35]) (fun k hk => by
                  rw [rowF_take HD.out, if_neg (by have := HCY.out; omega)]) h1
                rw [h2, ← HT.out, ← HX.out]
                have : d.x.toNat - x = e := by have := HCX.out; omega
                rw [this, List.append_assoc])
              have HNX : Hid (cX + 1 = (rowF (D.take (i + 1)) y).length) := Lib.hid (by
                rw [rowF_take HD.out, if_pos HCY.out, List.length_append, List.length_append, List.length_replicate, ← HX.out]
                have := HCX.out
                simp only [List.length_cons, List.length_nil]
                omega)
              have HNY : Hid (∀ c ∈ D.take (i + 1), c.y ≤ (y : Int)) := Lib.hid fun c hc => by
                rw [List.take_add_one, HD.out] at hc
                rcases List.mem_append.1 hc with hc | hc
                · exact HY.out c hc
                · simp at hc
                  subst hc
                  have := HCY.out
                  omega
              have HNN : Hid (∀ c, D[i + 1]? = some c → (y : Int) ≤ c.y) := Lib.hid fun c hc => by
                obtain ⟨hi', rfl⟩ := List.getElem?_eq_some_iff.1 hc
                obtain ⟨hi2, hdd⟩ := List.getElem?_eq_some_iff.1 HD.out
                have := bef_iff.1 (List.pairwise_iff_getElem.1 HG.out.srt i (i + 1) hi2 hi' (by omega))
                rw [hdd] at this
                have := HCY.out
                omega
              have HNE : Hid (i + 1 = n → (y : Int) = htOf s - 1) := Lib.hid fun hin => by
                have hdm : d ∈ corner s := by rw [← HDD.out]; exact List.mem_of_getElem? HD.out
                have h1 := (corner_lt hdm).2
                have h2 := mxTo_le (f := (·.y)) (l := corner s) (m := (y : Int) + 1) (fun c hc => by
                  rw [← HDD.out] at hc
                  have : D.take (i + 1) = D := by rw [hin, HN.out, List.take_length]
                  have := HNY.out c (by rw [this]; exact hc)
                  omega) (by omega) (corner s).length (Nat.le_refl _)
                have := HCY.out
                unfold htOf at *
                omega
              have HS : Hid (tb (T ++ List.replicate e 46) ++ ⟨#[35]⟩ = tb (T ++ List.replicate e 46 ++ [35])) := Lib.hid (tb_app (b := [35]))
              generalize tb (T ++ List.replicate e 46) = U at *
              rw [hze]
              clear hze
              go_wp2
              go_roundw
              case rel => exact ⟨i + 1, cX + 1, y, _, by omega, by go_num, by go_num, rfl, by rw [HS.out], by omega, by omega, HNT, HNX, HNY, HNN, HNE, trivial⟩
              case measure => simp [intOf]; omega
    · obtain rfl : i = n := by omega
      have HRR : Hid (R = tb T) := Lib.hid (by
        have h1 := HE.out rfl
        rw [HR.out, HT.out, HN.out, List.take_length]
        congr 2
        omega)
      go_wp2
      go_ret
      exact ⟨by rw [HRR.out]; rfl, b1⟩
end Go.Proofs.YtppbkiajcpdkiaaGreatDoor

namespace Go.Proofs.YtppbkiajcpdkiaaGreatDoor
open Go.RowKit

end Go.Proofs.YtppbkiajcpdkiaaGreatDoor

namespace Go.Proofs.YtppbkiajcpdkiaaGreatDoor
open Go.RowKit

/-! plain: a shape's text is read -/
def psStep (s : List Cell × Nat × Nat) (c : UInt8) : List Cell × Nat × Nat :=
  if c = 35 then (s.1 ++ [⟨(s.2.1 : Int), (s.2.2 : Int)⟩], s.2.1 + 1, s.2.2) else if c = 46 then (s.1, s.2.1 + 1, s.2.2) else (s.1, 0, s.2.2 + 1)
def psTo (t : List UInt8) (k : Nat) : List Cell × Nat × Nat := (t.take k).foldl psStep ([], 0, 0)
def psS (t : List UInt8) : List Cell := (psTo t t.length).1
def psC (c : UInt8) : Prop := c = 35 ∨ c = 46 ∨ c = 47
instance (c : UInt8) : Decidable (psC c) := by unfold psC; infer_instance
theorem psTo_succ {t : List UInt8} {k : Nat} {c : UInt8} (h : t[k]? = some c) : psTo t (k + 1) = psStep (psTo t k) c := by
  unfold psTo
  rw [List.take_add_one, h, List.foldl_append]
  rfl
theorem psTo_bd {t : List UInt8} : ∀ k, k ≤ t.length → (psTo t k).1.length ≤ k ∧ (psTo t k).2.1 ≤ k ∧ (psTo t k).2.2 ≤ k
  | 0, _ => by simp [psTo]
  | k + 1, h => by
    have ih := psTo_bd (t := t) k (by omega)
    rw [psTo_succ (List.getElem?_eq_getElem (show k < t.length by omega))]
    unfold psStep
    split
    · simp only [List.length_append, List.length_singleton]; omega
    · split
      · simp only []; omega
      · simp only []; omega
/-- the twelve names and their texts -/
def names12 : List (ByteArray × ByteArray) := [(⟨#[73, 50]⟩, ⟨#[35, 35]⟩), (⟨#[73, 51]⟩, ⟨#[35, 35, 35]⟩), (⟨#[86, 51]⟩, ⟨#[35, 35, 47, 35]⟩), (⟨#[73, 52]⟩, ⟨#[35, 35, 35, 35]⟩), (⟨#[76, 52]⟩, ⟨#[35, 35, 35, 47, 35]⟩), (⟨#[84, 52]⟩, ⟨#[35, 35, 35, 47, 46, 35]⟩),
  (⟨#[83, 52]⟩, ⟨#[46, 35, 35, 47, 35, 35]⟩), (⟨#[79, 52]⟩, ⟨#[35, 35, 47, 35, 35]⟩), (⟨#[88, 53]⟩, ⟨#[46, 35, 47, 35, 35, 35, 47, 46, 35]⟩), (⟨#[80, 53]⟩, ⟨#[35, 35, 47, 35, 35, 47, 35]⟩), (⟨#[87, 53]⟩, ⟨#[35, 47, 35, 35, 47, 46, 35, 35]⟩), (⟨#[85, 53]⟩, ⟨#[35, 46, 35, 47, 35, 35, 35]⟩)]
theorem names_ok : ∀ p ∈ names12, (∀ c ∈ p.2.data.toList, psC c) ∧ isShape (psS p.2.data.toList) = true ∧ fmtSh (psS p.2.data.toList) = p.2 ∧ 1 ≤ p.2.data.size ∧ p.2.data.size ≤ 70 := by
  intro p hp
  simp only [names12, List.mem_cons, List.not_mem_nil, or_false] at hp
  rcases hp with rfl | rfl | rfl | rfl | rfl | rfl | rfl | rfl | rfl | rfl | rfl | rfl <;> exact ⟨by decide +kernel, by decide +kernel, by decide +kernel, by decide, by decide⟩
set_option maxRecDepth 100000 in
theorem l4Names_c (w : World) : Calls Tryz.prog 152 #[] w fun e w' => ∃ v, e = .returned v ∧ Sep w w' [Res.row v 9 1 12 (names12.map fun p => .string p.1)] := by
  go_enter Tryz.func152, Tryz.ntmps152
  go_wp2
  go_ret
  exact ⟨_, rfl, (Sep.start w).rowBox 9 #[.string ⟨#[73, 50]⟩, .string ⟨#[73, 51]⟩, .string ⟨#[86, 51]⟩, .string ⟨#[73, 52]⟩, .string ⟨#[76, 52]⟩, .string ⟨#[84, 52]⟩, .string ⟨#[83, 52]⟩, .string ⟨#[79, 52]⟩, .string ⟨#[88, 53]⟩, .string ⟨#[80, 53]⟩, .string ⟨#[87, 53]⟩, .string ⟨#[85, 53]⟩] 1 12 rfl (by decide)⟩
set_option maxRecDepth 100000 in
set_option maxHeartbeats 1600000 in
theorem spec_parse_c {T : List UInt8} (w : World) (hc : ∀ c ∈ T, psC c) (hs : isShape (psS T) = true) (hf : fmtSh (psS T) = tb T) (h1 : 1 ≤ T.length) (h70 : T.length ≤ 70) :
    Calls Tryz.prog 184 #[.string (tb T)] w fun e w' => ∃ v, e = .returned (.tuple #[v, .bool true]) ∧ CellsIn w' w.heap.size w'.heap.size v (psS T) ∧ Below w.heap.size w w' := by
  obtain ⟨i0, hi, hz0, hz1, hz2⟩ := info_parts infoCell
  have H := (Sep.start w).rowBox 65 #[] 2 0 rfl (by decide)
  have hsz : (tb T).size = T.length := tb_size
  obtain ⟨B, hB⟩ : ∃ B, B = tb T := ⟨_, rfl⟩
  rw [← hB] at hsz hf ⊢
  have HB := Lib.hid hB
  clear hB
  go_enter Tryz.func184, Tryz.ntmps184
  go_wp2
  go_loopw [4, 5, 6, 7] (fun ov xv yv iv wr => ∃ k : Nat, k ≤ T.length ∧ iv = .int .i64 k ∧ xv = .int .i64 ((psTo T k).2.1 : Nat) ∧ yv = .int .i64 ((psTo T k).2.2 : Nat) ∧ Sep w wr [Res.row ov 65 2 (psTo T k).1.length (cc (psTo T k).1)]) (fun _ _ _ iv _ => T.length - (intOf iv).toNat)
  case atStart => exact ⟨0, Nat.zero_le _, rfl, rfl, rfl, H⟩
  case round =>
    clear H
    obtain ⟨k, hk, rfl, rfl, rfl, H⟩ := hrel
    by_cases hlt : k < T.length
    · have hbd := psTo_bd k hk
      have hst := psTo_succ (List.getElem?_eq_getElem hlt)
      have hcc := hc _ (List.getElem_mem hlt)
      have hk2 : k < B.size := by omega
      have hBk : B[k]'hk2 = T[k] := by
        have hb := HB.out
        subst hb
        rfl
      generalize T[k] = c at *
      unfold psStep at hst
      generalize (psTo T k).1 = L at *
      generalize (psTo T k).2.1 = x at *
      generalize (psTo T k).2.2 = y at *
      have hL71 : L.length ≤ 70 := by omega
      have hx71 : x ≤ 70 := by omega
      have hy71 : y ≤ 70 := by omega
      have HST := Lib.hid hst
      clear hst hbd
      obtain ⟨A, ca, rfl, hrl, hrm, _⟩ := Res.row_at H.h0
      rcases hcc with rfl | rfl | rfl
      · have hbn : ((B[k]'hk2).toNat : Int) = 35 := by rw [hBk]; rfl
        have e : Hid (psTo T (k + 1) = (L ++ [⟨(x : Int), (y : Int)⟩], x + 1, y)) := Lib.hid (by rw [HST.out]; rfl)
        clear hBk
        go_wp2_with (at_builtin; refine wpList_app rfl _ _ 24 rfl 65 i0 _ 2 16 Tryz.underlying24 hi hz0 hz1 hz2 rfl (by decide) _ _ _ rfl (H.alloc _) _ _ _ [.int .i64 (x : Int), .int .i64 (y : Int)] rfl (Rd.fresh wr _ #[.int .i64 (x : Int), .int .i64 (y : Int)] 2 1 rfl) oc2 (by unfold maxLen; omega) (by omega) ?_; intro v' w4 H4)
        have H5 : Sep w w4 [Res.row v' 65 2 (psTo T (k + 1)).1.length (cc (psTo T (k + 1)).1)] := by
          rw [e.out]
          simp only [cc_append, List.length_append]
          exact H4
        clear H4 H
        go_wp2
        go_roundw
        case rel => exact ⟨k + 1, by omega, by go_num, by rw [e.out]; go_num, by rw [e.out], H5⟩
        case measure => simp [intOf]; omega
      · have hbn : ((B[k]'hk2).toNat : Int) = 46 := by rw [hBk]; rfl
        have e : Hid (psTo T (k + 1) = (L, x + 1, y)) := Lib.hid (by rw [HST.out]; rfl)
        clear hBk
        go_wp2
        go_roundw
        case rel => exact ⟨k + 1, by omega, by go_num, by rw [e.out]; go_num, by rw [e.out], by rw [e.out]; exact H⟩
        case measure => simp [intOf]; omega
      · have hbn : ((B[k]'hk2).toNat : Int) = 47 := by rw [hBk]; rfl
        have e : Hid (psTo T (k + 1) = (L, 0, y + 1)) := Lib.hid (by rw [HST.out]; rfl)
        clear hBk
        go_wp2
        go_roundw
        case rel => exact ⟨k + 1, by omega, by go_num, by rw [e.out]; go_num, by rw [e.out]; go_num, by rw [e.out]; exact H⟩
        case measure => simp [intOf]; omega
    · obtain rfl : k = T.length := by omega
      have hS : (psTo T T.length).1 = psS T := rfl
      rw [hS] at H
      have hB0 : ¬ B = ⟨#[]⟩ := fun e => by rw [e] at hsz; have : (0 : Nat) = T.length := hsz; omega
      have hB4 : ¬ B.toList = [] := fun e => by
        rw [Lib.toList_data] at e
        have h0 : B.data.toList.length = 0 := by rw [e]; rfl
        rw [Array.length_toList] at h0
        have h2 : B.data.size = T.length := hsz
        omega
      have hB5 : B.toList.isEmpty = false := by
        cases hb : B.toList with
        | nil => exact absurd hb hB4
        | cons _ _ => rfl
      have HF := Lib.hid hf
      obtain ⟨A, ca, rfl, hrl, hrm, _⟩ := Res.row_at H.h0
      clear hS hf
      go_wp2_with fail
      refine (spec_fmtSh_c wr (H.oi.sr.more (Nat.zero_le _) (Nat.le_refl _)) hs).mono ?_
      rintro e w3 ⟨rfl, b3⟩
      rw [HF.out]
      have H3 := H.step b3
      clear b3 H
      go_wp2
      exact bodyPost_ret (v := .tuple #[.slice A (psS T).length ca, .bool true]) (by simp [results, Tryz.results184, go_sem]) rfl ⟨_, rfl, H3.oi, H3.below⟩
end Go.Proofs.YtppbkiajcpdkiaaGreatDoor

namespace Go.Proofs.YtppbkiajcpdkiaaGreatDoor
open Go.RowKit

set_option maxRecDepth 100000 in
set_option maxHeartbeats 1600000 in
theorem pieceNamed_c (w : World) (p : ByteArray × ByteArray) (hp : p ∈ names12) :
    Calls Tryz.prog 153 #[.string p.1] w fun e w' => ∃ v, e = .returned (.tuple #[v, .bool true]) ∧ CellsIn w' w.heap.size w'.heap.size v (psS p.2.data.toList) ∧ Below w.heap.size w w' := by
  have HP : Hid (Calls Tryz.prog 184 #[.string p.2] w fun e w' => ∃ v, e = .returned (.tuple #[v, .bool true]) ∧ CellsIn w' w.heap.size w'.heap.size v (psS p.2.data.toList) ∧ Below w.heap.size w w') := Lib.hid (by
    obtain ⟨h1, h2, h3, h4, h5⟩ := names_ok p hp
    have e : tb p.2.data.toList = p.2 := rfl
    have := spec_parse_c (T := p.2.data.toList) w h1 h2 (by rw [e]; exact h3) (by rw [Array.length_toList]; exact h4) (by rw [Array.length_toList]; exact h5)
    rw [e] at this
    exact this)
  obtain ⟨S, hS⟩ : ∃ S, S = psS p.2.data.toList := ⟨_, rfl⟩
  rw [← hS] at HP ⊢
  clear hS
  simp only [names12, List.mem_cons, List.not_mem_nil, or_false] at hp
  rcases hp with rfl | rfl | rfl | rfl | rfl | rfl | rfl | rfl | rfl | rfl | rfl | rfl
  all_goals
    dsimp only at HP ⊢
    go_enter Tryz.func153, Tryz.ntmps153
    go_wp2_with fail
    refine (HP.out).mono ?_
    rintro e w3 ⟨v, rfl, o, b⟩
    go_wp2
    exact bodyPost_ret (v := .tuple #[v, .bool true]) (by simp [results, Tryz.results153, go_sem]) rfl ⟨_, rfl, o, b⟩
set_option maxRecDepth 100000 in
set_option maxHeartbeats 1600000 in
theorem l4Piece_c {g : Nat} {l : List UInt8} {w0 w : World} {L : List Res} (H : Cur w0 w g l L) :
    Calls Tryz.prog 92 #[.pointer (some ⟨g, 0, none⟩)] w fun e w' => ∃ v s, e = .returned v ∧ isShape s = true ∧ s.length ≤ 8 ∧ Cur w0 w' g l (Res.row v 65 2 s.length (cc s) :: L) := by
  go_enter Tryz.func92, Tryz.ntmps92
  go_wp2_with fail
  refine (l4Names_c w).mono ?_
  rintro e w1 ⟨v, rfl, h1⟩
  have H1 := H.map (fun X h => (h.oiNew h1.below h1.oi).g1)
  clear H
  obtain ⟨A, c, rfl, hrl, hrm, _⟩ := Res.row_at h1.h0
  clear h1
  go_wp2_with fail
  refine (l1Below_c 12 H1 (by omega)).mono ?_
  rintro e w2 ⟨x, rfl, hx0, hx1, _, H2⟩
  obtain ⟨k, rfl⟩ : ∃ k : Nat, x = (k : Int) := ⟨x.toNat, by omega⟩
  have hk : k < 12 := by have := hx1 (by omega); omega
  clear hx0 hx1 H1
  obtain ⟨A', c', e5, _, _, hrd⟩ := Res.row_at H2.sep.h0
  injection e5 with e5 e6 e7
  subst e5
  obtain ⟨b, off, p, rfl, _, hb, hla, q1⟩ := Rd.at1 (l := names12) (f := fun p : ByteArray × ByteArray => .string p.1) hrd hk
  have hp := List.mem_of_getElem? hla
  have HOK := Lib.hid (names_ok p hp)
  have HP := Lib.hid (pieceNamed_c w2 p hp)
  clear hla hrd
  obtain ⟨S, hS⟩ : ∃ S, S = psS p.2.data.toList := ⟨_, rfl⟩
  rw [← hS] at HP HOK
  clear hS hp
  go_wp2_with fail
  refine (HP.out).mono ?_
  rintro e w3 ⟨v, rfl, o3, b3⟩
  have H3 := H2.map (fun X h => (h.oiNew b3 o3).g1)
  clear H2 o3 b3 q1
  go_wp2
  go_ret
  exact ⟨_, S, rfl, HOK.out.2.1, (shp_len HOK.out.2.1).2, H3.map (fun X h => h.g2.drop)⟩
end Go.Proofs.YtppbkiajcpdkiaaGreatDoor

namespace Go.Proofs.YtppbkiajcpdkiaaGreatDoor
open Go.RowKit

/-- a drawn region: its box, its rows -/
def DrawnR (r : Reg) : Prop := 1 ≤ r.rows.length ∧ r.rows.length ≤ 20
set_option maxRecDepth 100000 in
set_option maxHeartbeats 3200000 in
theorem l6Any_c {g : Nat} {l : List UInt8} {w0 w : World} {L : List Res} (H : Cur w0 w g l L) :
    Calls Tryz.prog 50 #[.pointer (some ⟨g, 0, none⟩)] w fun e w' => ∃ (r : Reg) (A : Option Addr) (c : Nat), e = .returned (.agg #[.int .i64 r.w, .slice A r.rows.length c]) ∧ DrawnR r ∧
      Cur w0 w' g l (Res.row (.slice A r.rows.length c) 3 1 r.rows.length (ic r.rows) :: L) := by
  obtain ⟨j0, hj0, hy0, hy1, hy2⟩ := info_parts infoIntC
  have H0 := H.map (fun X h => (h.box 29 #[.int .i64 0, .slice none 0 0]).g1)
  clear H
  go_enter Tryz.func50, Tryz.ntmps50
  go_wp2_with fail
  obtain ⟨gz, hgz⟩ : ∃ gz : World, gz = w := ⟨_, rfl⟩
  subst hgz
  generalize gz.alloc (.cells #[.int .i64 0, .slice none 0 0] 29) = W at *
  refine (l6Draw_c H0).mono ?_
  rintro e w1 ⟨r, A, c, rfl, hv, H1⟩
  have H2 := H1.map (fun X h => (h.box 29 #[.int .i64 r.w, .slice A r.rows.length c]).g1)
  have hv3 := hv.2.2.1
  have hv4 := hv.2.2.2.1
  clear H0 H1
  go_wp2_with fail
  generalize w1.alloc (.cells #[.int .i64 r.w, .slice A r.rows.length c] 29) = w2 at *
  refine (l1Below_c 14 H2 (by omega)).mono ?_
  rintro e w3 ⟨q, rfl, hq1, hq2, _, H3⟩
  clear H2 hq2
  have HV := Lib.hid hv
  clear hv
  by_cases h0 : q = 0
  · subst h0
    have H4 := H3.map (fun X h => (h.rowBox 3 #[.int .i64 0, .int .i64 7, .int .i64 (-1), .int .i64 2] 1 4 rfl (by decide)).g1)
    go_wp2_with fail
    generalize w3.alloc (.cells #[.int .i64 0, .int .i64 7, .int .i64 (-1), .int .i64 2] 3) = w4 at *
    refine (l1Pick_c (n := 4) (xs := [0, 7, -1, 2]) rfl (by omega) (by omega) H4).mono ?_
    rintro e w5 ⟨x, rfl, hx, H5⟩
    have H6 := H5.map (fun X h => h.g1.drop)
    have x0 := H6.sep.h0.cell 0
    have f0 := H6.sep.h0.frozen 0
    simp at x0
    have H7 := H6.map (fun X h => (h.g1.set_ 0 (.int .i64 x)).p1)
    clear H3 H4 H5 H6 hx
    have z0 : (w5.setCell ⟨w1.heap.size, 0, none⟩ (.int .i64 x)).cell? ⟨gz.heap.size, 0, none⟩ = some (.int .i64 0) := H7.sep.h2.cell 0
    have z1 : (w5.setCell ⟨w1.heap.size, 0, none⟩ (.int .i64 x)).cell? ⟨gz.heap.size, 1, none⟩ = some (.slice none 0 0) := H7.sep.h2.cell 1
    have f0' := H7.sep.h2.frozen 0
    have f1' := H7.sep.h2.frozen 1
    have x0' : (w5.setCell ⟨w1.heap.size, 0, none⟩ (.int .i64 x)).cell? ⟨w1.heap.size, 0, none⟩ = some (.int .i64 (x)) := H7.sep.h0.cell 0
    have x1' : (w5.setCell ⟨w1.heap.size, 0, none⟩ (.int .i64 x)).cell? ⟨w1.heap.size, 1, none⟩ = some (.slice A r.rows.length c) := H7.sep.h0.cell 1
    have He := (H7.sep.g2.set_ 0 (.int .i64 (x))).set_ 1 (.slice A r.rows.length c)
    have u0 := He.h0.cell 0
    have u1 := He.h0.cell 1
    simp at u0 u1
    have Hf := H7.map (fun X h => ((h.g3.set_ 0 (.int .i64 (x))).set_ 1 (.slice A r.rows.length c)).drop.g1.drop)
    clear He
    go_wp2
    exact bodyPost_ret (v := .agg #[.int .i64 x, .slice A r.rows.length c]) (by simp [results, Tryz.results50, go_sem, u0, u1]) rfl ⟨⟨x, r.rows⟩, A, c, rfl, ⟨hv3, by simp only; omega⟩, Hf⟩
  · by_cases h1 : q = 1
    · subst h1
      have x0 := H3.sep.h0.cell 0
      have x1 := H3.sep.h0.cell 1
      simp at x0 x1
      obtain ⟨bo, oo, co, he, _, _, hbo⟩ := own_shape H3.sep.h1 (by omega)
      injection he with he1 _ he3
      subst he1 he3
      have hl0 : (0 : Int) < (r.rows.length : Int) := by omega
      have hgb := H3.sep.h0.lt
      go_wp2_with fail
      go_region_with ((first
        | (go_at_call 94; refine (l1Pick_c (n := 3) (b := w3.heap.size) (xs := [-1, 64, 9223372036854775807]) rfl (by omega) (by omega) (by exact H3.map (fun X h => (h.rowBox 3 #[.int .i64 (-1), .int .i64 64, .int .i64 9223372036854775807] 1 3 rfl (by decide)).drew.g1))).mono ?_; rintro e w5 ⟨x, rfl, hx, H5⟩; have H6 := H5.map (fun X h => h.g1.drop); have r0 := own_cell1 H6.sep.h1 (List.getElem?_eq_getElem (show 0 < r.rows.length by omega)); have fr := own_free H6.sep.h1 0; have x0' := H6.sep.h0.cell 0; have x1' := H6.sep.h0.cell 1; simp at x0' x1'; simp only [Nat.add_zero] at r0 fr)))
      all_goals
        have H7 := H6.map (fun X h => (h.g2.setRow (j := 0) (by rw [ic_length]; omega) (.int .i64 x)).p2)
        rw [ic_set] at H7
        simp only [Nat.add_zero] at H7
        clear x0' x1' r0 fr H6 H5 hx x0 x1
        have z0 : (w5.setCell ⟨bo, oo, none⟩ (.int .i64 x)).cell? ⟨gz.heap.size, 0, none⟩ = some (.int .i64 0) := H7.sep.h2.cell 0
        have z1 : (w5.setCell ⟨bo, oo, none⟩ (.int .i64 x)).cell? ⟨gz.heap.size, 1, none⟩ = some (.slice none 0 0) := H7.sep.h2.cell 1
        have f0' := H7.sep.h2.frozen 0
        have f1' := H7.sep.h2.frozen 1
        have x0' : (w5.setCell ⟨bo, oo, none⟩ (.int .i64 x)).cell? ⟨w1.heap.size, 0, none⟩ = some (.int .i64 (r.w)) := H7.sep.h0.cell 0
        have x1' : (w5.setCell ⟨bo, oo, none⟩ (.int .i64 x)).cell? ⟨w1.heap.size, 1, none⟩ = some (.slice (some ⟨bo, oo, none⟩) r.rows.length c) := H7.sep.h0.cell 1
        have He := (H7.sep.g2.set_ 0 (.int .i64 (r.w))).set_ 1 (.slice (some ⟨bo, oo, none⟩) r.rows.length c)
        have u0 := He.h0.cell 0
        have u1 := He.h0.cell 1
        simp at u0 u1
        have Hf := H7.map (fun X h => ((h.g3.set_ 0 (.int .i64 (r.w))).set_ 1 (.slice (some ⟨bo, oo, none⟩) r.rows.length c)).drop.g1.drop)
        clear He
        go_wp2
        have hls : (r.rows.set 0 x).length = r.rows.length := List.length_set
        refine bodyPost_ret (v := .agg #[.int .i64 r.w, .slice (some ⟨bo, oo, none⟩) r.rows.length c]) (by simp [results, Tryz.results50, go_sem, u0, u1]) rfl ⟨⟨r.w, r.rows.set 0 x⟩, some ⟨bo, oo, none⟩, c, by simp only [hls], ⟨by simp only [hls]; exact hv3, by simp only [hls]; omega⟩, ?_⟩
        simp only [hls]
        exact Hf
    · by_cases h2 : q = 2
      · subst h2
        have x0 := H3.sep.h0.cell 0
        have x1 := H3.sep.h0.cell 1
        have fx := H3.sep.h0.frozen 1
        simp at x0 x1
        obtain ⟨B, cb, ci, ch, e1, e2, e3, e4, e5, HS⟩ := H3
        have hgb := HS.h1.lt
        go_wp2_with (
          at_builtin
          refine wpList_app rfl _ _ 27 rfl 3 j0 _ 1 8 Tryz.underlying27 hj0 hy0 hy1 hy2 rfl (by decide) _ _ _ rfl (HS.alloc _).g2 _ _ _ [.int .i64 1, .int .i64 1, .int .i64 1] rfl (Rd.fresh w3 _ #[.int .i64 1, .int .i64 1, .int .i64 1] 1 3 rfl) (by intro u hu; simp at hu; subst hu; rfl) (by unfold maxLen; omega) (by omega) ?_
          intro v' w5 H5
          obtain ⟨A5, c5, rfl, _, _, _⟩ := Res.row_at H5.h0
          have y1 := H5.p2.h1.cell 1
          have fy := H5.p2.h1.frozen 1
          simp at y1
          have HC : Cur w0 (w5.setCell ⟨w1.heap.size, 1, none⟩ (.slice A5 (r.rows.length + 3) c5)) g l (Res.box w1.heap.size 29 #[.int .i64 r.w, .slice A5 (r.rows.length + 3) c5] :: Res.row (.slice A5 (r.rows.length + 3) c5) 3 1 (r.rows.length + 3) (ic r.rows ++ [.int .i64 1, .int .i64 1, .int .i64 1]) :: Res.box gz.heap.size 29 #[.int .i64 0, .slice none 0 0] :: L) :=
            ⟨B, cb, ci, ch, e1, e2, e3, e4, e5, (H5.p2.g1.set_ 1 (.slice A5 (r.rows.length + 3) c5)).p1⟩
          have z0 : (w5.setCell ⟨w1.heap.size, 1, none⟩ (.slice A5 (r.rows.length + 3) c5)).cell? ⟨gz.heap.size, 0, none⟩ = some (.int .i64 0) := HC.sep.h2.cell 0
          have z1 : (w5.setCell ⟨w1.heap.size, 1, none⟩ (.slice A5 (r.rows.length + 3) c5)).cell? ⟨gz.heap.size, 1, none⟩ = some (.slice none 0 0) := HC.sep.h2.cell 1
          have f0' := HC.sep.h2.frozen 0
          have f1' := HC.sep.h2.frozen 1
          have x0' : (w5.setCell ⟨w1.heap.size, 1, none⟩ (.slice A5 (r.rows.length + 3) c5)).cell? ⟨w1.heap.size, 0, none⟩ = some (.int .i64 (r.w)) := HC.sep.h0.cell 0
          have x1' : (w5.setCell ⟨w1.heap.size, 1, none⟩ (.slice A5 (r.rows.length + 3) c5)).cell? ⟨w1.heap.size, 1, none⟩ = some (.slice A5 (r.rows.length + 3) c5) := HC.sep.h0.cell 1
          have He := (HC.sep.g2.set_ 0 (.int .i64 (r.w))).set_ 1 (.slice A5 (r.rows.length + 3) c5)
          have u0 := He.h0.cell 0
          have u1 := He.h0.cell 1
          simp at u0 u1
          have Hf := HC.map (fun X h => ((h.g3.set_ 0 (.int .i64 (r.w))).set_ 1 (.slice A5 (r.rows.length + 3) c5)).drop.g1.drop)
          clear He
          )
        have hls : (r.rows ++ [1, 1, 1]).length = r.rows.length + 3 := by simp
        refine bodyPost_ret (v := .agg #[.int .i64 r.w, .slice A5 (r.rows.length + 3) c5]) (by simp [results, Tryz.results50, go_sem, u0, u1]) rfl ⟨⟨r.w, r.rows ++ [1, 1, 1]⟩, A5, c5, by simp only [hls], ⟨by simp only [hls]; omega, by simp only [hls]; omega⟩, ?_⟩
        simp only [hls]
        rw [ic_append]
        exact Hf
      · have b0 : (q == 0) = false := by simp [h0]
        have b1 : (q == 1) = false := by simp [h1]
        have b2 : (q == 2) = false := by simp [h2]
        have z0 : (w3).cell? ⟨gz.heap.size, 0, none⟩ = some (.int .i64 0) := H3.sep.h2.cell 0
        have z1 : (w3).cell? ⟨gz.heap.size, 1, none⟩ = some (.slice none 0 0) := H3.sep.h2.cell 1
        have f0' := H3.sep.h2.frozen 0
        have f1' := H3.sep.h2.frozen 1
        have x0' : (w3).cell? ⟨w1.heap.size, 0, none⟩ = some (.int .i64 (r.w)) := H3.sep.h0.cell 0
        have x1' : (w3).cell? ⟨w1.heap.size, 1, none⟩ = some (.slice A r.rows.length c) := H3.sep.h0.cell 1
        have He := (H3.sep.g2.set_ 0 (.int .i64 (r.w))).set_ 1 (.slice A r.rows.length c)
        have u0 := He.h0.cell 0
        have u1 := He.h0.cell 1
        simp at u0 u1
        have Hf := H3.map (fun X h => ((h.g3.set_ 0 (.int .i64 (r.w))).set_ 1 (.slice A r.rows.length c)).drop.g1.drop)
        clear He
        go_wp2
        exact bodyPost_ret (v := .agg #[.int .i64 r.w, .slice A r.rows.length c]) (by simp [results, Tryz.results50, go_sem, u0, u1]) rfl ⟨r, A, c, rfl, ⟨hv3, by omega⟩, Hf⟩
end Go.Proofs.YtppbkiajcpdkiaaGreatDoor

namespace Go.Proofs.YtppbkiajcpdkiaaGreatDoor
open Go.RowKit

end Go.Proofs.YtppbkiajcpdkiaaGreatDoor

namespace Go.Proofs.YtppbkiajcpdkiaaGreatDoor
open Go.RowKit

/-- a drawn shape and a scale -/
def ShK (w : World) : Ending → World → Prop := fun e w' => ∃ (v : Value) (s : List Cell) (k : Int), e = .returned (.tuple #[v, .int .i64 k]) ∧ CellsRd w' 0 w'.heap.size v s ∧ s.length ≤ 8 ∧ (0 ≤ k ∧ k ≤ 7) ∧ Below w.heap.size w w'
set_option maxRecDepth 100000 in
set_option maxHeartbeats 1600000 in
theorem l14Both_c {v : Value} {l : List UInt8} (w : World) (h : BytesRd w 0 w.heap.size v l) (hn : l.length ≤ 1048576) :
    Calls Tryz.prog 28 #[v] w (ShK w) := by
  go_enter Tryz.func28, Tryz.ntmps28
  go_wp2_with fail
  refine (l1New_c h hn (Sep.start w)).mono ?_
  rintro e w1 ⟨g, rfl, H1⟩
  clear h
  go_wp2_with fail
  refine (l4Piece_c H1).mono ?_
  rintro e w2 ⟨va, a, rfl, hsa, ha, H2⟩
  clear H1 hsa
  go_wp2_with fail
  refine (l1Once_c 4 H2 (by omega)).mono ?_
  rintro e w3 ⟨q, rfl, H3⟩
  clear H2
  cases q
  · have hCB := CellsBy.row (v := va) (s := a) (by omega)
    have H4 := H3.map (fun X h => (h.rowBox 3 #[.int .i64 2, .int .i64 2, .int .i64 3, .int .i64 1, .int .i64 0, .int .i64 7] 1 6 rfl (by decide)).g1)
    clear H3
    go_wp2_with fail
    refine (l1Pick_c (n := 6) (b := w3.heap.size) (xs := [2, 2, 3, 1, 0, 7]) rfl (by omega) (by omega) H4).mono ?_
    rintro e w9 ⟨k, rfl, hk, H5⟩
    have hk7 : 0 ≤ k ∧ k ≤ 7 := by simp only [List.mem_cons, List.not_mem_nil, or_false] at hk; omega
    have HC := Lib.hid (hCB w9 0 H5.sep.h1 (fun _ _ => Nat.zero_le _))
    have hb := H5.sep.below
    clear H4 H5 hk
    go_wp2
    exact bodyPost_ret (results_tmp2 rfl _ _ _) rfl ⟨_, _, k, rfl, HC.out, by omega, hk7, hb⟩
  · go_wp2_with fail
    refine (l2Any_c H3).mono ?_
    rintro e w4 ⟨vb, b, R, rfl, hb8, hR, H6⟩
    clear H3
    have H4 := H6.map (fun X h => (h.rowBox 3 #[.int .i64 2, .int .i64 2, .int .i64 3, .int .i64 1, .int .i64 0, .int .i64 7] 1 6 rfl (by decide)).g1)
    clear H6
    go_wp2_with fail
    refine (l1Pick_c (n := 6) (b := w4.heap.size) (xs := [2, 2, 3, 1, 0, 7]) rfl (by omega) (by omega) H4).mono ?_
    rintro e w9 ⟨k, rfl, hk, H5⟩
    have hk7 : 0 ≤ k ∧ k ≤ 7 := by simp only [List.mem_cons, List.not_mem_nil, or_false] at hk; omega
    have HC := Lib.hid (hR w9 0 H5.sep.h1 (fun _ _ => Nat.zero_le _))
    have hb := H5.sep.below
    clear H4 H5 hk
    go_wp2
    exact bodyPost_ret (results_tmp2 rfl _ _ _) rfl ⟨_, _, k, rfl, HC.out, by omega, hk7, hb⟩
set_option maxRecDepth 100000 in
set_option maxHeartbeats 800000 in
theorem drawScaled_c {v : Value} {l : List UInt8} (w : World) (h : BytesRd w 0 w.heap.size v l) (hn : l.length ≤ 1048576) :
    Calls Tryz.prog 6 #[v] w (ShK w) := by
  go_enter Tryz.func6, Tryz.ntmps6
  go_wp2_with fail
  refine (l14Both_c w h hn).mono ?_
  rintro e w1 ⟨va, s, k, rfl, hc, hs, hk, b1⟩
  have HC := Lib.hid hc
  clear hc h
  go_wp2
  exact bodyPost_ret (results_tmp2 rfl _ _ _) rfl ⟨_, _, k, rfl, HC.out, hs, hk, b1⟩
/-- a drawn shape -/
def ShD (w : World) : Ending → World → Prop := fun e w' => ∃ (v : Value) (s : List Cell), e = .returned v ∧ CellsRd w' 0 w'.heap.size v s ∧ s.length ≤ 8 ∧ Below w.heap.size w w'
set_option maxRecDepth 100000 in
set_option maxHeartbeats 1600000 in
theorem l13Shape_c {v : Value} {l : List UInt8} (w : World) (h : BytesRd w 0 w.heap.size v l) (hn : l.length ≤ 1048576) :
    Calls Tryz.prog 46 #[v] w (ShD w) := by
  go_enter Tryz.func46, Tryz.ntmps46
  go_wp2_with fail
  refine (l1New_c h hn (Sep.start w)).mono ?_
  rintro e w1 ⟨g, rfl, H1⟩
  clear h
  go_wp2_with fail
  refine (l1Once_c 3 H1 (by omega)).mono ?_
  rintro e w3 ⟨q, rfl, H3⟩
  clear H1
  cases q
  · go_wp2_with fail
    refine (l4Piece_c H3).mono ?_
    rintro e w4 ⟨va, a, rfl, hsa, ha, H6⟩
    have HC := Lib.hid (CellsBy.row (by omega) w4 0 H6.sep.h0 (fun _ _ => Nat.zero_le _))
    have hb := H6.sep.below
    clear H3 H6 hsa
    go_wp2
    go_ret
    exact ⟨_, a, rfl, HC.out, ha, hb⟩
  · go_wp2_with fail
    refine (l2Any_c H3).mono ?_
    rintro e w4 ⟨va, a, R, rfl, ha, hR, H6⟩
    have HC := Lib.hid (hR w4 0 H6.sep.h0 (fun _ _ => Nat.zero_le _))
    have hb := H6.sep.below
    clear H3 H6 hR
    go_wp2
    go_ret
    exact ⟨_, a, rfl, HC.out, ha, hb⟩
set_option maxRecDepth 100000 in
set_option maxHeartbeats 800000 in
theorem drawLeast_c {v : Value} {l : List UInt8} (w : World) (h : BytesRd w 0 w.heap.size v l) (hn : l.length ≤ 1048576) :
    Calls Tryz.prog 16 #[v] w (ShD w) := by
  go_enter Tryz.func16, Tryz.ntmps16
  go_wp2_with fail
  refine (l13Shape_c w h hn).mono ?_
  rintro e w1 ⟨va, s, rfl, hc, hs, b1⟩
  have HC := Lib.hid hc
  clear hc h
  go_wp2
  go_ret
  exact ⟨_, s, rfl, HC.out, hs, b1⟩
set_option maxRecDepth 100000 in
set_option maxHeartbeats 1600000 in
theorem drawHalves_c {v : Value} {l : List UInt8} (w : World) (h : BytesRd w 0 w.heap.size v l) (hn : l.length ≤ 1048576) :
    Calls Tryz.prog 19 #[v] w fun e w' => ∃ (v' : Value) (r : Reg), e = .returned v' ∧ DrawnR r ∧ RegIn w' w.heap.size w'.heap.size v' r ∧ Below w.heap.size w w' := by
  have H := (Sep.start w).box 29 #[.int .i64 0, .slice none 0 0]
  go_enter Tryz.func19, Tryz.ntmps19
  go_wp2_with fail
  obtain ⟨gz, hgz⟩ : ∃ gz : World, gz = w := ⟨_, rfl⟩
  subst hgz
  generalize gz.alloc (.cells #[.int .i64 0, .slice none 0 0] 29) = W at *
  refine (l1New_c h hn H).mono ?_
  rintro e w1 ⟨g, rfl, H1⟩
  clear H h
  go_wp2_with fail
  refine (l1Once_c 8 H1 (by omega)).mono ?_
  rintro e w2 ⟨q, rfl, H2⟩
  clear H1
  cases q
  · go_wp2_with fail
    refine (l6DrawM_c 3 (by omega) (by omega) H2).mono ?_
    rintro e w3 ⟨r, A, c, rfl, hv, H3⟩
    have HD := Lib.hid (show DrawnR r from ⟨hv.2.2.1, by have := hv.2.2.2.1; omega⟩)
    clear H2 hv
    have z0 := H3.sep.h1.cell 0
    have z1 := H3.sep.h1.cell 1
    have f0 := H3.sep.h1.frozen 0
    have f1 := H3.sep.h1.frozen 1
    simp at z0 z1
    have Hf := (H3.sep.g1.set_ 0 (.int .i64 r.w)).set_ 1 (.slice A r.rows.length c)
    have u0 := Hf.h0.cell 0
    have u1 := Hf.h0.cell 1
    simp at u0 u1
    go_wp2
    exact bodyPost_ret (v := .agg #[.int .i64 r.w, .slice A r.rows.length c]) (by simp [results, Tryz.results19, go_sem, u0, u1]) rfl ⟨_, r, rfl, HD.out, ⟨_, rfl, Hf.g1.oi⟩, Hf.below⟩
  · go_wp2_with fail
    refine (l6Any_c H2).mono ?_
    rintro e w3 ⟨r, A, c, rfl, hd, H3⟩
    have HD := Lib.hid hd
    clear H2 hd
    have z0 := H3.sep.h1.cell 0
    have z1 := H3.sep.h1.cell 1
    have f0 := H3.sep.h1.frozen 0
    have f1 := H3.sep.h1.frozen 1
    simp at z0 z1
    have Hf := (H3.sep.g1.set_ 0 (.int .i64 r.w)).set_ 1 (.slice A r.rows.length c)
    have u0 := Hf.h0.cell 0
    have u1 := Hf.h0.cell 1
    simp at u0 u1
    go_wp2
    exact bodyPost_ret (v := .agg #[.int .i64 r.w, .slice A r.rows.length c]) (by simp [results, Tryz.results19, go_sem, u0, u1]) rfl ⟨_, r, rfl, HD.out, ⟨_, rfl, Hf.g1.oi⟩, Hf.below⟩
end Go.Proofs.YtppbkiajcpdkiaaGreatDoor
