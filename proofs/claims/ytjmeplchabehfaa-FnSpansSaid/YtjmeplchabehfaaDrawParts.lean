
/-
  The law's drawing of regions for the laws on spanning. The drawings that the law FnSpans asks for.
-/
import Derived.Test.YtjmeplchabehfaaDrawAny
namespace Go.Proofs.Ytjmeplchabehfaa
open Go.RowKit

set_option maxRecDepth 100000 in
set_option maxHeartbeats 3200000 in
theorem drawParts_c {v : Value} {l : List UInt8} (w : World) (h : BytesRd w 0 w.heap.size v l) (hn : l.length ≤ 1048576) :
    Calls Try.prog 122 #[v] w fun e w' => ∃ (r : Reg) (v' : Value), e = .returned v' ∧ DrawnR r ∧ RegIn w' w.heap.size w'.heap.size v' r ∧ Below w.heap.size w w' := by
  have H := (Sep.start w).box 31 #[.int .i64 0, .slice none 0 0]
  go_enter Try.func122, Try.ntmps122
  go_wp2_with fail
  generalize w.alloc (.cells #[.int .i64 0, .slice none 0 0] 31) = W at *
  refine (l1New_c h hn H).mono ?_
  rintro e w1 ⟨g, rfl, H1⟩
  clear H
  go_wp2_with fail
  refine (l6Any_c H1).mono ?_
  rintro e w2 ⟨r, A, c, rfl, hd, H2⟩
  clear H1
  have H3 := H2.map (fun X h => (h.box 31 #[.int .i64 r.w, .slice A r.rows.length c]).g1)
  clear H2
  go_wp2_with fail
  obtain ⟨wq, hwq⟩ : ∃ wq : World, wq = w2 := ⟨_, rfl⟩
  subst hwq
  generalize wq.alloc (.cells #[.int .i64 r.w, .slice A r.rows.length c] 31) = w3 at *
  refine (spec_IsRegion_c (r := r) w3 ⟨_, rfl, (H3.sep.g1.oi.sr).more (Nat.zero_le _) (Nat.le_refl _)⟩).mono ?_
  rintro e w4 ⟨rfl, b4⟩
  have H4 := H3.map (fun X h => h.step b4)
  clear H3 b4
  obtain ⟨hd1, hd2⟩ := hd
  cases hv : r.valid
  · clear hv
    have z0 := H4.sep.h2.cell 0
    have z1 := H4.sep.h2.cell 1
    have f0' := H4.sep.h2.frozen 0
    have f1' := H4.sep.h2.frozen 1
    have x0' := H4.sep.h0.cell 0
    have x1' := H4.sep.h0.cell 1
    simp at z0 z1 x0' x1'
    have Hf := ((H4.sep.g2.set_ 0 (.int .i64 r.w)).set_ 1 (.slice A r.rows.length c))
    have u0 := Hf.h0.cell 0
    have u1 := Hf.h0.cell 1
    simp at u0 u1
    go_wp2
    exact bodyPost_ret (v := .agg #[.int .i64 r.w, .slice A r.rows.length c]) (by simp [results, Try.results122, go_sem, u0, u1]) rfl ⟨r, _, rfl, ⟨hd1, hd2⟩, ⟨_, rfl, Hf.g2.oi⟩, Hf.below⟩
  · have hV := Reg.valid_iff.1 hv
    have hv1 := hV.1
    have hv2 := hV.2.1
    clear hv hV
    go_wp2_with fail
    refine (l1Once_c 2 H4 (by omega)).mono ?_
    rintro e w5 ⟨q, rfl, H5⟩
    clear H4
    cases q
    · skip
      have z0 := H5.sep.h2.cell 0
      have z1 := H5.sep.h2.cell 1
      have f0' := H5.sep.h2.frozen 0
      have f1' := H5.sep.h2.frozen 1
      have x0' := H5.sep.h0.cell 0
      have x1' := H5.sep.h0.cell 1
      simp at z0 z1 x0' x1'
      have Hf := ((H5.sep.g2.set_ 0 (.int .i64 r.w)).set_ 1 (.slice A r.rows.length c))
      have u0 := Hf.h0.cell 0
      have u1 := Hf.h0.cell 1
      simp at u0 u1
      go_wp2
      exact bodyPost_ret (v := .agg #[.int .i64 r.w, .slice A r.rows.length c]) (by simp [results, Try.results122, go_sem, u0, u1]) rfl ⟨r, _, rfl, ⟨hd1, hd2⟩, ⟨_, rfl, Hf.g2.oi⟩, Hf.below⟩
    · go_wp2
      go_loopw [5] (fun yv wr => ∃ (k : Nat) (rows : List Int), k ≤ r.rows.length ∧ yv = .int .i64 k ∧ Hid (rows.length = r.rows.length) ∧ Cur w wr g l [Res.box wq.heap.size 31 #[.int .i64 r.w, .slice A r.rows.length c], Res.row (.slice A r.rows.length c) 3 1 r.rows.length (ic rows), Res.box w.heap.size 31 #[.int .i64 0, .slice none 0 0]]) (fun yv _ => r.rows.length - (intOf yv).toNat)
      case atStart => exact ⟨0, r.rows, Nat.zero_le _, rfl, Lib.hid rfl, H5⟩
      case round =>
        clear H5
        obtain ⟨k, rows, hk, rfl, HL, H⟩ := hrel
        by_cases hlt : k < r.rows.length
        · have xw := H.sep.h0.cell 0
          have xr := H.sep.h0.cell 1
          simp at xw xr
          obtain ⟨bo, oo, co, he, _, _, hbo⟩ := own_shape H.sep.h1 (by omega)
          injection he with he1 _ he3
          subst he1 he3
          have hgb := H.sep.h0.lt
          have hkl : (k : Int) < (r.rows.length : Int) := by omega
          have hk0 : (0 : Int) ≤ (k : Int) := by omega
          have hrl : rows.length = r.rows.length := HL.out
          have p1 : IntKind.i64.wrap 1 = 1 := rfl
          have p2 : IntKind.i64.wrap 2 = 2 := rfl
          have p3 : IntKind.i64.wrap 4 = 4 := rfl
          have p4 : IntKind.i64.wrap 8 = 8 := rfl
          have p5 : IntKind.i64.wrap 16 = 16 := rfl
          have p6 : IntKind.i64.wrap 32 = 32 := rfl
          have p7 : IntKind.i64.wrap 64 = 64 := rfl
          go_wp2_with fail
          rcases (by omega : r.w = 1 ∨ r.w = 2 ∨ r.w = 3 ∨ r.w = 4 ∨ r.w = 5 ∨ r.w = 6) with hw | hw | hw | hw | hw | hw
          · skip
            rw [hw] at xw
            clear hw
            go_region_with ((first
              | (go_at_call 103; refine (l1Below_c 2 (by exact H.map (fun X h => h.drew)) (by omega)).mono ?_; rintro e w5 ⟨x, rfl, hx1, hx2, _, H5⟩; have r0 := own_cell1 H5.sep.h1 (List.getElem?_eq_getElem (show k < rows.length by omega)); have fr := own_free H5.sep.h1 k; have x0' := H5.sep.h0.cell 0; have x1' := H5.sep.h0.cell 1; simp at x0' x1')))
            all_goals
              have H7 := H5.map (fun X h => (h.g2.setRow (j := k) (by rw [ic_length]; omega) (.int .i64 x)).p2)
              rw [ic_set] at H7
              clear H5 x0' x1' xw xr r0 fr hbo hgb hkl hk0 p1 p2 p3 p4 p5 p6 p7 hx1 hx2
              go_wp2
              go_roundw
              case rel => exact ⟨k + 1, rows.set k x, by omega, by go_num, Lib.hid (by rw [List.length_set]; exact hrl), H7⟩
              case measure => simp [intOf]; omega
          · skip
            rw [hw] at xw
            clear hw
            go_region_with ((first
              | (go_at_call 103; refine (l1Below_c 4 (by exact H.map (fun X h => h.drew)) (by omega)).mono ?_; rintro e w5 ⟨x, rfl, hx1, hx2, _, H5⟩; have r0 := own_cell1 H5.sep.h1 (List.getElem?_eq_getElem (show k < rows.length by omega)); have fr := own_free H5.sep.h1 k; have x0' := H5.sep.h0.cell 0; have x1' := H5.sep.h0.cell 1; simp at x0' x1')))
            all_goals
              have H7 := H5.map (fun X h => (h.g2.setRow (j := k) (by rw [ic_length]; omega) (.int .i64 x)).p2)
              rw [ic_set] at H7
              clear H5 x0' x1' xw xr r0 fr hbo hgb hkl hk0 p1 p2 p3 p4 p5 p6 p7 hx1 hx2
              go_wp2
              go_roundw
              case rel => exact ⟨k + 1, rows.set k x, by omega, by go_num, Lib.hid (by rw [List.length_set]; exact hrl), H7⟩
              case measure => simp [intOf]; omega
          · skip
            rw [hw] at xw
            clear hw
            go_region_with ((first
              | (go_at_call 103; refine (l1Below_c 8 (by exact H.map (fun X h => h.drew)) (by omega)).mono ?_; rintro e w5 ⟨x, rfl, hx1, hx2, _, H5⟩; have r0 := own_cell1 H5.sep.h1 (List.getElem?_eq_getElem (show k < rows.length by omega)); have fr := own_free H5.sep.h1 k; have x0' := H5.sep.h0.cell 0; have x1' := H5.sep.h0.cell 1; simp at x0' x1')))
            all_goals
              have H7 := H5.map (fun X h => (h.g2.setRow (j := k) (by rw [ic_length]; omega) (.int .i64 x)).p2)
              rw [ic_set] at H7
              clear H5 x0' x1' xw xr r0 fr hbo hgb hkl hk0 p1 p2 p3 p4 p5 p6 p7 hx1 hx2
              go_wp2
              go_roundw
              case rel => exact ⟨k + 1, rows.set k x, by omega, by go_num, Lib.hid (by rw [List.length_set]; exact hrl), H7⟩
              case measure => simp [intOf]; omega
          · skip
            rw [hw] at xw
            clear hw
            go_region_with ((first
              | (go_at_call 103; refine (l1Below_c 16 (by exact H.map (fun X h => h.drew)) (by omega)).mono ?_; rintro e w5 ⟨x, rfl, hx1, hx2, _, H5⟩; have r0 := own_cell1 H5.sep.h1 (List.getElem?_eq_getElem (show k < rows.length by omega)); have fr := own_free H5.sep.h1 k; have x0' := H5.sep.h0.cell 0; have x1' := H5.sep.h0.cell 1; simp at x0' x1')))
            all_goals
              have H7 := H5.map (fun X h => (h.g2.setRow (j := k) (by rw [ic_length]; omega) (.int .i64 x)).p2)
              rw [ic_set] at H7
              clear H5 x0' x1' xw xr r0 fr hbo hgb hkl hk0 p1 p2 p3 p4 p5 p6 p7 hx1 hx2
              go_wp2
              go_roundw
              case rel => exact ⟨k + 1, rows.set k x, by omega, by go_num, Lib.hid (by rw [List.length_set]; exact hrl), H7⟩
              case measure => simp [intOf]; omega
          · skip
            rw [hw] at xw
            clear hw
            go_region_with ((first
              | (go_at_call 103; refine (l1Below_c 32 (by exact H.map (fun X h => h.drew)) (by omega)).mono ?_; rintro e w5 ⟨x, rfl, hx1, hx2, _, H5⟩; have r0 := own_cell1 H5.sep.h1 (List.getElem?_eq_getElem (show k < rows.length by omega)); have fr := own_free H5.sep.h1 k; have x0' := H5.sep.h0.cell 0; have x1' := H5.sep.h0.cell 1; simp at x0' x1')))
            all_goals
              have H7 := H5.map (fun X h => (h.g2.setRow (j := k) (by rw [ic_length]; omega) (.int .i64 x)).p2)
              rw [ic_set] at H7
              clear H5 x0' x1' xw xr r0 fr hbo hgb hkl hk0 p1 p2 p3 p4 p5 p6 p7 hx1 hx2
              go_wp2
              go_roundw
              case rel => exact ⟨k + 1, rows.set k x, by omega, by go_num, Lib.hid (by rw [List.length_set]; exact hrl), H7⟩
              case measure => simp [intOf]; omega
          · skip
            rw [hw] at xw
            clear hw
            go_region_with ((first
              | (go_at_call 103; refine (l1Below_c 64 (by exact H.map (fun X h => h.drew)) (by omega)).mono ?_; rintro e w5 ⟨x, rfl, hx1, hx2, _, H5⟩; have r0 := own_cell1 H5.sep.h1 (List.getElem?_eq_getElem (show k < rows.length by omega)); have fr := own_free H5.sep.h1 k; have x0' := H5.sep.h0.cell 0; have x1' := H5.sep.h0.cell 1; simp at x0' x1')))
            all_goals
              have H7 := H5.map (fun X h => (h.g2.setRow (j := k) (by rw [ic_length]; omega) (.int .i64 x)).p2)
              rw [ic_set] at H7
              clear H5 x0' x1' xw xr r0 fr hbo hgb hkl hk0 p1 p2 p3 p4 p5 p6 p7 hx1 hx2
              go_wp2
              go_roundw
              case rel => exact ⟨k + 1, rows.set k x, by omega, by go_num, Lib.hid (by rw [List.length_set]; exact hrl), H7⟩
              case measure => simp [intOf]; omega
        · obtain rfl : k = r.rows.length := by omega
          have z0 := H.sep.h2.cell 0
          have z1 := H.sep.h2.cell 1
          have f0' := H.sep.h2.frozen 0
          have f1' := H.sep.h2.frozen 1
          have x0' := H.sep.h0.cell 0
          have x1' := H.sep.h0.cell 1
          simp at z0 z1 x0' x1'
          have Hf := ((H.sep.g2.set_ 0 (.int .i64 r.w)).set_ 1 (.slice A r.rows.length c))
          have u0 := Hf.h0.cell 0
          have u1 := Hf.h0.cell 1
          simp at u0 u1
          go_wp2
          refine bodyPost_ret (v := .agg #[.int .i64 r.w, .slice A r.rows.length c]) (by simp [results, Try.results122, go_sem, u0, u1]) rfl ⟨⟨r.w, rows⟩, _, rfl, ⟨by simp only [HL.out]; exact hd1, by simp only [HL.out]; exact hd2⟩, ⟨_, rfl, ?_⟩, Hf.below⟩
          have := Hf.g2.oi
          unfold IntsIn
          simp only [HL.out]
          exact this
end Go.Proofs.Ytjmeplchabehfaa

namespace Go.Proofs.Ytjmeplchabehfaa
open Go.RowKit

set_option maxRecDepth 100000 in
theorem l30Region_c {v : Value} {l : List UInt8} (w : World) (h : BytesRd w 0 w.heap.size v l) (hn : l.length ≤ 1048576) :
    Calls Try.prog 85 #[v] w fun e w' => ∃ (r : Reg) (v' : Value), e = .returned v' ∧ DrawnR r ∧ RegIn w' w.heap.size w'.heap.size v' r ∧ Below w.heap.size w w' := by
  have H := (Sep.start w).box 31 #[.int .i64 0, .slice none 0 0]
  go_enter Try.func85, Try.ntmps85
  go_wp2_with fail
  obtain ⟨W, hW⟩ : ∃ W : World, W = w.alloc (.cells #[.int .i64 0, .slice none 0 0] 31) := ⟨_, rfl⟩
  rw [← hW] at H ⊢
  clear hW
  refine (drawParts_c W ((h.keep (SameIn.of_below H.below (Nat.le_refl _))).more (Nat.le_refl _) H.size) hn).mono ?_
  rintro e w1 ⟨r, v1, rfl, hd, ⟨s, rfl, o1⟩, b1⟩
  have H1 := H.oiNew b1 o1
  obtain ⟨A, c, rfl, _, _, _⟩ := Res.row_at H1.h0
  have z0 := H1.h1.cell 0
  have z1 := H1.h1.cell 1
  have f0 := H1.h1.frozen 0
  have f1 := H1.h1.frozen 1
  simp at z0 z1
  have Hf := (H1.g1.set_ 0 (.int .i64 r.w)).set_ 1 (.slice A r.rows.length c)
  have u0 := Hf.h0.cell 0
  have u1 := Hf.h0.cell 1
  simp at u0 u1
  go_wp2
  exact bodyPost_ret (v := .agg #[.int .i64 r.w, .slice A r.rows.length c]) (by simp [results, Try.results85, go_sem, u0, u1]) rfl ⟨r, _, rfl, hd, ⟨_, rfl, Hf.g1.oi⟩, Hf.below⟩
set_option maxRecDepth 100000 in
theorem drawSpan_c {v : Value} {l : List UInt8} (w : World) (h : BytesRd w 0 w.heap.size v l) (hn : l.length ≤ 1048576) :
    Calls Try.prog 26 #[v] w fun e w' => ∃ (r : Reg) (v' : Value), e = .returned v' ∧ DrawnR r ∧ RegIn w' w.heap.size w'.heap.size v' r ∧ Below w.heap.size w w' := by
  have H := (Sep.start w).box 31 #[.int .i64 0, .slice none 0 0]
  go_enter Try.func26, Try.ntmps26
  go_wp2_with fail
  obtain ⟨W, hW⟩ : ∃ W : World, W = w.alloc (.cells #[.int .i64 0, .slice none 0 0] 31) := ⟨_, rfl⟩
  rw [← hW] at H ⊢
  clear hW
  refine (l30Region_c W ((h.keep (SameIn.of_below H.below (Nat.le_refl _))).more (Nat.le_refl _) H.size) hn).mono ?_
  rintro e w1 ⟨r, v1, rfl, hd, ⟨s, rfl, o1⟩, b1⟩
  have H1 := H.oiNew b1 o1
  obtain ⟨A, c, rfl, _, _, _⟩ := Res.row_at H1.h0
  have z0 := H1.h1.cell 0
  have z1 := H1.h1.cell 1
  have f0 := H1.h1.frozen 0
  have f1 := H1.h1.frozen 1
  simp at z0 z1
  have Hf := (H1.g1.set_ 0 (.int .i64 r.w)).set_ 1 (.slice A r.rows.length c)
  have u0 := Hf.h0.cell 0
  have u1 := Hf.h0.cell 1
  simp at u0 u1
  go_wp2
  exact bodyPost_ret (v := .agg #[.int .i64 r.w, .slice A r.rows.length c]) (by simp [results, Try.results26, go_sem, u0, u1]) rfl ⟨r, _, rfl, hd, ⟨_, rfl, Hf.g1.oi⟩, Hf.below⟩

set_option maxRecDepth 100000 in
theorem drawTab_c {v : Value} {l : List UInt8} (w : World) (h : BytesRd w 0 w.heap.size v l) (hn : l.length ≤ 1048576) :
    Calls Try.prog 41 #[v] w fun e w' => ∃ (p q : Int), e = .returned (.tuple #[.int .i64 p, .int .i64 q]) ∧ 0 ≤ p ∧ p < 5 ∧ 0 ≤ q ∧ q < 4 ∧ Below w.heap.size w w' := by
  have H := Sep.start w
  go_enter Try.func41, Try.ntmps41
  go_wp2_with fail
  refine (l1New_c h hn H).mono ?_
  rintro e w1 ⟨g, rfl, H1⟩
  clear H
  go_wp2_with fail
  refine (l1Below_c 5 H1 (by omega)).mono ?_
  rintro e w2 ⟨p, rfl, hp1, hp2, _, H2⟩
  clear H1
  go_wp2_with fail
  refine (l1Below_c 4 H2 (by omega)).mono ?_
  rintro e w3 ⟨q, rfl, hq1, hq2, _, H3⟩
  clear H2
  have hB := H3.sep.below
  go_wp2
  exact bodyPost_ret (v := .tuple #[.int .i64 p, .int .i64 q]) (by simp [results, Try.results41, go_sem]) rfl ⟨p, q, rfl, hp1, by omega, hq1, by omega, hB⟩
end Go.Proofs.Ytjmeplchabehfaa
