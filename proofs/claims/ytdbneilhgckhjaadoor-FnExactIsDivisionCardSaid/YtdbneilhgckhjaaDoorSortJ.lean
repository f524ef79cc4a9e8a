
/-
  The library's insertion sort over a short slice of cells.
-/
import Derived.Test.YtdbneilhgckhjaaDoorSortI
namespace Go.Proofs.YtdbneilhgckhjaaDoor
open Go.RowKit

noncomputable abbrev swapFn (g n c : Nat) : Value := .func (.func 166) #[] #[.slice (some ⟨g, 0, none⟩) n c, typeHandle Tryd.prog 73]
set_option maxRecDepth 100000 in
set_option maxHeartbeats 3200000 in
theorem insertion_c {Bs g n c : Nat} {d : List Cell} {w0 w : World} (H : Sep w0 w [cellsRow g n c d, cellsBox Bs g n c]) (hn : n = d.length) (h1 : 1 ≤ n) (h12 : n ≤ 12) :
    Calls Tryd.prog 168 #[.agg #[lessFn Bs, swapFn g n c], .int .i64 0, .int .i64 n] w fun e w' => e = .returned (.tuple #[]) ∧ ∃ d', d'.length = n ∧ (∀ x, x ∈ d' ↔ x ∈ d) ∧ WS d' n ∧ Sep w0 w' [cellsRow g n c d', cellsBox Bs g n c] := by
  have H0 := H.box 147 #[lessFn Bs, swapFn g n c]
  obtain ⟨gd, hgd⟩ : ∃ gd, gd = w.heap.size := ⟨_, rfl⟩
  rw [← hgd] at H0
  have HN := Lib.hid hn
  clear H hn
  go_enter Tryd.func168, Tryd.ntmps168
  go_upto_region 1 with fail
  rw [← hgd]
  generalize w.alloc (.cells #[lessFn Bs, swapFn g n c] 147) = W at *
  clear hgd
  go_wp2
  go_loopw [6] (fun iv wx => ∃ (i : Nat) (d' : List Cell), 1 ≤ i ∧ i ≤ n ∧ iv = .int .i64 i ∧ Hid (d'.length = n) ∧ Hid (∀ x, x ∈ d' ↔ x ∈ d) ∧ Hid (WS d' i) ∧ Sep w0 wx [Res.box gd 147 #[lessFn Bs, swapFn g n c], cellsRow g n c d', cellsBox Bs g n c]) (fun iv _ => n - (intOf iv).toNat)
  case atStart => exact ⟨1, d, Nat.le_refl _, h1, rfl, Lib.hid HN.out.symm, Lib.hid (fun _ => Iff.rfl), Lib.hid WS.one, H0⟩
  case round =>
    clear H0
    obtain ⟨i, d1, hi1, hin, rfl, HL, HM, HW, H⟩ := hrel
    by_cases hlt : i < n
    · go_wp2
      go_loopw [7] (fun jv wx => ∃ (j : Nat) (d' : List Cell), j ≤ i ∧ jv = .int .i64 j ∧ Hid (d'.length = n) ∧ Hid (∀ x, x ∈ d' ↔ x ∈ d) ∧ Hid (WJ d' i j) ∧ Sep w0 wx [Res.box gd 147 #[lessFn Bs, swapFn g n c], cellsRow g n c d', cellsBox Bs g n c]) (fun jv _ => (intOf jv).toNat)
      case atStart => exact ⟨i, d1, Nat.le_refl _, rfl, HL, HM, Lib.hid HW.out.start, H⟩
      case round =>
        clear H HL HM HW
        obtain ⟨j, d2, hji, rfl, HL, HM, HW, H⟩ := hrel
        by_cases hj0 : 0 < j
        · have hdj : decide ((0 : Int) < (j : Int)) = true := by simp; omega
          obtain ⟨p, hp⟩ : ∃ p, p = j - 1 := ⟨_, rfl⟩
          have HP := Lib.hid hp
          have e1 : (j : Int) - 1 = (p : Int) := by omega
          have e2 : IntKind.i64.wrap ((j : Int) - 1) = (p : Int) := by rw [e1]; exact IntWalk.i64_in _ (by omega)
          obtain ⟨x, hx⟩ : ∃ x, d2[j]? = some x := ⟨d2[j]'(by rw [HL.out]; omega), List.getElem?_eq_getElem _⟩
          obtain ⟨y, hy⟩ : ∃ y, d2[p]? = some y := ⟨d2[p]'(by rw [HL.out]; omega), List.getElem?_eq_getElem _⟩
          have k0 : wr.cell? ⟨gd, 0, none⟩ = some (lessFn Bs) := H.h0.cell 0
          have HC := Lib.hid (less_c j p H.drop HL.out.symm hx hy)
          have HX := Lib.hid hx
          have HY := Lib.hid hy
          clear hp hx hy
          go_wp2_with fail
          refine (HC.out).mono ?_
          rintro e w2 ⟨rfl, b2⟩
          have H2 := H.step b2
          clear H HC b2 k0
          cases hb : befB x y
          · have HS : Hid (WS d2 (i + 1)) := Lib.hid (HW.out.stop hj0 HX.out (by rw [← HP.out]; exact HY.out) hb)
            clear hb
            go_wp2
            go_roundw
            case rel => exact ⟨i + 1, d2, by omega, by omega, by go_num, HL, HM, HS, H2⟩
            case measure => simp [intOf]; omega
          · have HS : Hid (WJ (swapC d2 j p x y) i p) := Lib.hid (by
              have := HW.out.swap hj0 hji HX.out (by rw [← HP.out]; exact HY.out) hb
              rwa [← HP.out] at this)
            have HM2 : Hid (∀ z, z ∈ swapC d2 j p x y ↔ z ∈ d) := Lib.hid fun z => (mem_swapC (by have := HP.out; omega) HX.out HY.out z).trans (HM.out z)
            have HL2 : Hid ((swapC d2 j p x y).length = n) := Lib.hid (swapC_len.trans HL.out)
            have HSW := Lib.hid (swap_cells_c H2.h1 HL.out.symm HX.out HY.out)
            have k1 : w2.cell? ⟨gd, 1, none⟩ = some (swapFn g n c) := H2.h0.cell 1
            have hcl : (cc d2).length = n * 2 := by rw [cc_length, HL.out]
            have H3 := (((H2.g1.setRow (j := j * 2) (by omega) (.int .i64 y.x)).setRow (j := j * 2 + 1) (by rw [List.length_set]; omega) (.int .i64 y.y)).setRow (j := p * 2) (by rw [List.length_set, List.length_set]; have := HP.out; omega) (.int .i64 x.x)).setRow (j := p * 2 + 1) (by rw [List.length_set, List.length_set, List.length_set]; have := HP.out; omega) (.int .i64 x.y)
            rw [cc_set, cc_set] at H3
            simp only [Nat.zero_add] at H3
            have H4 := H3.p1
            clear hb H2 H3 hcl HM HL HW
            go_wp2_with fail
            rw [HSW.out, Oper.upon_value]
            clear k1 HSW
            have hs : swapC d2 j p x y = (d2.set j y).set p x := rfl
            rw [← hs] at H4
            generalize (((w2.setCell ⟨g, j * 2, none⟩ (.int .i64 y.x)).setCell ⟨g, j * 2 + 1, none⟩ (.int .i64 y.y)).setCell ⟨g, p * 2, none⟩ (.int .i64 x.x)).setCell ⟨g, p * 2 + 1, none⟩ (.int .i64 x.y) = w5 at *
            generalize swapC d2 j p x y = d5 at *
            clear hs
            go_wp2
            go_roundw
            case rel => exact ⟨p, d5, by omega, by go_num, HL2, HM2, HS, H4⟩
            case measure => simp [intOf]; omega
        · have hdj : decide ((0 : Int) < (j : Int)) = false := by simp; omega
          obtain rfl : j = 0 := by omega
          have HS : Hid (WS d2 (i + 1)) := Lib.hid HW.out.zero
          go_wp2
          go_roundw
          case rel => exact ⟨i + 1, d2, by omega, by omega, by go_num, HL, HM, HS, H⟩
          case measure => simp [intOf]; omega
    · obtain rfl : i = n := by omega
      have H2 := H.drop
      clear H
      go_wp2
      refine bodyPost_end (results_none rfl _ _ _) rfl ?_
      exact ⟨rfl, d1, HL.out, HM.out, HW.out, H2⟩
set_option maxRecDepth 100000 in
set_option maxHeartbeats 3200000 in
theorem pdq_c {Bs g n c : Nat} {d : List Cell} {w0 w : World} (lim : Int) (H : Sep w0 w [cellsRow g n c d, cellsBox Bs g n c]) (hn : n = d.length) (h1 : 1 ≤ n) (h12 : n ≤ 12) :
    Calls Tryd.prog 157 #[.agg #[lessFn Bs, swapFn g n c], .int .i64 0, .int .i64 n, .int .i64 lim] w fun e w' => e = .returned (.tuple #[]) ∧ ∃ d', d'.length = n ∧ (∀ x, x ∈ d' ↔ x ∈ d) ∧ WS d' n ∧ Sep w0 w' [cellsRow g n c d', cellsBox Bs g n c] := by
  have H0 := (H.box 147 #[lessFn Bs, swapFn g n c])
  have HI := Lib.hid (insertion_c H0.drop hn h1 h12)
  have k0 : (w.alloc (.cells #[lessFn Bs, swapFn g n c] 147)).cell? ⟨w.heap.size, 0, none⟩ = some (lessFn Bs) := H0.h0.cell 0
  have k1 : (w.alloc (.cells #[lessFn Bs, swapFn g n c] 147)).cell? ⟨w.heap.size, 1, none⟩ = some (swapFn g n c) := H0.h0.cell 1
  have hd : decide ((n : Int) ≤ 12) = true := decide_eq_true (by omega)
  clear H H0 hn
  go_enter Tryd.func157, Tryd.ntmps157
  go_wp2
  refine wp_loop_rounds 1 ?_
  rw [rounds_succ]
  go_wp2_with fail
  refine (HI.out).mono ?_
  rintro e w2 ⟨rfl, hR⟩
  go_wp2
  (try simp only [Exit.inBlock, Exit.then])
  refine bodyPost_ret (results_none rfl _ _ _) rfl ?_
  exact ⟨rfl, hR⟩
set_option maxRecDepth 100000 in
/-- sort.Slice over a short slice of cells, under the program's closure -/
theorem sortSlice_c {Bs g n c : Nat} {d : List Cell} {w0 w : World} (H : Sep w0 w [cellsRow g n c d, cellsBox Bs g n c]) (hn : n = d.length) (h1 : 1 ≤ n) (h12 : n ≤ 12) :
    Calls Tryd.prog 151 #[.iface 53 (.slice (some ⟨g, 0, none⟩) n c), lessFn Bs] w fun e w' => e = .returned (.tuple #[]) ∧ ∃ d', d'.length = n ∧ (∀ x, x ∈ d' ↔ x ∈ d) ∧ WS d' n ∧ Sep w0 w' [cellsRow g n c d', cellsBox Bs g n c] := by
  obtain ⟨ie, hie⟩ : ∃ ie, Tryd.prog.info? 73 = some ie := by obtain ⟨ie, h, _⟩ := info_parts infoCellS; exact ⟨ie, h⟩
  have hd : (Tryd.prog.info? 53).map (·.desc) = some (.slice 73) := by kernel_rfl
  obtain ⟨it, hit, hdt⟩ := Option.map_eq_some_iff.1 hd
  have hp : (Tryd.prog.info? 73).map (fun i => (i.hasPointers, i.bytes)) = some (false, 16) := by kernel_rfl
  rw [hie] at hp
  simp only [Option.map_some, Option.some.injEq, Prod.mk.injEq] at hp
  obtain ⟨hp1, hp2⟩ := hp
  by_cases hn1 : n = 1
  · have hk : Lib.swapperK n ie 25 = 2 := by subst hn1; rfl
    have hS := Any.sort_Slice_tiny Tryd.laysGg6 53 73 it ie hit hdt (by kernel_rfl) hie 25 (fun _ => by kernel_rfl) (some ⟨g, 0, none⟩) n c (by omega) 159 (by rw [hk]; kernel_rfl) (.func 152) #[] #[.pointer (some ⟨Bs, 0, none⟩)] w
    refine Calls.mono (show Calls Tryd.prog 151 _ _ _ from hS) ?_
    rintro e w' ⟨rfl, os, rfl⟩
    exact ⟨rfl, d, hn.symm, fun _ => Iff.rfl, by subst hn1; exact WS.one, H.step (Go.Lib.below_grow w.heap.size w (Nat.le_refl _) 0 os)⟩
  · have hk : Lib.swapperK n ie 25 = 9 := by
      have a : (n == 0) = false := by simp; omega
      have b : (n == 1) = false := by simp; omega
      simp [Lib.swapperK, hp1, hp2, a, b]
    have hsb : sliceBound Tryd.prog 73 ie 25 (some ⟨g, 0, none⟩) n c = #[.slice (some ⟨g, 0, none⟩) n c, typeHandle Tryd.prog 73] := by
      unfold sliceBound; rw [hk]; rfl
    refine Calls.mono (show Calls Tryd.prog 151 _ _ _ from Any.sort_Slice_of_pdq Tryd.laysGg6 53 73 it ie hit hdt (by kernel_rfl) hie 25 (fun _ => by kernel_rfl) (some ⟨g, 0, none⟩) n c (by omega) 166 (by rw [hk]; kernel_rfl) (.func 152) #[] #[.pointer (some ⟨Bs, 0, none⟩)] w (fun w' => ∃ d', d'.length = n ∧ (∀ x, x ∈ d' ↔ x ∈ d) ∧ WS d' n ∧ Sep w0 w' [cellsRow g n c d', cellsBox Bs g n c]) ?_) (fun _ _ h => h)
    rw [hsb]
    exact pdq_c _ ((H.alloc _).alloc _) hn h1 h12
end Go.Proofs.YtdbneilhgckhjaaDoor
