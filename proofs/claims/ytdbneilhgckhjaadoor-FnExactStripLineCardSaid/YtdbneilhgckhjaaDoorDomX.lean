
/-
  Strips: the program's dominoWays.
-/
import Derived.Test.YtdbneilhgckhjaaDoorDomW
import Derived.Deep.DeepCutAuto
import Derived.Laws.EntriesVeiled
namespace Go.Proofs.YtdbneilhgckhjaaDoor
open Go.RowKit

set_option maxRecDepth 100000 in
theorem infoIntX : (Tryd.prog.info? 3).map (fun i => (i.zero, i.size, i.bytes)) = some (some (.int .i64 0), 1, 8) := by kernel_rfl
set_option maxRecDepth 100000 in
set_option maxHeartbeats 1600000 in
theorem impl_dom_c (wd a : Nat) (w : World) (h1 : 1 ≤ wd) (hw : wd ≤ 4) (ha : a < 2 ^ wd) :
    Calls Tryd.prog 84 #[.int .i64 wd, .int .i64 a] w fun e w' => ∃ v', e = .returned v' ∧ IntsIn w' w.heap.size w'.heap.size v' (domRow wd a) ∧ Below w.heap.size w w' := by
  obtain ⟨j0, hj, hy0, hy1, hy2⟩ := info_parts infoIntX
  have h4 : wd = 1 ∨ wd = 2 ∨ wd = 3 ∨ wd = 4 := by omega
  clear h1
  rcases h4 with rfl | rfl | rfl | rfl
  · have hmk := fun W => run_make_rowN (P := Tryd.prog) 24 3 j0 _ Tryd.underlying24 hj hy0 .i64 .i64 2 2 (Nat.le_refl _) (by rw [hy2]; omega) (by omega) W
    rw [hy1] at hmk
    simp at hmk
    have hmf : ∀ (fn : Fn) (first cap : Array Value) (w : World), (Instr.makeFunc fn first cap).run Tryd.prog w = .ok (.func fn first cap) w := fun _ _ _ _ => rfl
    have H := (((((Sep.start w).box 3 #[.int .i64 1]).box 3 (madeCells #[.int .i64 0] 2)).box 24 #[.slice (some ⟨w.heap.size + 1, 0, none⟩) 2 2]).box 110 #[.nilFunc])
    simp only [World.size_alloc] at H
    obtain ⟨g, hg⟩ : ∃ g, g = w.heap.size := ⟨_, rfl⟩
    rw [← hg] at H
    go_enter Tryd.func84, Tryd.ntmps84
    go_upto_region 3 with fail
    rw [← hg]
    generalize (((w.alloc (.cells #[.int .i64 1] 3)).alloc (.cells (madeCells #[.int .i64 0] 2) 3)).alloc (.cells #[.slice (some ⟨g + 1, 0, none⟩) 2 2] 24)).alloc (.cells #[.nilFunc] 110) = W at *
    have c4 : W.cell? ⟨g + 1 + 1 + 1, 0, none⟩ = some .nilFunc := H.h0.cell 0
    have f4 := H.h0.frozen 0
    have H2 := H.set_ 0 (fnDom g (g + 1 + 1) (g + 1 + 1 + 1))
    have em : madeCells #[.int .i64 0] 2 = (ic (List.replicate 2 0)).toArray := by apply Array.ext'; rw [toList_madeCells_one]; rfl
    have D0 : DomAt (W.setCell ⟨g + 1 + 1 + 1, 0, none⟩ (fnDom g (g + 1 + 1) (g + 1 + 1 + 1))) 1 g (g + 1 + 1) (g + 1 + 1 + 1) (g + 1) 2 110 (List.replicate 2 0) := ⟨H2.h3, H2.h1, H2.h0, em ▸ H2.h2, by omega, by omega, by omega, rfl⟩
    have k1 : (W.setCell ⟨g + 1 + 1 + 1, 0, none⟩ (fnDom g (g + 1 + 1) (g + 1 + 1 + 1))).cell? ⟨g + 1 + 1 + 1, 0, none⟩ = some (fnDom g (g + 1 + 1) (g + 1 + 1 + 1)) := H2.h0.cell 0
    have HC : Hid (Calls Tryd.prog 111 #[.int .i64 0, .int .i64 a, .int .i64 0, .pointer (some ⟨g, 0, none⟩), .pointer (some ⟨g + 1 + 1, 0, none⟩), .pointer (some ⟨g + 1 + 1 + 1, 0, none⟩)] (W.setCell ⟨g + 1 + 1 + 1, 0, none⟩ (fnDom g (g + 1 + 1) (g + 1 + 1 + 1))) fun e w' => e = .returned (.tuple #[]) ∧ Only (fun b => b = g + 1) (W.setCell ⟨g + 1 + 1 + 1, 0, none⟩ (fnDom g (g + 1 + 1) (g + 1 + 1 + 1))) w' ∧ DomAt w' 1 g (g + 1 + 1) (g + 1 + 1 + 1) (g + 1) 2 110 (domRow 1 a)) := Lib.hid (by
      have := dom_c a 1 g (g + 1 + 1) (g + 1 + 1 + 1) (g + 1) 2 110 hw (by omega) rfl 1 1 (Nat.le_refl _) 0 0 rfl (by decide) _ _ D0 (fun v hv => by rw [List.eq_of_mem_replicate hv]; decide)
      rw [← addO_row (w := 1) (by decide) ha]
      exact this)
    have HG := Lib.hid hg
    have HB := Lib.hid H2.below
    clear D0 hg em H H2
    go_wp2_with fail
    refine (HC.out).mono ?_
    rintro e w5 ⟨rfl, ho, hh⟩
    have k2 : w5.cell? ⟨g + 1 + 1, 0, none⟩ = some (.slice (some ⟨g + 1, 0, none⟩) 2 2) := hh.bo.cell 0
    go_wp2
    go_ret
    have hg := HG.out
    have hs : (ic (domRow 1 a)).length = 2 := by simp [ic, domRow_len]
    refine ⟨_, rfl, IntsIn.mk (own_of_blk hh.br (by omega) (n := 2) (sz := 1) (by simpa using hs) (xs := ic (domRow 1 a)) (by rw [List.take_of_length_le (by simp [hs])]) (by decide)) rfl (by simp), ?_⟩
    exact ⟨ho.os.trans HB.out.os, ho.tape.trans HB.out.tape, ho.output.trans HB.out.output, Nat.le_trans HB.out.size ho.size, fun b hb => (ho.block b (Nat.lt_of_lt_of_le hb HB.out.size) (by omega)).trans (HB.out.block b hb)⟩
  · have hmk := fun W => run_make_rowN (P := Tryd.prog) 24 3 j0 _ Tryd.underlying24 hj hy0 .i64 .i64 4 4 (Nat.le_refl _) (by rw [hy2]; omega) (by omega) W
    rw [hy1] at hmk
    simp at hmk
    have hmf : ∀ (fn : Fn) (first cap : Array Value) (w : World), (Instr.makeFunc fn first cap).run Tryd.prog w = .ok (.func fn first cap) w := fun _ _ _ _ => rfl
    have H := (((((Sep.start w).box 3 #[.int .i64 2]).box 3 (madeCells #[.int .i64 0] 4)).box 24 #[.slice (some ⟨w.heap.size + 1, 0, none⟩) 4 4]).box 110 #[.nilFunc])
    simp only [World.size_alloc] at H
    obtain ⟨g, hg⟩ : ∃ g, g = w.heap.size := ⟨_, rfl⟩
    rw [← hg] at H
    go_enter Tryd.func84, Tryd.ntmps84
    go_upto_region 3 with fail
    rw [← hg]
    generalize (((w.alloc (.cells #[.int .i64 2] 3)).alloc (.cells (madeCells #[.int .i64 0] 4) 3)).alloc (.cells #[.slice (some ⟨g + 1, 0, none⟩) 4 4] 24)).alloc (.cells #[.nilFunc] 110) = W at *
    have c4 : W.cell? ⟨g + 1 + 1 + 1, 0, none⟩ = some .nilFunc := H.h0.cell 0
    have f4 := H.h0.frozen 0
    have H2 := H.set_ 0 (fnDom g (g + 1 + 1) (g + 1 + 1 + 1))
    have em : madeCells #[.int .i64 0] 4 = (ic (List.replicate 4 0)).toArray := by apply Array.ext'; rw [toList_madeCells_one]; rfl
    have D0 : DomAt (W.setCell ⟨g + 1 + 1 + 1, 0, none⟩ (fnDom g (g + 1 + 1) (g + 1 + 1 + 1))) 2 g (g + 1 + 1) (g + 1 + 1 + 1) (g + 1) 4 110 (List.replicate 4 0) := ⟨H2.h3, H2.h1, H2.h0, em ▸ H2.h2, by omega, by omega, by omega, rfl⟩
    have k1 : (W.setCell ⟨g + 1 + 1 + 1, 0, none⟩ (fnDom g (g + 1 + 1) (g + 1 + 1 + 1))).cell? ⟨g + 1 + 1 + 1, 0, none⟩ = some (fnDom g (g + 1 + 1) (g + 1 + 1 + 1)) := H2.h0.cell 0
    have HC : Hid (Calls Tryd.prog 111 #[.int .i64 0, .int .i64 a, .int .i64 0, .pointer (some ⟨g, 0, none⟩), .pointer (some ⟨g + 1 + 1, 0, none⟩), .pointer (some ⟨g + 1 + 1 + 1, 0, none⟩)] (W.setCell ⟨g + 1 + 1 + 1, 0, none⟩ (fnDom g (g + 1 + 1) (g + 1 + 1 + 1))) fun e w' => e = .returned (.tuple #[]) ∧ Only (fun b => b = g + 1) (W.setCell ⟨g + 1 + 1 + 1, 0, none⟩ (fnDom g (g + 1 + 1) (g + 1 + 1 + 1))) w' ∧ DomAt w' 2 g (g + 1 + 1) (g + 1 + 1 + 1) (g + 1) 4 110 (domRow 2 a)) := Lib.hid (by
      have := dom_c a 2 g (g + 1 + 1) (g + 1 + 1 + 1) (g + 1) 4 110 hw (by omega) rfl 2 2 (Nat.le_refl _) 0 0 rfl (by decide) _ _ D0 (fun v hv => by rw [List.eq_of_mem_replicate hv]; decide)
      rw [← addO_row (w := 2) (by decide) ha]
      exact this)
    have HG := Lib.hid hg
    have HB := Lib.hid H2.below
    clear D0 hg em H H2
    go_wp2_with fail
    refine (HC.out).mono ?_
    rintro e w5 ⟨rfl, ho, hh⟩
    have k2 : w5.cell? ⟨g + 1 + 1, 0, none⟩ = some (.slice (some ⟨g + 1, 0, none⟩) 4 4) := hh.bo.cell 0
    go_wp2
    go_ret
    have hg := HG.out
    have hs : (ic (domRow 2 a)).length = 4 := by simp [ic, domRow_len]
    refine ⟨_, rfl, IntsIn.mk (own_of_blk hh.br (by omega) (n := 4) (sz := 1) (by simpa using hs) (xs := ic (domRow 2 a)) (by rw [List.take_of_length_le (by simp [hs])]) (by decide)) rfl (by simp), ?_⟩
    exact ⟨ho.os.trans HB.out.os, ho.tape.trans HB.out.tape, ho.output.trans HB.out.output, Nat.le_trans HB.out.size ho.size, fun b hb => (ho.block b (Nat.lt_of_lt_of_le hb HB.out.size) (by omega)).trans (HB.out.block b hb)⟩
  · have hmk := fun W => run_make_rowN (P := Tryd.prog) 24 3 j0 _ Tryd.underlying24 hj hy0 .i64 .i64 8 8 (Nat.le_refl _) (by rw [hy2]; omega) (by omega) W
    rw [hy1] at hmk
    simp at hmk
    have hmf : ∀ (fn : Fn) (first cap : Array Value) (w : World), (Instr.makeFunc fn first cap).run Tryd.prog w = .ok (.func fn first cap) w := fun _ _ _ _ => rfl
    have H := (((((Sep.start w).box 3 #[.int .i64 3]).box 3 (madeCells #[.int .i64 0] 8)).box 24 #[.slice (some ⟨w.heap.size + 1, 0, none⟩) 8 8]).box 110 #[.nilFunc])
    simp only [World.size_alloc] at H
    obtain ⟨g, hg⟩ : ∃ g, g = w.heap.size := ⟨_, rfl⟩
    rw [← hg] at H
    go_enter Tryd.func84, Tryd.ntmps84
    go_upto_region 3 with fail
    rw [← hg]
    generalize (((w.alloc (.cells #[.int .i64 3] 3)).alloc (.cells (madeCells #[.int .i64 0] 8) 3)).alloc (.cells #[.slice (some ⟨g + 1, 0, none⟩) 8 8] 24)).alloc (.cells #[.nilFunc] 110) = W at *
    have c4 : W.cell? ⟨g + 1 + 1 + 1, 0, none⟩ = some .nilFunc := H.h0.cell 0
    have f4 := H.h0.frozen 0
    have H2 := H.set_ 0 (fnDom g (g + 1 + 1) (g + 1 + 1 + 1))
    have em : madeCells #[.int .i64 0] 8 = (ic (List.replicate 8 0)).toArray := by apply Array.ext'; rw [toList_madeCells_one]; rfl
    have D0 : DomAt (W.setCell ⟨g + 1 + 1 + 1, 0, none⟩ (fnDom g (g + 1 + 1) (g + 1 + 1 + 1))) 3 g (g + 1 + 1) (g + 1 + 1 + 1) (g + 1) 8 110 (List.replicate 8 0) := ⟨H2.h3, H2.h1, H2.h0, em ▸ H2.h2, by omega, by omega, by omega, rfl⟩
    have k1 : (W.setCell ⟨g + 1 + 1 + 1, 0, none⟩ (fnDom g (g + 1 + 1) (g + 1 + 1 + 1))).cell? ⟨g + 1 + 1 + 1, 0, none⟩ = some (fnDom g (g + 1 + 1) (g + 1 + 1 + 1)) := H2.h0.cell 0
    have HC : Hid (Calls Tryd.prog 111 #[.int .i64 0, .int .i64 a, .int .i64 0, .pointer (some ⟨g, 0, none⟩), .pointer (some ⟨g + 1 + 1, 0, none⟩), .pointer (some ⟨g + 1 + 1 + 1, 0, none⟩)] (W.setCell ⟨g + 1 + 1 + 1, 0, none⟩ (fnDom g (g + 1 + 1) (g + 1 + 1 + 1))) fun e w' => e = .returned (.tuple #[]) ∧ Only (fun b => b = g + 1) (W.setCell ⟨g + 1 + 1 + 1, 0, none⟩ (fnDom g (g + 1 + 1) (g + 1 + 1 + 1))) w' ∧ DomAt w' 3 g (g + 1 + 1) (g + 1 + 1 + 1) (g + 1) 8 110 (domRow 3 a)) := Lib.hid (by
      have := dom_c a 3 g (g + 1 + 1) (g + 1 + 1 + 1) (g + 1) 8 110 hw (by omega) rfl 3 3 (Nat.le_refl _) 0 0 rfl (by decide) _ _ D0 (fun v hv => by rw [List.eq_of_mem_replicate hv]; decide)
      rw [← addO_row (w := 3) (by decide) ha]
      exact this)
    have HG := Lib.hid hg
    have HB := Lib.hid H2.below
    clear D0 hg em H H2
    go_wp2_with fail
    refine (HC.out).mono ?_
    rintro e w5 ⟨rfl, ho, hh⟩
    have k2 : w5.cell? ⟨g + 1 + 1, 0, none⟩ = some (.slice (some ⟨g + 1, 0, none⟩) 8 8) := hh.bo.cell 0
    go_wp2
    go_ret
    have hg := HG.out
    have hs : (ic (domRow 3 a)).length = 8 := by simp [ic, domRow_len]
    refine ⟨_, rfl, IntsIn.mk (own_of_blk hh.br (by omega) (n := 8) (sz := 1) (by simpa using hs) (xs := ic (domRow 3 a)) (by rw [List.take_of_length_le (by simp [hs])]) (by decide)) rfl (by simp), ?_⟩
    exact ⟨ho.os.trans HB.out.os, ho.tape.trans HB.out.tape, ho.output.trans HB.out.output, Nat.le_trans HB.out.size ho.size, fun b hb => (ho.block b (Nat.lt_of_lt_of_le hb HB.out.size) (by omega)).trans (HB.out.block b hb)⟩
  · have hmk := fun W => run_make_rowN (P := Tryd.prog) 24 3 j0 _ Tryd.underlying24 hj hy0 .i64 .i64 16 16 (Nat.le_refl _) (by rw [hy2]; omega) (by omega) W
    rw [hy1] at hmk
    simp at hmk
    have hmf : ∀ (fn : Fn) (first cap : Array Value) (w : World), (Instr.makeFunc fn first cap).run Tryd.prog w = .ok (.func fn first cap) w := fun _ _ _ _ => rfl
    have H := (((((Sep.start w).box 3 #[.int .i64 4]).box 3 (madeCells #[.int .i64 0] 16)).box 24 #[.slice (some ⟨w.heap.size + 1, 0, none⟩) 16 16]).box 110 #[.nilFunc])
    simp only [World.size_alloc] at H
    obtain ⟨g, hg⟩ : ∃ g, g = w.heap.size := ⟨_, rfl⟩
    rw [← hg] at H
    go_enter Tryd.func84, Tryd.ntmps84
    go_upto_region 3 with fail
    rw [← hg]
    generalize (((w.alloc (.cells #[.int .i64 4] 3)).alloc (.cells (madeCells #[.int .i64 0] 16) 3)).alloc (.cells #[.slice (some ⟨g + 1, 0, none⟩) 16 16] 24)).alloc (.cells #[.nilFunc] 110) = W at *
    have c4 : W.cell? ⟨g + 1 + 1 + 1, 0, none⟩ = some .nilFunc := H.h0.cell 0
    have f4 := H.h0.frozen 0
    have H2 := H.set_ 0 (fnDom g (g + 1 + 1) (g + 1 + 1 + 1))
    have em : madeCells #[.int .i64 0] 16 = (ic (List.replicate 16 0)).toArray := by apply Array.ext'; rw [toList_madeCells_one]; rfl
    have D0 : DomAt (W.setCell ⟨g + 1 + 1 + 1, 0, none⟩ (fnDom g (g + 1 + 1) (g + 1 + 1 + 1))) 4 g (g + 1 + 1) (g + 1 + 1 + 1) (g + 1) 16 110 (List.replicate 16 0) := ⟨H2.h3, H2.h1, H2.h0, em ▸ H2.h2, by omega, by omega, by omega, rfl⟩
    have k1 : (W.setCell ⟨g + 1 + 1 + 1, 0, none⟩ (fnDom g (g + 1 + 1) (g + 1 + 1 + 1))).cell? ⟨g + 1 + 1 + 1, 0, none⟩ = some (fnDom g (g + 1 + 1) (g + 1 + 1 + 1)) := H2.h0.cell 0
    have HC : Hid (Calls Tryd.prog 111 #[.int .i64 0, .int .i64 a, .int .i64 0, .pointer (some ⟨g, 0, none⟩), .pointer (some ⟨g + 1 + 1, 0, none⟩), .pointer (some ⟨g + 1 + 1 + 1, 0, none⟩)] (W.setCell ⟨g + 1 + 1 + 1, 0, none⟩ (fnDom g (g + 1 + 1) (g + 1 + 1 + 1))) fun e w' => e = .returned (.tuple #[]) ∧ Only (fun b => b = g + 1) (W.setCell ⟨g + 1 + 1 + 1, 0, none⟩ (fnDom g (g + 1 + 1) (g + 1 + 1 + 1))) w' ∧ DomAt w' 4 g (g + 1 + 1) (g + 1 + 1 + 1) (g + 1) 16 110 (domRow 4 a)) := Lib.hid (by
      have := dom_c a 4 g (g + 1 + 1) (g + 1 + 1 + 1) (g + 1) 16 110 hw (by omega) rfl 4 4 (Nat.le_refl _) 0 0 rfl (by decide) _ _ D0 (fun v hv => by rw [List.eq_of_mem_replicate hv]; decide)
      rw [← addO_row (w := 4) (by decide) ha]
      exact this)
    have HG := Lib.hid hg
    have HB := Lib.hid H2.below
    clear D0 hg em H H2
    go_wp2_with fail
    refine (HC.out).mono ?_
    rintro e w5 ⟨rfl, ho, hh⟩
    have k2 : w5.cell? ⟨g + 1 + 1, 0, none⟩ = some (.slice (some ⟨g + 1, 0, none⟩) 16 16) := hh.bo.cell 0
    go_wp2
    go_ret
    have hg := HG.out
    have hs : (ic (domRow 4 a)).length = 16 := by simp [ic, domRow_len]
    refine ⟨_, rfl, IntsIn.mk (own_of_blk hh.br (by omega) (n := 16) (sz := 1) (by simpa using hs) (xs := ic (domRow 4 a)) (by rw [List.take_of_length_le (by simp [hs])]) (by decide)) rfl (by simp), ?_⟩
    exact ⟨ho.os.trans HB.out.os, ho.tape.trans HB.out.tape, ho.output.trans HB.out.output, Nat.le_trans HB.out.size ho.size, fun b hb => (ho.block b (Nat.lt_of_lt_of_le hb HB.out.size) (by omega)).trans (HB.out.block b hb)⟩
end Go.Proofs.YtdbneilhgckhjaaDoor
