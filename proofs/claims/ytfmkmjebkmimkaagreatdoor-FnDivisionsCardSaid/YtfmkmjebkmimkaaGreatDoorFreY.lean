
/-
  Shapes with one cell more: the reference's walk. All shapes with one cell more: the reference's walk. Shapes of some cells: the reference's walks. Shapes up to motions: the reference's walks.
-/
import Derived.Test.YtfmkmjebkmimkaaGreatDoorFreX
import Derived.Test.YtfmkmjebkmimkaaGreatDoorOriS
import Derived.Test.YtfmkmjebkmimkaaGreatDoorPutX
import Derived.Deep.DeepCutAuto
import Derived.Test.YtfmkmjebkmimkaaGreatDoorPlcX
namespace Go.Proofs.YtfmkmjebkmimkaaGreatDoor
open Go.RowKit

/-- a list of shapes that is only read, of memory behind w0 -/
def ListAt (w0 w : World) (ov : Value) (M : List (List Cell)) : Prop := ∃ go co vs, ov = .slice (some ⟨go, 0, none⟩) M.length co ∧ M.length ≤ co ∧ co ≤ maxLen ∧ Rd w w0.heap.size w.heap.size 1 (some ⟨go, 0, none⟩) M.length vs ∧ SlotsRd w w0.heap.size w.heap.size vs M ∧ Below w0.heap.size w0 w
theorem ListAt.below {w0 w : World} {ov : Value} {M : List (List Cell)} (h : ListAt w0 w ov M) : Below w0.heap.size w0 w := by
  obtain ⟨_, _, _, _, _, _, _, _, h⟩ := h
  exact h
theorem ListAt.step {w0 w w' : World} {ov : Value} {M : List (List Cell)} (h : ListAt w0 w ov M) (hb : Below w.heap.size w w') : ListAt w0 w' ov M := by
  obtain ⟨go, co, vs, e, h1, h2, h3, h4, h5⟩ := h
  exact ⟨go, co, vs, e, h1, h2, (h3.keep (SameIn.of_below hb (Nat.le_refl _))).more (Nat.le_refl _) hb.size, (h4.keep (SameIn.of_below hb (Nat.le_refl _))).more (Nat.le_refl _) hb.size, h5.trans (hb.mono h5.size)⟩
theorem ListAt.rd {w0 w : World} {ov : Value} {M : List (List Cell)} (h : ListAt w0 w ov M) : CellSSRd w w0.heap.size w.heap.size ov M := by
  obtain ⟨go, co, vs, rfl, h1, h2, h3, h4, h5⟩ := h
  exact ⟨vs, ⟨_, _, rfl, Nat.le_trans h1 h2, h3⟩, h4⟩
theorem slots_ins {w : World} {lo hi k : Nat} {vs : List Value} {M : List (List Cell)} {u : Value} {s : List Cell} (h : SlotsRd w lo hi vs M) (hs : CellsRd w lo hi u s) (hk : k ≤ M.length) : SlotsRd w lo hi (vs.take k ++ u :: vs.drop k) (M.take k ++ s :: M.drop k) := by
  have hl := h.1
  refine ⟨by simp [hl], fun i r hr => ?_⟩
  by_cases h1 : i < k
  · rw [List.getElem?_append_left (by rw [List.length_take]; omega), List.getElem?_take, if_pos h1] at hr ⊢
    exact h.2 i r hr
  · rw [List.getElem?_append_right (by rw [List.length_take]; omega), List.length_take] at hr ⊢
    have e1 : min k M.length = k := by omega
    have e2 : min k vs.length = k := by omega
    rw [e1] at hr
    rw [e2]
    by_cases h2 : i = k
    · subst h2
      simp only [Nat.sub_self, List.getElem?_cons_zero] at hr ⊢
      injection hr with hr
      subst hr
      exact ⟨u, rfl, hs⟩
    · obtain ⟨j, hj⟩ : ∃ j, i - k = j + 1 := ⟨i - k - 1, by omega⟩
      rw [hj] at hr ⊢
      simp only [List.getElem?_cons_succ, List.getElem?_drop] at hr ⊢
      exact h.2 _ r hr
set_option maxRecDepth 100000 in
/-- a shape goes into the list -/
theorem list_put {w0 w : World} {ov : Value} {M : List (List Cell)} {As : Option Addr} {cs : Nat} {s : List Cell} (h : ListAt w0 w ov M) (hs : CellsRd w w0.heap.size w.heap.size (.slice As s.length cs) s) (hn : M.length ≤ 900000) (hs8 : s.length ≤ 64) (hM : ∀ r ∈ M, r.length ≤ 64) (hS : SrtS M) :
    Calls Tryz.prog 232 #[ov, .slice As s.length cs] w fun e w' => ∃ v', e = .returned v' ∧ ListAt w0 w' v' (insS s M) ∧ Below w.heap.size w w' := by
  obtain ⟨go, co, vs, rfl, h1, h2, h3, h4, h5⟩ := h
  refine (spec_put_c w (h3.more (Nat.zero_le _) (Nat.le_refl _)) (h4.more (Nat.zero_le _) (Nat.le_refl _)) rfl h1 hn (hs.more (Nat.zero_le _) (Nat.le_refl _)) hs8 hM).mono ?_
  rintro e w' ⟨v', rfl, hb, k, hpa, hor⟩
  refine ⟨v', rfl, ?_, hb⟩
  rcases hor with ⟨h0, hq, rfl⟩ | ⟨hno, ho⟩
  · rw [insS_has hS (List.mem_of_getElem? hq)]
    exact ListAt.step ⟨go, co, vs, rfl, h1, h2, h3, h4, h5⟩ hb
  · have hlen : (insS s M).length = M.length + 1 := by
      rw [hpa.ins hS hno, List.length_append, List.length_cons, List.length_take, List.length_drop]
      have := hpa.le
      omega
    obtain ⟨g3, c3, rfl, hc3, hm3⟩ : ∃ g3 c3, v' = .slice (some ⟨g3, 0, none⟩) (M.length + 1) c3 ∧ M.length + 1 ≤ c3 ∧ c3 ≤ maxLen := by
      rcases OI.cases ho with ⟨_, h0⟩ | ⟨g, c, cs, e, _, _, h3, h4, _⟩
      · cases h0
      · exact ⟨g, c, e, h3, h4⟩
    obtain ⟨A, c, e, _, _, hr⟩ := ho.rd
    injection e with e1 e2 e3
    subst e1 e3
    refine ⟨g3, c3, _, by rw [hlen], by rw [hlen]; exact hc3, hm3, by rw [hlen]; exact hr.more h5.size (Nat.le_refl _), ?_, h5.trans (hb.mono h5.size)⟩
    rw [hpa.ins hS hno]
    exact slots_ins ((h4.keep (SameIn.of_below hb (Nat.le_refl _))).more (Nat.le_refl _) hb.size) ((hs.keep (SameIn.of_below hb (Nat.le_refl _))).more (Nat.le_refl _) hb.size) hpa.le
theorem side_step {c d : Cell} {j : Nat} (h : (sidesS c)[j]? = some d) : ∃ dx dy : Int, Int.tmod (1 - (j : Int)) 2 = dx ∧ Int.tmod (2 - (j : Int)) 2 = dy ∧ (-1 ≤ dx ∧ dx ≤ 1) ∧ (-1 ≤ dy ∧ dy ≤ 1) ∧ c.x + dx = d.x ∧ c.y + dy = d.y := by
  have hj : j < 4 := (List.getElem?_eq_some_iff.1 h).1
  have h4 : j = 0 ∨ j = 1 ∨ j = 2 ∨ j = 3 := by omega
  rcases h4 with rfl | rfl | rfl | rfl
  · injection h with h; subst h; exact ⟨1, 0, by decide, by decide, by decide, by decide, rfl, by simp⟩
  · injection h with h; subst h; exact ⟨0, 1, by decide, by decide, by decide, by decide, by simp, rfl⟩
  · injection h with h; subst h; exact ⟨-1, 0, by decide, by decide, by decide, by decide, by simp; omega, by simp⟩
  · injection h with h; subst h; exact ⟨0, -1, by decide, by decide, by decide, by decide, by simp, by simp; omega⟩
end Go.Proofs.YtfmkmjebkmimkaaGreatDoor

namespace Go.Proofs.YtfmkmjebkmimkaaGreatDoor
open Go.RowKit

theorem sidesS_sml {c d : Cell} (h : Sml 10 c) (hd : d ∈ sidesS c) : Sml 20 d := sides_sml h (sides_mem.2 hd)
theorem snoc_smlH {s : List Cell} (h : isShape s = true) {d : Cell} (hd : Sml 20 d) : ∀ c ∈ sortC (s ++ [d]), Sml 100 c := by
  intro c hc
  obtain ⟨⟨h1, h2⟩, h3, h4⟩ := snoc_sml h hd c (mem_sortC.1 hc)
  exact ⟨⟨by omega, by omega⟩, ⟨by omega, by omega⟩⟩
theorem cells_own2 {w : World} {v : Value} {s : List Cell} {d : Cell} {n : Nat} (h : w.ownsRow 0 120 2 v (0 + n + 1) ([] ++ cc s ++ [.int .i64 d.x, .int .i64 d.y])) (hn : n = s.length) : CellsRd w 0 w.heap.size v (s ++ [d]) := by
  rw [Nat.zero_add, List.nil_append, hn] at h
  exact cells_own h
set_option maxRecDepth 100000 in
set_option maxHeartbeats 3200000 in
theorem extsS_c {v : Value} {s : List Cell} (w : World) (h : CellsRd w 0 w.heap.size v s) (hsh : isShape s = true) (h7 : s.length ≤ 7) :
    Calls Tryz.prog 231 #[v] w fun e w' => ∃ v', e = .returned v' ∧ ListAt w w' v' (exts s) := by
  obtain ⟨i0, hi, hz0, hz1, hz2⟩ := info_parts infoCellF
  have hl := shp_len hsh
  have HIS : Hid (∀ w1, Below w.heap.size w w1 → Calls Tryz.prog 168 #[v] w1 fun e w' => e = .returned (.bool true) ∧ Below w1.heap.size w1 w') := Lib.hid fun w1 b1 => by
    rw [← hsh]
    exact spec_isShape_c w1 (cells_more h b1) (by omega)
  have HHC : Hid (∀ (d : Cell) w1, Below w.heap.size w w1 → Calls Tryz.prog 189 #[v, .int .i64 d.x, .int .i64 d.y] w1 fun e w' => e = .returned (.bool (decide (d ∈ s))) ∧ w1 = w') := Lib.hid fun d w1 b1 => spec_has2_c d.x d.y w1 (cells_more h b1) (by omega)
  have HSO : Hid (∀ (d : Cell) (u : Value) w1, CellsRd w1 0 w1.heap.size u (s ++ [d]) → Calls Tryz.prog 219 #[u] w1 fun e w' => ∃ v', e = .returned v' ∧ CellsIn w' w1.heap.size w'.heap.size v' (sortC (s ++ [d])) ∧ Below w1.heap.size w1 w') := Lib.hid fun d u w1 hu => spec_sort_c w1 hu (by simp; omega)
  have HCO : Hid (∀ (d : Cell) (u : Value) w1, Sml 20 d → CellsRd w1 0 w1.heap.size u (sortC (s ++ [d])) → Calls Tryz.prog 258 #[u] w1 fun e w' => ∃ v', e = .returned v' ∧ CellsIn w' w1.heap.size w'.heap.size v' (extC s d) ∧ Below w1.heap.size w1 w') := Lib.hid fun d u w1 hd hu => l2CornerB_c w1 hu (sortC_pos (by simp)) (by have := sortC_len (s := s ++ [d]); simp at this; omega) (snoc_smlH hsh hd)
  have HON : Hid (∀ c ∈ s, ∀ d ∈ sidesS c, Sml 20 d) := Lib.hid fun c hc d hd => sidesS_sml (shape_sml hsh hc) hd
  have HSC : Hid (∀ c ∈ s, Sml 10 c) := Lib.hid fun c hc => shape_sml hsh hc
  obtain ⟨A, c, rfl, hm, hr⟩ := h
  obtain ⟨n, hn⟩ : ∃ n, n = s.length := ⟨_, rfl⟩
  have HR := Lib.hid hr
  have HN := Lib.hid hn
  rw [← hn] at hl HIS HHC h7 ⊢
  have H0 := (Sep.start w).rowBox 49 #[] 1 0 rfl (by decide)
  have HC1 := Lib.hid (HIS.out _ H0.below)
  have hn8 : ((n : Int) == 8) = false := by simp; omega
  clear hr hsh hm hn HIS
  go_enter Tryz.func231, Tryz.ntmps231
  go_wp2_with fail
  refine (HC1.out).mono ?_
  rintro e w1 ⟨rfl, b1⟩
  have H1 := H0.step b1
  have L1 : ListAt w w1 (.slice (some ⟨w.heap.size, 0, none⟩) 0 0) (putL [] (extL s ((s.take 0).flatMap sidesS))) := by
    refine ⟨w.heap.size, 0, [], rfl, Nat.le_refl _, by decide, ⟨rfl, fun h => absurd h (Nat.lt_irrefl 0)⟩, ⟨rfl, fun i u hu => ?_⟩, H1.below⟩
    simp [putL, extL] at hu
  clear HC1 H0 H1 b1
  go_wp2
  clear hn8
  go_loopw [3, 4] (fun ov iv wx => ∃ (i : Nat) (M : List (List Cell)), i ≤ n ∧ iv = .int .i64 i ∧ M.length ≤ 4 * i ∧ Hid (M = putL [] (extL s ((s.take i).flatMap sidesS))) ∧ ListAt w wx ov M) (fun _ iv _ => n - (intOf iv).toNat)
  case atStart => exact ⟨0, _, Nat.zero_le _, rfl, Nat.le_refl _, Lib.hid rfl, L1⟩
  case round =>
    clear L1
    obtain ⟨i, M, hin, rfl, hmi, HM, L⟩ := hrel
    by_cases hlt : i < n
    · obtain ⟨b, off, cl, rfl, _, hb, hcl, q1, q2⟩ := HR.out.at2 (by rw [← HN.out]; exact hlt)
      have HCL := Lib.hid (List.mem_of_getElem? hcl)
      have HTF : Hid ((s.take (i + 1)).flatMap sidesS = (s.take i).flatMap sidesS ++ sidesS cl) := Lib.hid (take_flat hcl)
      obtain ⟨D, hD⟩ : ∃ D, D = (s.take i).flatMap sidesS := ⟨_, rfl⟩
      rw [← hD] at HM HTF
      have HQ1 := Lib.hid q1
      have HQ2 := Lib.hid q2
      clear hcl hD q1 q2
      go_wp2
      go_loopw [3, 5] (fun ov jv wx => ∃ (j : Nat) (M : List (List Cell)), j ≤ 4 ∧ jv = .int .i64 j ∧ M.length ≤ 4 * i + j ∧ Hid (M = putL [] (extL s (D ++ (sidesS cl).take j))) ∧ ListAt w wx ov M) (fun _ jv _ => 4 - (intOf jv).toNat)
      case atStart => exact ⟨0, M, Nat.zero_le _, rfl, by omega, by rw [List.take_zero, List.append_nil]; exact HM, L⟩
      case round =>
        clear L HM hmi
        obtain ⟨j, M, hj4, rfl, hmj, HM, L⟩ := hrel
        by_cases hlj : j < 4
        · obtain ⟨d, hd⟩ : ∃ d, (sidesS cl)[j]? = some d := ⟨(sidesS cl)[j]'hlj, List.getElem?_eq_getElem _⟩
          have HTJ : Hid (D ++ (sidesS cl).take (j + 1) = (D ++ (sidesS cl).take j) ++ [d]) := Lib.hid (by rw [List.take_add_one, hd, List.append_assoc]; rfl)
          have HSM := Lib.hid (HON.out cl HCL.out d (List.mem_of_getElem? hd))
          obtain ⟨dx, dy, m1, m2, ⟨x1, x2⟩, ⟨y1, y2⟩, s1, s2⟩ := side_step hd
          obtain ⟨⟨a1, a2⟩, a3, a4⟩ := HSC.out cl HCL.out
          have hji : (j : Int) < 4 := by omega
          have k1 : IntKind.i64.wrap (1 - (j : Int)) = 1 - (j : Int) := IntWalk.i64_in _ (by omega)
          have k2 : IntKind.i64.wrap (2 - (j : Int)) = 2 - (j : Int) := IntWalk.i64_in _ (by omega)
          have m3 : IntKind.i64.wrap (Int.tmod (1 - (j : Int)) 2) = dx := by rw [m1]; exact IntWalk.i64_in _ (by omega)
          have m4 : IntKind.i64.wrap (Int.tmod (2 - (j : Int)) 2) = dy := by rw [m2]; exact IntWalk.i64_in _ (by omega)
          have k3 : IntKind.i64.wrap (cl.x + dx) = d.x := by rw [s1]; exact IntWalk.i64_in _ (by omega)
          have k4 : IntKind.i64.wrap (cl.y + dy) = d.y := by rw [s2]; exact IntWalk.i64_in _ (by omega)
          have q1 := (L.below.cell (p := ⟨b, off + i * 2, none⟩) hb).trans HQ1.out
          have q2 := (L.below.cell (p := ⟨b, off + i * 2 + 1, none⟩) hb).trans HQ2.out
          clear hd s1 s2 x1 x2 y1 y2 a1 a2 a3 a4
          go_wp2_with fail
          have hbw : b < wr.heap.size := Nat.lt_of_lt_of_le hb L.below.size
          have q1' : wr.drew.cell? ⟨b, off + i * 2, none⟩ = some (.int .i64 cl.x) := q1
          have q2' : wr.drew.cell? ⟨b, off + i * 2 + 1, none⟩ = some (.int .i64 cl.y) := q2
          go_region_held3 (fun w' => w'.cell? ⟨b, off + i * 2, none⟩ = some (.int .i64 cl.x) ∧ w'.cell? ⟨b, off + i * 2 + 1, none⟩ = some (.int .i64 cl.y))
            (first | ((try dsimp only); refine ⟨?_, ?_⟩ <;> assumption) | go_keep)
            (fail)
          have HB := ((Sep.start wr).box 120 #[.int .i64 d.x, .int .i64 d.y]).drew
          have L2 := L.step HB.below
          have HC := Lib.hid (HHC.out d _ L2.below)
          clear L q1 q2 q1' q2' k1 k2 k3 k4 m1 m2 m3 m4 hbw
          go_wp2_with fail
          refine (HC.out).mono ?_
          rintro e w3 ⟨rfl, rfl⟩
          obtain ⟨B7, hB7⟩ : ∃ B7, B7 = wr.heap.size := ⟨_, rfl⟩
          rw [← hB7] at HB ⊢
          generalize (wr.alloc (.cells #[.int .i64 d.x, .int .i64 d.y] 120)).drew = wb at *
          clear hB7 HC
          by_cases hds : d ∈ s
          · rw [decide_eq_true hds]
            have HP2 : Hid (M = putL [] (extL s (D ++ (sidesS cl).take (j + 1)))) := Lib.hid (by rw [HTJ.out, extL_no (by simp [extOk, hds])]; exact HM.out)
            clear hds HB
            go_wp2
            go_roundw
            case rel => exact ⟨j + 1, M, by omega, by go_num, by omega, HP2, L2⟩
            case measure => simp [intOf]; omega
          · rw [decide_eq_false hds]
            have HDS := Lib.hid hds
            obtain ⟨T, hT⟩ : ∃ T, T = extC s d := ⟨_, rfl⟩
            have HCO2 : Hid (∀ (u : Value) w1, CellsRd w1 0 w1.heap.size u (sortC (s ++ [d])) → Calls Tryz.prog 258 #[u] w1 fun e w' => ∃ v', e = .returned v' ∧ CellsIn w' w1.heap.size w'.heap.size v' T ∧ Below w1.heap.size w1 w') := Lib.hid fun u w1 hu => by rw [hT]; exact HCO.out d u w1 HSM.out hu
            have HTT := Lib.hid hT
            have HBK : Hid (∀ W', Below wb.heap.size wb W' → W'.cell? ⟨B7, 0, none⟩ = some (.int .i64 d.x) ∧ W'.cell? ⟨B7, 1, none⟩ = some (.int .i64 d.y)) := Lib.hid fun W' hb' => ⟨(hb'.cell (p := ⟨B7, 0, none⟩) HB.h0.lt).trans (HB.h0.cell 0), (hb'.cell (p := ⟨B7, 1, none⟩) HB.h0.lt).trans (HB.h0.cell 1)⟩
            have HRS : Hid (∀ W', Below wb.heap.size wb W' → Rd W' 0 w.heap.size 2 (some ⟨b, off, none⟩) n (cc s)) := Lib.hid fun W' hb' => by
              rw [HN.out]
              exact HR.out.below (L2.below.trans (hb'.mono L2.below.size)) (Nat.le_refl _)
            have HSZ : Hid (w.heap.size ≤ wb.heap.size) := Lib.hid L2.below.size
            have HL2 := Lib.hid L2
            have hgB : B7 < wb.heap.size := HB.h0.lt
            have HS := Sep.start wb
            have c0 := (HBK.out _ (below_drew (Below.refl wb.heap.size wb))).1
            have c1 := (HBK.out _ (below_drew (Below.refl wb.heap.size wb))).2
            have HE1 := (HS.rowBox 120 #[] 2 0 rfl (by decide)).drew
            have HE2 := ((HS.rowBox 120 #[] 2 0 rfl (by decide)).rowBox 120 #[.int .i64 d.x, .int .i64 d.y] 2 1 rfl (by decide)).drew.g1
            have HE3 := ((HS.rowBox 120 #[.int .i64 d.x, .int .i64 d.y] 2 1 rfl (by decide)).rowBox 120 #[] 2 0 rfl (by decide)).drew
            have HE4 := (HS.rowBox 120 #[.int .i64 d.x, .int .i64 d.y] 2 1 rfl (by decide)).drew
            have f0 := (HBK.out _ HE1.below).1
            have f1 := (HBK.out _ HE1.below).2
            have g0 := (HBK.out _ HE2.below).1
            have g1 := (HBK.out _ HE2.below).2
            have h0 := (HBK.out _ HE3.below).1
            have h1 := (HBK.out _ HE3.below).2
            have r0 := (HBK.out _ HE4.below).1
            have r1 := (HBK.out _ HE4.below).2
            have R1 := HRS.out _ HE1.below
            have R2 := HRS.out _ HE2.below
            have R3 := HRS.out _ HE3.below
            simp only [World.size_alloc] at HE2 HE3
            clear hds hT HB L2 HS HE4
            go_wp2_with fail
            go_cut [7] (fun tv wx => ∃ A' c', tv = .slice A' T.length c' ∧ Below wb.heap.size wb wx ∧ CellsRd wx w.heap.size wx.heap.size (.slice A' T.length c') T)
            case first =>
              go_region_held3 (fun w' => w'.cell? ⟨B7, 0, none⟩ = some (.int .i64 d.x) ∧ w'.cell? ⟨B7, 1, none⟩ = some (.int .i64 d.y))
                (first | ((try dsimp only); refine ⟨?_, ?_⟩ <;> assumption) | go_keep)
                ((first
                  | (refine step_app rfl (.tmp 54) (.tmp 55) 49 rfl 120 i0 _ 2 16 Tryz.underlying49 hi hz0 hz1 hz2 rfl (by decide) _ _ _ (by rfl) HE1 _ _ _ (cc s) (by rfl) R1 cc_onec (by unfold maxLen; omega) (by omega) ?_; intro v5 w5 H5; have cA := (HBK.out _ H5.below).1; have cB := (HBK.out _ H5.below).2)
                  | (refine step_app rfl (.tmp 54) (.tmp 55) 49 rfl 120 i0 _ 2 16 Tryz.underlying49 hi hz0 hz1 hz2 rfl (by decide) _ _ _ (by rfl) HE2 _ _ _ (cc s) (by rfl) R2 cc_onec (by unfold maxLen; omega) (by omega) ?_; intro v5 w5 H5; have cA := (HBK.out _ H5.below).1; have cB := (HBK.out _ H5.below).2)
                  | (refine step_app rfl (.tmp 54) (.tmp 55) 49 rfl 120 i0 _ 2 16 Tryz.underlying49 hi hz0 hz1 hz2 rfl (by decide) _ _ _ (by rfl) HE3 _ _ _ (cc s) (by rfl) R3 cc_onec (by unfold maxLen; omega) (by omega) ?_; intro v5 w5 H5; have cA := (HBK.out _ H5.below).1; have cB := (HBK.out _ H5.below).2)
                  | (refine step_app rfl (.tmp 56) (.tmp 58) 49 rfl 120 i0 _ 2 16 Tryz.underlying49 hi hz0 hz1 hz2 rfl (by decide) _ _ _ (by rfl) (H5.alloc _) _ _ _ [.int .i64 d.x, .int .i64 d.y] (by rfl) (Rd.fresh w5 _ #[.int .i64 d.x, .int .i64 d.y] 2 1 rfl) oc2 (by unfold maxLen; omega) (by omega) ?_; intro v6 w6 H6; have cC := (HBK.out _ H6.below).1; have cD := (HBK.out _ H6.below).2)
                  | (refine step_app rfl (.tmp 56) (.tmp 58) 49 rfl 120 i0 _ 2 16 Tryz.underlying49 hi hz0 hz1 hz2 rfl (by decide) _ _ _ (by rfl) H5 _ _ _ [.int .i64 d.x, .int .i64 d.y] (by rfl) (own_take (k := 1) H5.h1 (Nat.le_refl _)) oc2 (by unfold maxLen; omega) (by omega) ?_; intro v6 w6 H6; have cC := (HBK.out _ H6.below).1; have cD := (HBK.out _ H6.below).2)
                  | (go_at_call 219; (with_reducible refine (HSO.out d _ _ (cells_own2 H6.own HN.out)).mono ?_); rintro e w7 ⟨u7, rfl, o7, b7⟩; have B67 := H6.below.trans (b7.mono H6.below.size); have e0 := (HBK.out _ B67).1; have e1 := (HBK.out _ B67).2)
                  | (go_at_call 258; (with_reducible refine (HCO2.out _ _ ((CellsIn.rd o7).more (Nat.zero_le _) (Nat.le_refl _))).mono ?_); rintro e w8 ⟨u8, rfl, o8, b8⟩; have B78 := B67.trans (b8.mono B67.size); have e0' := (HBK.out _ B78).1; have e1' := (HBK.out _ B78).2)))
              all_goals
                have R8 := (CellsIn.rd o8).more (Nat.le_trans HSZ.out B67.size) (Nat.le_refl _)
                obtain ⟨A8, c8, rfl, _, _⟩ := id R8
                go_wp2_with fail
                go_meet
                exact ⟨_, _, rfl, B78, R8⟩
            case rest =>
              obtain ⟨A6, c6, rfl, B6, R6⟩ := hcut
              generalize hwc : wc = w7 at *
              clear hwc c0 c1 f0 f1 g0 g1 h0 h1 r0 r1 R1 R2 R3 HE1 HE2 HE3 hgB HBK HRS HCO2
              have L3 := HL2.out.step B6
              have hTl : T.length ≤ 9 := by rw [HTT.out]; have := extC_len (s := s) (d := d); have := HN.out; omega
              have HI := Lib.hid (spec_isShape_c w7 (R6.more (Nat.zero_le _) (Nat.le_refl _)) (by omega))
              have HR6 := Lib.hid R6
              clear B6 R6
              go_wp2_with fail
              refine (HI.out).mono ?_
              rintro e w8 ⟨rfl, b8⟩
              have L4 := L3.step b8
              have R7 := (HR6.out.keep (SameIn.of_below b8 (Nat.le_refl _))).more (Nat.le_refl _) b8.size
              clear HI b8 L3
              cases hst : isShape T
              · have HP2 : Hid (M = putL [] (extL s (D ++ (sidesS cl).take (j + 1)))) := Lib.hid (by rw [HTJ.out, extL_no (by rw [extOk, ← HTT.out, hst, Bool.and_false])]; exact HM.out)
                clear hst R7
                go_wp2
                go_roundw
                case rel => exact ⟨j + 1, M, by omega, by go_num, by omega, HP2, L4⟩
                case measure => simp [intOf]; omega
              · have HST : Hid (extOk s d = true) := Lib.hid (by rw [extOk, ← HTT.out, hst, decide_eq_false HDS.out]; rfl)
                have HPUT := Lib.hid (list_put L4 R7 (by omega) (by omega) (fun r hr => by
                  rw [HM.out] at hr
                  have := shp_len (extL_row hr)
                  omega) (by rw [HM.out]; exact srt_putL List.Pairwise.nil))
                clear hst L4 R7
                go_wp2_with fail
                refine (HPUT.out).mono ?_
                rintro e w9 ⟨v9, rfl, L9, _⟩
                have HP2 : Hid (insS T M = putL [] (extL s (D ++ (sidesS cl).take (j + 1)))) := Lib.hid (by rw [HM.out, HTT.out, HTJ.out, extL_yes HST.out, putL_snoc])
                have hm9 : (insS T M).length ≤ M.length + 1 := insS_len
                have HL9 := Lib.hid L9
                obtain ⟨g9, c9, vs9, e9, _⟩ := L9
                subst e9
                clear HPUT
                go_wp2
                go_roundw
                case rel => exact ⟨j + 1, insS T M, by omega, by go_num, by omega, HP2, HL9.out⟩
                case measure => simp [intOf]; omega
        · obtain rfl : j = 4 := by omega
          have HP2 : Hid (M = putL [] (extL s ((s.take (i + 1)).flatMap sidesS))) := Lib.hid (by rw [HM.out, HTF.out]; rfl)
          go_wp2
          go_roundw
          case rel => exact ⟨i + 1, M, by omega, by go_num, by omega, HP2, L⟩
          case measure => simp [intOf]; omega
    · obtain rfl : i = n := by omega
      have HP2 : Hid (M = exts s) := Lib.hid (by rw [HM.out, HN.out, List.take_length]; rfl)
      go_wp2
      go_ret
      exact ⟨_, rfl, by rw [← HP2.out]; exact L⟩
end Go.Proofs.YtfmkmjebkmimkaaGreatDoor

namespace Go.Proofs.YtfmkmjebkmimkaaGreatDoor
open Go.RowKit

theorem list_mk {w0 w : World} {v : Value} {M : List (List Cell)} {vs : List Value} (ho : OI w w0.heap.size w.heap.size 49 1 v M.length vs) (h0 : v ≠ .slice none 0 0) (hs : SlotsRd w w0.heap.size w.heap.size vs M) (hb : Below w0.heap.size w0 w) : ListAt w0 w v M := by
  rcases OI.cases ho with ⟨e, _⟩ | ⟨g, c, cs, rfl, _, _, h3, h4, _⟩
  · exact absurd e h0
  · obtain ⟨A, c2, e, _, _, hr⟩ := ho.rd
    injection e with e1 e2 e3
    subst e1 e3
    exact ⟨g, c, vs, rfl, h3, h4, hr, hs, hb⟩
theorem list_nil {w0 w : World} (hb : Below w0.heap.size w0 w) : ListAt w0 (w.alloc (.cells #[] 49)) (.slice (some ⟨w.heap.size, 0, none⟩) 0 0) [] :=
  ⟨_, 0, [], rfl, Nat.le_refl _, by decide, ⟨rfl, fun h => absurd h (Nat.lt_irrefl 0)⟩, ⟨rfl, fun i u hu => by simp at hu⟩, hb.alloc hb.size _⟩
theorem ListAt.base {w0 w1 w : World} {v : Value} {M : List (List Cell)} (h : ListAt w1 w v M) (hb : Below w0.heap.size w0 w1) : ListAt w0 w v M := by
  obtain ⟨go, co, vs, e, h1, h2, h3, h4, h5⟩ := h
  exact ⟨go, co, vs, e, h1, h2, h3.more hb.size (Nat.le_refl _), h4.more hb.size (Nat.le_refl _), hb.trans (h5.mono hb.size)⟩
/-- a shape of the list -/
theorem ListAt.at {w0 w : World} {g o n c : Nat} {M : List (List Cell)} (h : ListAt w0 w (.slice (some ⟨g, o, none⟩) n c) M) {i : Nat} {s : List Cell} (hi : M[i]? = some s) : o = 0 ∧ n = M.length ∧ ∃ x, w.cell? ⟨g, i, none⟩ = some x ∧ CellsRd w w0.heap.size w.heap.size x s := by
  obtain ⟨go, co, vs, e, h1, h2, h3, h4, h5⟩ := h
  injection e with e1 e2 e3
  injection e1 with e1
  injection e1 with e1 e4
  subst e1 e4
  obtain ⟨x, hx, hr⟩ := h4.2 i s hi
  obtain ⟨b, off, e, _, _, hc⟩ := h3.2 (by have := (List.getElem?_eq_some_iff.1 hi).1; omega)
  injection e with e
  injection e with e5 e6
  subst e5 e6
  have := hc i x hx
  rw [Nat.zero_add] at this
  exact ⟨rfl, e2, x, this, hr⟩
theorem ListAt.shape {w0 w : World} {v : Value} {M : List (List Cell)} (h : ListAt w0 w v M) : ∃ g c, v = .slice (some ⟨g, 0, none⟩) M.length c := by
  obtain ⟨go, co, _, e, _⟩ := h
  exact ⟨go, co, e⟩
set_option maxRecDepth 100000 in
set_option maxHeartbeats 3200000 in
theorem fixedSp_c (n : Int) (w : World) :
    Calls Tryz.prog 179 #[.int .i64 n] w fun e w' => ∃ v', e = .returned v' ∧ ListAt w w' v' (fixedS n) := by
  obtain ⟨i0, hi, hz0, hz1, hz2⟩ := info_parts infoSlF
  have hbw : Hid (∀ w1, Calls Tryz.prog 95 #[.int .i64 n, .int .i64 1, .int .i64 5] w1 fun e w' => e = .returned (.bool (inR n 1 5)) ∧ w1 = w') := Lib.hid fun w1 => l1In_r _ _ _ _
  have L0 := list_nil (Below.refl w.heap.size w)
  cases hin : inR n 1 5
  · rw [hin] at hbw
    have HF : Hid (fixedS n = []) := Lib.hid (by rw [fixedS, hin]; rfl)
    clear hin
    go_enter Tryz.func179, Tryz.ntmps179
    go_wp2_with fail
    refine (hbw.out _).mono ?_
    rintro e w1 ⟨rfl, rfl⟩
    go_wp2
    go_ret
    exact ⟨_, rfl, by rw [HF.out]; exact L0⟩
  · have hn := inR_iff.1 hin
    obtain ⟨n, rfl⟩ : ∃ k : Nat, n = (k : Int) := ⟨n.toNat, by omega⟩
    rw [hin] at hbw
    have HF : Hid (fixedS (n : Int) = fixedN (n - 1)) := Lib.hid (by rw [fixedS, hin]; rfl)
    have hn1 : 1 ≤ n := by omega
    have hn5 : n ≤ 5 := by omega
    have HA := (Sep.start w).rowBox 49 #[] 1 0 rfl (by decide)
    have HB : Sep w _ (Res.row _ 120 2 1 (cc [(⟨0, 0⟩ : Cell)]) :: _) := HA.rowBox 120 #[.int .i64 0, .int .i64 0] 2 1 rfl (by decide)
    have HFR := Rd.fresh ((w.alloc (.cells #[] 49)).alloc (.cells #[.int .i64 0, .int .i64 0] 120)) 49 #[.slice (some ⟨w.heap.size + 1, 0, none⟩) 1 1] 1 1 rfl
    simp only [World.size_alloc] at HB HFR
    clear hin hn HA L0
    go_enter Tryz.func179, Tryz.ntmps179
    go_wp2_with fail
    refine (hbw.out _).mono ?_
    rintro e w1 ⟨rfl, rfl⟩
    go_wp2_with (at_builtin; refine wpList_app rfl _ _ 31 rfl 49 i0 _ 1 24 Tryz.underlying31 hi hz0 hz1 hz2 rfl (by decide) _ _ _ rfl (HB.g1.alloc _) _ _ _ [.slice (some ⟨w.heap.size + 1, 0, none⟩) 1 1] rfl HFR (ocv2 rfl) (by unfold maxLen; omega) (by omega) ?_; intro v4 w4 H4; clear HB HFR)
    have L1 : ListAt w w4 v4 (fixedN (1 - 1)) := by
      refine list_mk (M := [[(⟨0, 0⟩ : Cell)]]) (vs := [.slice (some ⟨w.heap.size + 1, 0, none⟩) 1 1]) H4.oi ?_ ⟨rfl, fun i u hu => ?_⟩ H4.below
      · obtain ⟨g, o, c, e, _⟩ := own_shape H4.h0 (by decide)
        rw [e]
        intro h; cases h
      · match i, hu with
        | 0, hu =>
          simp at hu
          subst hu
          exact ⟨_, rfl, OI.sr (H4.g1.oi)⟩
    clear H4
    go_wp2
    go_loopw [3, 4] (fun ov kv wx => ∃ (k : Nat), 1 ≤ k ∧ k ≤ n ∧ kv = .int .i64 k ∧ ListAt w wx ov (fixedN (k - 1))) (fun _ kv _ => n - (intOf kv).toNat)
    case atStart => exact ⟨1, Nat.le_refl _, hn1, rfl, L1⟩
    case round =>
      clear L1
      obtain ⟨k, hk1, hkn, rfl, L⟩ := hrel
      by_cases hlt : k < n
      · obtain ⟨F, hF⟩ : ∃ F, F = fixedN (k - 1) := ⟨_, rfl⟩
        have hF8 : F.length ≤ 8000 := by
          rw [hF]
          exact Nat.le_trans (fixedN_len _ (by omega)) (Nat.le_trans (Nat.pow_le_pow_right (by decide) (show k - 1 ≤ 3 by omega)) (by decide))
        have HFR : Hid (∀ t ∈ F, isShape t = true ∧ t.length ≤ 5) := Lib.hid fun t ht => by
          rw [hF] at ht
          have := fixedN_row _ t ht
          exact ⟨this.1, by omega⟩
        have HGR : Hid (fixedN k = putL [] (F.flatMap exts)) := Lib.hid (by
          obtain ⟨q, rfl⟩ : ∃ q, k = q + 1 := ⟨k - 1, by omega⟩
          rw [hF]; rfl)
        rw [← hF] at L
        obtain ⟨m, hm⟩ : ∃ m, m = F.length := ⟨_, rfl⟩
        rw [← hm] at hF8
        have HMF := Lib.hid hm
        obtain ⟨go, co, ho3⟩ := L.shape
        subst ho3
        have LF := L.step ((Below.refl wr.heap.size wr).alloc (Nat.le_refl _) (.cells #[] 49))
        have LQ := list_nil L.below
        rw [← hm] at LF ⊢
        clear L hF hm
        go_wp2
        go_loopw [5, 6] (fun nv iv wx => ∃ (i : Nat) (Q : List (List Cell)), i ≤ m ∧ iv = .int .i64 i ∧ Hid (Q = putL [] ((F.take i).flatMap exts)) ∧ ListAt w wx nv Q ∧ ListAt w wx (.slice (some ⟨go, 0, none⟩) m co) F) (fun _ iv _ => m - (intOf iv).toNat)
        case atStart => exact ⟨0, [], Nat.zero_le _, rfl, Lib.hid rfl, LQ, LF⟩
        case round =>
          clear LQ LF
          obtain ⟨i, Q, him, rfl, HQ, LQ, LF⟩ := hrel
          by_cases hlti : i < m
          · obtain ⟨s, hs⟩ : ∃ s, F[i]? = some s := ⟨F[i]'(by rw [← HMF.out]; exact hlti), List.getElem?_eq_getElem _⟩
            obtain ⟨-, -, x, x1, xr⟩ := LF.at hs
            have hpm := List.mem_of_getElem? hs
            have HFX : Hid ((F.take (i + 1)).flatMap exts = (F.take i).flatMap exts ++ exts s) := Lib.hid (take_flatG hs)
            have HXL : Hid (((F.take i).flatMap exts).length ≤ i * 20) := Lib.hid (by
              have h2 := flat_lenM (l := F.take i) (f := exts) (k := 20) (fun t ht => by
                have h3 := (HFR.out t (List.mem_of_mem_take ht)).2
                have h4 := exts_len (s := t)
                omega)
              rw [List.length_take] at h2
              exact Nat.le_trans h2 (Nat.mul_le_mul_right _ (Nat.min_le_left _ _)))
            have hs5 := (HFR.out s hpm).2
            have hel : (exts s).length ≤ 20 := by have := exts_len (s := s); omega
            have HC := Lib.hid (extsS_c wr (xr.more (Nat.zero_le _) (Nat.le_refl _)) (HFR.out s hpm).1 (by omega))
            obtain ⟨Ax, cx, hxe, _, _⟩ := xr
            subst hxe
            have hlti2 : (i : Int) < (m : Int) := by omega
            clear hs hpm hs5
            go_wp2_with fail
            refine (HC.out).mono ?_
            rintro e w2 ⟨ve, rfl, LE⟩
            have LQ2 := LQ.step LE.below
            have LF2 := LF.step LE.below
            have LE2 := LE.base LQ.below
            obtain ⟨E, hE⟩ : ∃ E, E = exts s := ⟨_, rfl⟩
            obtain ⟨en, hen⟩ : ∃ en, en = E.length := ⟨_, rfl⟩
            rw [← hE] at LE2 hel HFX
            obtain ⟨ge, ce, hve⟩ := LE2.shape
            subst hve
            rw [← hen] at LE2 hel ⊢
            have HE := Lib.hid hE
            have HEN := Lib.hid hen
            obtain ⟨X, hX⟩ : ∃ X, X = (F.take i).flatMap exts := ⟨_, rfl⟩
            have HX := Lib.hid hX
            rw [← hX] at HQ HFX HXL
            clear HC x1 LE LQ LF hE hen hX
            go_wp2
            go_loopw [5, 8] (fun nv jv wx => ∃ (j : Nat) (Q : List (List Cell)), j ≤ en ∧ jv = .int .i64 j ∧ Hid (Q = putL [] (X ++ E.take j)) ∧ ListAt w wx nv Q ∧ ListAt w wx (.slice (some ⟨go, 0, none⟩) m co) F ∧ ListAt w wx (.slice (some ⟨ge, 0, none⟩) en ce) E) (fun _ jv _ => en - (intOf jv).toNat)
            case atStart => exact ⟨0, Q, Nat.zero_le _, rfl, by rw [List.take_zero, List.append_nil]; exact HQ, LQ2, LF2, LE2⟩
            case round =>
              clear LQ2 LF2 LE2 HQ
              obtain ⟨j, Q, hje, rfl, HQ, LQ, LF, LE⟩ := hrel
              by_cases hltj : j < en
              · obtain ⟨t, ht⟩ : ∃ t, E[j]? = some t := ⟨E[j]'(by rw [← HEN.out]; exact hltj), List.getElem?_eq_getElem _⟩
                obtain ⟨-, -, x, x1, xr⟩ := LE.at ht
                have htm : t ∈ exts s := by rw [← HE.out]; exact List.mem_of_getElem? ht
                have HTJ : Hid (X ++ E.take (j + 1) = (X ++ E.take j) ++ [t]) := Lib.hid (by rw [List.take_add_one, ht, List.append_assoc]; rfl)
                have ht8 := shp_len (exts_row htm).1
                have hq9 : Q.length ≤ 900000 := by
                  have h1 := putL_len (L := X ++ E.take j) (M := [])
                  rw [← HQ.out, List.length_nil, List.length_append, List.length_take] at h1
                  have h2 := HXL.out
                  omega
                obtain ⟨Bt, ct, hbt, _, _⟩ := id xr
                subst hbt
                have HPUT := Lib.hid (list_put LQ xr hq9 (by omega) (fun r hr => by
                  rw [HQ.out, HX.out, HE.out] at hr
                  exact grow_row hr) (by rw [HQ.out]; exact srt_putL List.Pairwise.nil))
                have HLF := Lib.hid LF
                have HLE := Lib.hid LE
                have HLQ := Lib.hid LQ
                clear ht htm ht8 hq9 xr LQ LF LE
                go_wp2_with fail
                refine (HPUT.out).mono ?_
                rintro e w9 ⟨v9, rfl, L9, b9⟩
                have HP2 : Hid (insS t Q = putL [] (X ++ E.take (j + 1))) := Lib.hid (by rw [HQ.out, HTJ.out, putL_snoc])
                have LF9 := HLF.out.step b9
                have LE9 := HLE.out.step b9
                have HL9 := Lib.hid L9
                obtain ⟨g9, c9, e9⟩ := L9.shape
                subst e9
                clear HPUT x1 b9 L9
                go_wp2
                go_roundw
                case rel => exact ⟨j + 1, insS t Q, by omega, by go_num, HP2, HL9.out, LF9, LE9⟩
                case measure => simp [intOf]; omega
              · obtain rfl : j = en := by omega
                have HQ2 : Hid (Q = putL [] ((F.take (i + 1)).flatMap exts)) := Lib.hid (by rw [HQ.out, HFX.out, HEN.out, List.take_length])
                go_wp2
                go_roundw
                case rel => exact ⟨i + 1, Q, by omega, by go_num, HQ2, LQ, LF⟩
                case measure => simp [intOf]; omega
          · obtain rfl : i = m := by omega
            have HQ2 : Hid (Q = fixedN (k + 1 - 1)) := Lib.hid (by rw [HQ.out, HMF.out, List.take_length, Nat.add_sub_cancel, HGR.out])
            rw [HQ2.out] at LQ
            go_wp2
            go_roundw
            case rel => exact ⟨k + 1, by omega, by omega, by go_num, LQ⟩
            case measure => simp [intOf]; omega
      · obtain rfl : k = n := by omega
        go_wp2
        go_ret
        exact ⟨_, rfl, by rw [HF.out]; exact L⟩
end Go.Proofs.YtfmkmjebkmimkaaGreatDoor

namespace Go.Proofs.YtfmkmjebkmimkaaGreatDoor
open Go.RowKit

set_option maxRecDepth 100000 in
set_option maxHeartbeats 800000 in
theorem least4_c {v : Value} {s : List Cell} (w : World) (h : CellsRd w 0 w.heap.size v s) (hsh : isShape s = true) :
    Calls Tryz.prog 180 #[v, .int .i64 8] w fun e w' => e = .returned (.bool (firstS s)) ∧ Below w.heap.size w w' := by
  have HTU : Hid (∀ (m : Nat) w1, m < 8 → Below w.heap.size w w1 → Calls Tryz.prog 234 #[v, .int .i64 m] w1 fun e w' => ∃ v', e = .returned v' ∧ CellsIn w' w1.heap.size w'.heap.size v' (turnS m s) ∧ Below w1.heap.size w1 w') := Lib.hid fun m w1 hm b1 =>
    spec_turn_c m w1 (cells_more h b1) hm (shp_len hsh).1 (by have := shp_len hsh; omega) (shp_sml hsh)
  have HCM : Hid (∀ (k : Nat) (u : Value) w1, CellsRd w1 0 w1.heap.size u (turnS k s) → Below w.heap.size w w1 → Calls Tryz.prog 233 #[u, v] w1 fun e w' => e = .returned (.int .i64 (cmpS (turnS k s) s)) ∧ Below w1.heap.size w1 w') := Lib.hid fun k u w1 hu b1 =>
    spec_cmp_c w1 hu (cells_more h b1) (by have := shp_len hsh; have := turnS_len (m := k) (s := s); omega)
  obtain ⟨R, hR⟩ : ∃ R, R = firstS s := ⟨_, rfl⟩
  rw [← hR]
  have HR := Lib.hid hR
  obtain ⟨A, c, rfl, _, _⟩ := h
  clear hR hsh
  go_enter Tryz.func180, Tryz.ntmps180
  go_wp2
  go_loopw [5] (fun kv wx => ∃ k : Nat, k ≤ 8 ∧ kv = .int .i64 k ∧ Hid (allTo s k = true) ∧ Below w.heap.size w wx) (fun kv _ => 8 - (intOf kv).toNat)
  case atStart => exact ⟨0, Nat.zero_le _, rfl, Lib.hid rfl, Below.refl _ _⟩
  case round =>
    obtain ⟨k, hk8, rfl, HA, hbel⟩ := hrel
    by_cases hlt : k < 8
    · have hltki : (k : Int) < 8 := by omega
      have HC := Lib.hid (HTU.out k wr hlt hbel)
      go_wp2_with fail
      refine (HC.out).mono ?_
      rintro e w3 ⟨v3, rfl, o3, b3⟩
      have hb3 := hbel.trans (b3.mono hbel.size)
      have HC2 := Lib.hid (HCM.out k v3 w3 ((CellsIn.rd o3).more (Nat.zero_le _) (Nat.le_refl _)) hb3)
      obtain ⟨A3, c3, rfl, _, _⟩ := o3.rd
      clear HC o3 b3
      go_wp2_with fail
      refine (HC2.out).mono ?_
      rintro e w4 ⟨rfl, b4⟩
      have hb4 := hb3.trans (b4.mono hb3.size)
      have HS : Hid (allTo s (k + 1) = !decide (cmpS (turnS k s) s < 0)) := Lib.hid (by
        unfold allTo at HA ⊢
        rw [firstTo_succ, HA.out]; rfl)
      obtain ⟨z, hz⟩ : ∃ z, z = cmpS (turnS k s) s := ⟨_, rfl⟩
      rw [← hz] at HS ⊢
      have HZ := Lib.hid hz
      clear HC2 b4 hb3 hz
      by_cases hzn : z < 0
      · obtain rfl : R = false := by
          rw [HR.out]
          unfold firstS
          rw [List.all_eq_false]
          exact ⟨k, List.mem_range.2 hlt, by rw [← HZ.out, decide_eq_true hzn]; simp⟩
        go_wp2
        go_ret
        exact ⟨rfl, hb4⟩
      · have HA2 : Hid (allTo s (k + 1) = true) := Lib.hid (by rw [HS.out, decide_eq_false hzn]; rfl)
        go_wp2
        go_roundw
        case rel => exact ⟨k + 1, by omega, by go_num, HA2, hb4⟩
        case measure => simp [intOf]; omega
    · obtain rfl : k = 8 := by omega
      obtain rfl : R = true := by rw [HR.out]; exact HA.out
      go_wp2
      go_ret
      exact ⟨rfl, hbel⟩
/-- the values of a list beside its shapes -/
theorem zip_slots {w : World} {lo hi : Nat} {vs : List Value} {M : List (List Cell)} (h : SlotsRd w lo hi vs M) : ∃ P : List (Value × List Cell), P.map Prod.fst = vs ∧ P.map Prod.snd = M ∧ ∀ p ∈ P, CellsRd w lo hi p.1 p.2 := by
  refine ⟨vs.zip M, List.map_fst_zip (by rw [h.1]; exact Nat.le_refl _), List.map_snd_zip (by rw [h.1]; exact Nat.le_refl _), fun p hp => ?_⟩
  obtain ⟨i, hi⟩ := List.getElem?_of_mem hp
  rw [List.getElem?_zip_eq_some] at hi
  obtain ⟨x, hx, hr⟩ := h.2 i p.2 hi.2
  rw [hi.1] at hx
  injection hx with hx
  rw [hx]
  exact hr
theorem slots_of {w : World} {lo hi : Nat} {P : List (Value × List Cell)} (h : ∀ p ∈ P, CellsRd w lo hi p.1 p.2) : SlotsRd w lo hi (P.map Prod.fst) (P.map Prod.snd) :=
  ⟨by simp, fun i u hu => by
    rw [List.getElem?_map] at hu
    obtain ⟨p, hp, rfl⟩ := Option.map_eq_some_iff.1 hu
    exact ⟨p.1, by rw [List.getElem?_map, hp]; rfl, h p (List.mem_of_getElem? hp)⟩⟩
/-- a list of shapes as an area of memory -/
structure PairsAt (lo hi : Nat) (W : World) (g n c : Nat) (P : List (Value × List Cell)) : Prop where
  len : n = P.length
  cell : ∀ (i : Nat) (p : Value × List Cell), P[i]? = some p → W.cell? ⟨g, i, none⟩ = some p.1
  at_ : 0 < n → lo ≤ g ∧ g < hi
  rd : ∀ p ∈ P, CellsRd W lo hi p.1 p.2
theorem ListAt.pairs {w0 w : World} {v : Value} {M : List (List Cell)} (h : ListAt w0 w v M) : ∃ g c P, v = .slice (some ⟨g, 0, none⟩) M.length c ∧ P.map Prod.snd = M ∧ PairsAt w0.heap.size w.heap.size w g M.length c P := by
  obtain ⟨go, co, vs, e, h1, h2, h3, h4, h5⟩ := h
  obtain ⟨P, hP1, hP2, hP3⟩ := zip_slots h4
  refine ⟨go, co, P, e, hP2, by rw [← hP2, List.length_map], fun i p hp => ?_, fun h0 => ?_, hP3⟩
  · have hi : i < M.length := by rw [← hP2, List.length_map]; exact (List.getElem?_eq_some_iff.1 hp).1
    obtain ⟨b, off, e', _, _, hc⟩ := h3.2 (by omega)
    injection e' with e'
    injection e' with e5 e6
    subst e5 e6
    have := hc i p.1 (by rw [← hP1, List.getElem?_map, hp]; rfl)
    rwa [Nat.zero_add] at this
  · obtain ⟨b, off, e', h6, h7, _⟩ := h3.2 h0
    injection e' with e'
    injection e' with e5 e6
    subst e5 e6
    exact ⟨h6, h7⟩
set_option maxRecDepth 100000 in
set_option maxHeartbeats 1600000 in
theorem freeSp_c (n : Int) (w : World) :
    Calls Tryz.prog 109 #[.int .i64 n] w fun e w' => ∃ v', e = .returned v' ∧ ListAt w w' v' (freeS n) := by
  obtain ⟨i0, hi, hz0, hz1, hz2⟩ := info_parts infoSlF
  have H0 := (Sep.start w).rowBox 49 #[] 1 0 rfl (by decide)
  have HC := Lib.hid (fixedSp_c n (w.alloc (.cells #[] 49)))
  go_enter Tryz.func109, Tryz.ntmps109
  go_wp2_with fail
  refine (HC.out).mono ?_
  rintro e w2 ⟨vf, rfl, L⟩
  obtain ⟨g, c, P, rfl, hP, HPA⟩ := L.pairs
  have H1 := (H0.same L.below).g1
  obtain ⟨lo, hlo⟩ : ∃ lo, lo = (w.alloc (.cells #[] 49)).heap.size := ⟨_, rfl⟩
  have hlow : w.heap.size ≤ lo := by rw [hlo]; simp
  rw [← hlo] at HPA H1
  obtain ⟨m, hm⟩ : ∃ m, m = (fixedS n).length := ⟨_, rfl⟩
  rw [← hm] at HPA ⊢
  have hm16 : m ≤ 160000 := by rw [hm]; exact fixedS_len
  have HP := Lib.hid hP
  have HPP := Lib.hid HPA
  have HM := Lib.hid HPA.len
  have HR : Hid (∀ p ∈ P, isShape p.2 = true) := Lib.hid fun p hp => (fixedS_row (n := n) (by rw [← hP]; exact List.mem_map.2 ⟨p, hp, rfl⟩)).1
  clear HC L H0 hP HPA hlo hm
  go_wp2
  go_loopw [3, 5] (fun ov iv wx => ∃ (i q go co : Nat), i ≤ m ∧ iv = .int .i64 i ∧ ov = .slice (some ⟨go, 0, none⟩) q co ∧ Hid (q = ((P.take i).filter fun p => firstS p.2).length) ∧ q ≤ i ∧ Sep w wx [Res.row (.slice (some ⟨go, 0, none⟩) q co) 49 1 q (((P.take i).filter fun p => firstS p.2).map Prod.fst), Res.same lo w2.heap.size w2]) (fun _ iv _ => m - (intOf iv).toNat)
  case atStart => exact ⟨0, 0, _, _, Nat.zero_le _, rfl, rfl, Lib.hid rfl, Nat.le_refl _, H1⟩
  case round =>
    clear H1
    obtain ⟨i, q, go, co, him, rfl, rfl, HQ, hqi, H⟩ := hrel
    by_cases hlt : i < m
    · obtain ⟨p, hp⟩ : ∃ p, P[i]? = some p := ⟨P[i]'(by rw [← HM.out]; exact hlt), List.getElem?_eq_getElem _⟩
      obtain ⟨hg1, hg2⟩ := HPP.out.at_ (by omega)
      have x0 := HPP.out.cell i p hp
      have x1 : wr.cell? ⟨g, i, none⟩ = some p.1 := (same_cell H.h1 hg1 hg2).trans x0
      have HPM := Lib.hid (List.mem_of_getElem? hp)
      have HST : Hid ((P.take (i + 1)).filter (fun p => firstS p.2) = (P.take i).filter (fun p => firstS p.2) ++ if firstS p.2 = true then [p] else []) := Lib.hid (pfilter_snoc hp)
      have hw2 : w2.heap.size ≤ wr.heap.size := by
        have := H.h1.2
        exact this (by omega)
      have hsr : CellsRd wr 0 wr.heap.size p.1 p.2 := ((HPP.out.rd p HPM.out).keep (same_of H.h1)).more (Nat.zero_le _) hw2
      have hsh := HR.out p HPM.out
      have X0 := Lib.hid x0
      obtain ⟨pv, s⟩ := p
      simp only at hsr hsh x1 HST x0 X0
      have HC := Lib.hid (least4_c wr hsr hsh)
      obtain ⟨Ap, cp, hpe, _, _⟩ := hsr
      subst hpe
      clear hsh hp x0
      go_wp2_with fail
      refine (HC.out).mono ?_
      rintro e w3 ⟨rfl, b3⟩
      have H3 := H.step b3
      have x1' : w3.cell? ⟨g, i, none⟩ = some (.slice Ap s.length cp) := (same_cell H3.h1 hg1 hg2).trans X0.out
      clear HC b3 H x1
      cases hbf : firstS s
      · have hst := HST.out
        rw [hbf] at hst
        simp only [Bool.false_eq_true, if_false, List.append_nil] at hst
        have HS := Lib.hid hst
        have HQ2 : Hid (q = ((P.take (i + 1)).filter fun p => firstS p.2).length) := Lib.hid (by rw [HS.out]; exact HQ.out)
        rw [← HS.out] at H3
        clear hst hbf x1'
        go_wp2
        go_roundw
        case rel => exact ⟨i + 1, q, go, co, by omega, by go_num, rfl, HQ2, by omega, H3⟩
        case measure => simp [intOf]; omega
      · have hst := HST.out
        rw [hbf] at hst
        simp only [if_true] at hst
        have HS := Lib.hid hst
        clear hst hbf
        go_wp2_with (at_builtin; refine wpList_app rfl _ _ 31 rfl 49 i0 _ 1 24 Tryz.underlying31 hi hz0 hz1 hz2 rfl (by decide) _ _ _ rfl (H3.alloc _) _ _ _ [.slice Ap s.length cp] rfl (Rd.fresh w3 49 #[.slice Ap s.length cp] 1 1 rfl) (ocv2 rfl) (by unfold maxLen; omega) (by omega) ?_; intro v4 w4 H4)
        have HQ2 : Hid (q + 1 = ((P.take (i + 1)).filter fun p => firstS p.2).length) := Lib.hid (by rw [HS.out, List.length_append, ← HQ.out]; rfl)
        have H5 : Sep w w4 [Res.row v4 49 1 (q + 1) (((P.take (i + 1)).filter fun p => firstS p.2).map Prod.fst), Res.same lo w2.heap.size w2] := by
          rw [HS.out, List.map_append]; exact H4
        obtain ⟨g4, o4, c4, e4, _, _, _⟩ := own_shape H5.h0 (Nat.succ_pos _)
        subst e4
        obtain ⟨rfl, _⟩ := own_blk H5.h0
        clear H4 H3 x1'
        go_wp2
        go_roundw
        case rel => exact ⟨i + 1, q + 1, g4, c4, by omega, by go_num, rfl, HQ2, by omega, H5⟩
        case measure => simp [intOf]; omega
    · obtain rfl : i = m := by omega
      have hq := HQ.out
      have htk : P.take i = P := by rw [HM.out, List.take_length]
      rw [htk] at hq H
      have HF : Hid ((P.filter fun p => firstS p.2).map Prod.snd = freeS n) := Lib.hid (by rw [pfilter, HP.out]; rfl)
      have hsame := same_of H.h1
      have hw2 : i = 0 ∨ w2.heap.size ≤ wr.heap.size := by
        rcases Nat.eq_zero_or_pos i with h0 | h0
        · exact .inl h0
        · have := HPP.out.at_ h0
          exact .inr (H.h1.2 (by omega))
      have ho := H.oi
      have hbel := H.below
      obtain ⟨Q, hQ⟩ : ∃ Q, Q = P.filter fun p => firstS p.2 := ⟨_, rfl⟩
      rw [← hQ] at hq ho HF
      have HL : Hid (ListAt w wr (.slice (some ⟨go, 0, none⟩) q co) (freeS n)) := Lib.hid (by
        rw [← HF.out]
        have hlen : (Q.map Prod.snd).length = q := by rw [List.length_map, hq]
        refine list_mk (M := Q.map Prod.snd) (vs := Q.map Prod.fst) (by rw [hlen]; exact ho) (fun h => by cases h) (slots_of fun p hp => ?_) hbel
        rw [hQ] at hp
        have hpm := (List.mem_filter.1 hp).1
        rcases hw2 with h0 | h0
        · have h1 := HM.out
          rw [h0] at h1
          rw [List.eq_nil_of_length_eq_zero h1.symm] at hpm
          cases hpm
        · exact ((HPP.out.rd p hpm).keep hsame).more hlow h0)
      clear hsame hw2 H hq htk ho hbel hQ
      go_wp2
      go_ret
      exact ⟨_, rfl, HL.out⟩
end Go.Proofs.YtfmkmjebkmimkaaGreatDoor
