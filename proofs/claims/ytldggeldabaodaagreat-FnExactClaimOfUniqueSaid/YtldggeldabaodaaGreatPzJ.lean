
/-
  Puzzles, the program's walks: the pieces' cells, the placements of each, the solutions.
-/
import Derived.Test.YtldggeldabaodaaGreatPzI
import Derived.Test.YtldggeldabaodaaGreatArX
import Derived.Test.YtldggeldabaodaaGreatAllX
import Derived.Test.YtldggeldabaodaaGreatLawClmX
namespace Go.Proofs.YtldggeldabaodaaGreat
open Go.RowKit

/-- how many cells the first k pieces have -/
def arTo (ps : List (List Cell)) (k : Nat) : Nat := ((ps.take k).map List.length).sum
theorem arTo_zero {ps : List (List Cell)} : arTo ps 0 = 0 := rfl
theorem arTo_succ {ps : List (List Cell)} {k : Nat} {s : List Cell} (h : ps[k]? = some s) : arTo ps (k + 1) = arTo ps k + s.length := by
  unfold arTo
  rw [List.take_add_one, h]; simp
theorem arTo_le {ps : List (List Cell)} (hl : ∀ s ∈ ps, s.length ≤ 1048576) : ∀ k, arTo ps k ≤ k * 1048576
  | 0 => Nat.zero_le _
  | k + 1 => by
    have := arTo_le hl k
    cases h : ps[k]? with
    | some s => rw [arTo_succ h]; have := hl s (List.mem_of_getElem? h); omega
    | none =>
      have e : arTo ps (k + 1) = arTo ps k := by unfold arTo; rw [List.take_add_one, h]; simp
      omega
def pcsA (ps : List (List Cell)) : Int := (arTo ps ps.length : Nat)
/-- each piece's placements -/
def atN (r : Reg) (ps : List (List Cell)) : List (List Nat) := ps.map fun s => (plc r s).map Int.toNat
theorem nl_plc {r : Reg} (hv : r.Valid) {s : List Cell} : nl ((plc r s).map Int.toNat) = plc r s := by
  unfold nl
  rw [List.map_map]
  conv => rhs; rw [← List.map_id (plc r s)]
  apply List.map_congr_left
  intro x hx
  have := (plc_mk hv hx).1
  simp only [Function.comp, id]
  omega
theorem atN_nl {r : Reg} (hv : r.Valid) : ∀ ps : List (List Cell), (atN r ps).map nl = ps.map (plc r)
  | [] => by simp only [atN, List.map_nil]
  | s :: ps => by
    have ih := atN_nl hv ps
    have h1 : atN r (s :: ps) = (plc r s).map Int.toNat :: atN r ps := by simp only [atN, List.map_cons]
    rw [h1, List.map_cons, List.map_cons, nl_plc hv, ih]
theorem atN_msk {r : Reg} (hv : r.Valid) {ps : List (List Cell)} : ∀ P ∈ atN r ps, P.length ≤ 1000000 ∧ ∀ m ∈ P, m < 2 ^ 36 := by
  intro P hP
  obtain ⟨s, _, rfl⟩ := List.mem_map.1 hP
  refine ⟨?_, fun m hm => ?_⟩
  · rw [List.length_map]; have := plc_len hv (s := s); omega
  · obtain ⟨x, hx, rfl⟩ := List.mem_map.1 hm
    have h := plc_mk hv hx
    unfold Mk36 at h
    omega
def pzR (r : Reg) (ps : List (List Cell)) : List (List Nat) := if pcsA ps = areaR r then (pzS (atN r ps) r.mask).take 300 else []
def pzM (r : Reg) (ps : List (List Cell)) : List (List Nat) := if (r.valid && arePcs ps) = true then pzR r ps else []
theorem pz_ext {T : List (List Nat)} : ext 300 [] (pzL [] T) = T.take 300 := by unfold ext pzL; simp
set_option maxRecDepth 100000 in
set_option maxHeartbeats 800000 in
theorem impl_pcsA_c {v2 : Value} {ps : List (List Cell)} (w : World) (h2 : CellSSRd w 0 w.heap.size v2 ps) (hn : ps.length ≤ 1048576) (hl : ∀ s ∈ ps, s.length ≤ 1048576) :
    Calls Tryz.prog 94 #[v2] w fun e w' => e = .returned (.int .i64 (pcsA ps)) ∧ w = w' := by
  obtain ⟨vs, ⟨A2, c2, rfl, hm2, hr2⟩, hsl⟩ := h2
  have HR2 := Lib.hid hr2
  have HSL := Lib.hid hsl
  have HLE := Lib.hid (arTo_le hl)
  clear hr2 hsl hl
  go_enter Tryz.func94, Tryz.ntmps94
  go_wp2
  go_loopw [3, 8] (fun nv kv wx => ∃ k : Nat, k ≤ ps.length ∧ kv = .int .i64 k ∧ nv = .int .i64 (arTo ps k : Nat) ∧ w = wx) (fun _ kv _ => ps.length - (intOf kv).toNat)
  case atStart => exact ⟨0, Nat.zero_le _, rfl, rfl, rfl⟩
  case round =>
    obtain ⟨k, hk, rfl, rfl, rfl⟩ := hrel
    by_cases hlt : k < ps.length
    · have hlti : (k : Int) < (ps.length : Int) := by omega
      obtain ⟨b, off, s, x, rfl, hb1, hb2, hla, x1, xr⟩ := HR2.out.slot HSL.out rfl hlt
      obtain ⟨Ax, cx, rfl, _, _⟩ := xr
      obtain ⟨a, ha⟩ : ∃ a, a = arTo ps k := ⟨_, rfl⟩
      have hal := HLE.out k
      have hal2 := HLE.out (k + 1)
      have has := arTo_succ hla
      rw [← ha] at hal has ⊢
      have HAS : Hid (arTo ps (k + 1) = a + s.length) := Lib.hid has
      have hsb : a + s.length ≤ 1152921504606846976 := by rw [← has]; exact Nat.le_trans hal2 (by omega)
      clear hla ha hal hal2 has
      go_wp2
      go_roundw
      case rel => exact ⟨k + 1, by omega, by go_num, by rw [HAS.out]; go_num, trivial⟩
      case measure => simp [intOf]; omega
    · obtain rfl : k = ps.length := by omega
      go_wp2
      go_ret
      exact ⟨rfl, rfl⟩
set_option maxRecDepth 100000 in
set_option maxHeartbeats 3200000 in
theorem impl_sols_c {v v2 : Value} {r : Reg} {ps : List (List Cell)} (w : World) (h : RegRd w 0 w.heap.size v r) (h2 : CellSSRd w 0 w.heap.size v2 ps) (hv : r.Valid) (hp : arePcs ps = true) :
    Calls Tryz.prog 56 #[v, v2, .slice none 0 0] w fun e w' => ∃ ov vs n L, e = .returned ov ∧ n = (pzR r ps).length ∧ Sep w w' (Res.row ov 22 1 n vs :: Res.rows vs ((pzR r ps).map nl) :: L) := by
  obtain ⟨j0, hj, hy0, hy1, hy2⟩ := info_parts infoRowZ
  have hmf : ∀ (fn : Fn) (first cap : Array Value) (w : World), (Instr.makeFunc fn first cap).run Tryz.prog w = .ok (.func fn first cap) w := fun _ _ _ _ => rfl
  have HV := Lib.hid hv
  have HPS := Lib.hid (arePcs_on hp).1
  have hp5 := (arePcs_on hp).2.2
  have hp1 := (arePcs_on hp).2.1
  have hsl8 : ∀ s ∈ ps, s.length ≤ 1048576 := fun s hs => by have := (shp_len (HPS.out s hs)).2; omega
  have HRD : Hid (∀ w1, Below w.heap.size w w1 → RegRd w1 0 w1.heap.size v r) := Lib.hid fun w1 b1 => (h.keep (SameIn.of_below b1 (Nat.le_refl _))).more (Nat.le_refl _) b1.size
  have HAA : Hid (∀ w1, Below w.heap.size w w1 → Calls Tryz.prog 94 #[v2] w1 fun e w' => e = .returned (.int .i64 (pcsA ps)) ∧ w1 = w') := Lib.hid fun w1 b1 => impl_pcsA_c w1 ((h2.keep (SameIn.of_below b1 (Nat.le_refl _))).more (Nat.le_refl _) b1.size) (by omega) hsl8
  have HAR : Hid (∀ w1, Below w.heap.size w w1 → Calls Tryz.prog 95 #[v] w1 fun e w' => e = .returned (.int .i64 (areaR r)) ∧ Below w1.heap.size w1 w') := Lib.hid fun w1 b1 => impl_area_c w1 (HRD.out w1 b1) (by have := HV.out.2.2.2.1; omega)
  have HMSK : Hid (∀ w1, Below w.heap.size w w1 → Calls Tryz.prog 75 #[v] w1 fun e w' => e = .returned (.int .i64 (r.mask : Int)) ∧ Below w1.heap.size w1 w') := Lib.hid fun w1 b1 => impl_mask_c w1 (HRD.out w1 b1) HV.out
  obtain ⟨R, hR⟩ : ∃ R, R = pzR r ps := ⟨_, rfl⟩
  rw [← hR]
  have HRR := Lib.hid hR
  obtain ⟨a1, ha1⟩ : ∃ a, a = pcsA ps := ⟨_, rfl⟩
  obtain ⟨a2, ha2⟩ : ∃ a, a = areaR r := ⟨_, rfl⟩
  rw [← ha1] at HAA
  rw [← ha2] at HAR
  have HA1 := Lib.hid ha1
  have HA2 := Lib.hid ha2
  obtain ⟨sr, rfl, hsr⟩ := h
  obtain ⟨A, c, rfl, _, _⟩ := hsr
  obtain ⟨vs, ⟨A2, c2, rfl, hm2, hr2⟩, hsl⟩ := h2
  have HR2 := Lib.hid hr2
  have HSL := Lib.hid hsl
  have H0 := ((Sep.start w).box 28 #[.int .i64 r.w, .slice A r.rows.length c]).box 47 #[.slice none 0 0]
  simp only [World.size_alloc] at H0
  obtain ⟨g, hg⟩ : ∃ g, g = w.heap.size := ⟨_, rfl⟩
  rw [← hg] at H0
  clear hR ha1 ha2 hv hp hr2 hsl hsl8
  go_enter Tryz.func56, Tryz.ntmps56
  go_upto_region 2 with fail
  rw [← hg]
  generalize ((w.alloc (.cells #[.int .i64 r.w, .slice A r.rows.length c] 28)).alloc (.cells #[.slice none 0 0] 47)) = W at *
  clear hg
  have l0 := Later.cell (p := ⟨g, 0, none⟩) (v := .int .i64 r.w) (W := W) (H0.h1.cell 0) H0.h1.lt
  have l1 := Later.cell (p := ⟨g, 1, none⟩) (v := .slice A r.rows.length c) (W := W) (H0.h1.cell 1) H0.h1.lt
  have HB0 := Lib.hid H0.below
  have HA3 : Hid (∀ u : Later W, Calls Tryz.prog 94 #[.slice A2 ps.length c2] u.w fun e w' => e = .returned (.int .i64 a1) ∧ u.w = w') := Lib.hid fun u => HAA.out u.w (HB0.out.trans (u.h.mono HB0.out.size))
  have HA4 : Hid (∀ u : Later W, Calls Tryz.prog 95 #[.agg #[.int .i64 r.w, .slice A r.rows.length c]] u.w fun e w' => e = .returned (.int .i64 a2) ∧ Below u.w.heap.size u.w w') := Lib.hid fun u => HAR.out u.w (HB0.out.trans (u.h.mono HB0.out.size))
  have HH := Lib.hid H0
  clear H0 HAA HAR
  refine wp_region_later (by kernel_rfl) (by kernel_rfl) ?_
  repeat (go_big_quiet_step ((first
    | (go_at_call 94; exact Later.same (HA3.out _))
    | (go_at_call 95; exact Later.call (HA4.out _)))))
  refine wpQuiet_nil ?_
  intro w3 hw3
  obtain ⟨u3, hu3⟩ := hw3
  subst hu3
  have H1 := Sep.later HH.out u3
  clear l0 l1 HH HA3 HA4 HB0
  generalize u3.w = w1 at *
  by_cases ha : a1 = a2
  · have hab : (a1 == a2) = true := by simpa using ha
    have hab2 : (a1 != a2) = false := by simpa using ha
    have HRE : Hid (R = ext 300 [] (pzL [] (pzS (atN r ps) r.mask))) := Lib.hid (by
      rw [HRR.out, pzR, if_pos (by rw [← HA1.out, ← HA2.out]; exact ha), pz_ext])
    clear ha
    have hg1 := H1.h0.lt
    have HALL : ((#[.slice none 0 0, .func (.func 96) #[] #[.pointer (some ⟨g + 1, 0, none⟩)]] : Array Value).all (·.oneCell')) = true := by simp [Value.oneCell']
    have H2 := (H1.box 111 #[.slice none 0 0, .nilFunc]).setAll #[.slice none 0 0, .func (.func 96) #[] #[.pointer (some ⟨g + 1, 0, none⟩)]]
    obtain ⟨gs, hgs⟩ : ∃ gs, gs = w1.heap.size := ⟨_, rfl⟩
    obtain ⟨W2, hW2⟩ : ∃ W2, W2 = (w1.alloc (.cells #[.slice none 0 0, .nilFunc] 111)).setRow w1.heap.size #[.slice none 0 0, .func (.func 96) #[] #[.pointer (some ⟨g + 1, 0, none⟩)]] := ⟨_, rfl⟩
    rw [← hW2, ← hgs] at H2
    go_upto_region 5 with (refine wpList_store_row rfl 111 _ _ rfl w1.heap.size #[.slice none 0 0, .func (.func 96) #[] #[.pointer (some ⟨g + 1, 0, none⟩)]] rfl rfl 111 _ (H1.box 111 #[.slice none 0 0, .nilFunc]).h0 (by kernel_rfl) rfl HALL ?_)
    rw [← hW2, ← hgs]
    clear hgs hW2 H1 hg1 HALL
    have H3 := H2.rowsNil.nil 22 1
    clear H2
    go_wp2
    go_loopw [21] (fun iv wx => ∃ (k : Nat) (av : Value) (avs : List Value), k ≤ ps.length ∧ iv = .int .i64 k ∧ Sep w wx [Res.row av 22 1 k avs, Res.rows avs ((ps.take k).map (plc r)), Res.box gs 111 #[av, .func (.func 96) #[] #[.pointer (some ⟨g + 1, 0, none⟩)]], Res.box (g + 1) 47 #[.slice none 0 0], Res.box g 28 #[.int .i64 r.w, .slice A r.rows.length c]]) (fun iv _ => ps.length - (intOf iv).toNat)
    case atStart => exact ⟨0, _, [], Nat.zero_le _, rfl, H3⟩
    case round =>
      clear H3
      obtain ⟨k, av, avs, hk, rfl, H⟩ := hrel
      obtain ⟨Aa, ca, rfl, _, _, _⟩ := Res.row_at H.h0
      by_cases hlt : k < ps.length
      · have hlti : (k : Int) < (ps.length : Int) := by omega
        obtain ⟨b, off, s, x, rfl, hb1, hb2, hla, x1, xr⟩ := HR2.out.slot HSL.out rfl hlt
        have y1 := (H.below.cell (p := ⟨b, off + k, none⟩) hb2).trans x1
        have HPC := Lib.hid (impl_plc_c wr (HRD.out wr H.below) ((xr.keep (SameIn.of_below H.below (Nat.le_refl _))).more (Nat.le_refl _) H.size) HV.out (HPS.out s (List.mem_of_getElem? hla)))
        have c0 : wr.cell? ⟨g, 0, none⟩ = some (.int .i64 r.w) := H.h4.cell 0
        have c1 : wr.cell? ⟨g, 1, none⟩ = some (.slice A r.rows.length c) := H.h4.cell 1
        obtain ⟨Ax, cx, rfl, _, _⟩ := xr
        obtain ⟨Q, hQ⟩ : ∃ Q, Q = plc r s := ⟨_, rfl⟩
        rw [← hQ] at HPC
        have HTK : Hid ((ps.take (k + 1)).map (plc r) = (ps.take k).map (plc r) ++ [Q]) := Lib.hid (by rw [List.take_add_one, hla, List.map_append, hQ]; rfl)
        have hk0 : ¬ (k : Int) < 0 := by omega
        clear hQ hla x1
        go_wp2_with fail
        refine (HPC.out).mono ?_
        rintro e w4 ⟨pv, rfl, o4, b4⟩
        have H4 := H.oiNew b4 o4
        obtain ⟨Ap, cp, rfl, _, _⟩ := o4.rd
        obtain ⟨q, hq⟩ : ∃ q, q = Q.length := ⟨_, rfl⟩
        rw [← hq] at H4 ⊢
        have HQL := Lib.hid hq
        clear H HPC b4 o4 c0 c1 y1 hq
        have d0 : w4.cell? ⟨gs, 0, none⟩ = some (.slice Aa k ca) := H4.h3.cell 0
        have hgl : gs < w4.heap.size := H4.h3.lt
        go_wp2_with (at_builtin; refine wpList_app rfl _ _ 47 rfl 22 j0 _ 1 24 Tryz.underlying47 hj hy0 hy1 hy2 rfl (by decide) _ _ _ rfl (H4.g1.alloc _) _ _ _ [.slice Ap q cp] rfl (Rd.fresh w4 22 #[.slice Ap q cp] 1 1 rfl) (ocZ rfl) (by unfold maxLen; omega) (by omega) ?_; intro v5 w5 H5; clear H4 d0 hgl; obtain ⟨A5, c5, rfl, _, _, _⟩ := Res.row_at H5.h0; have d0 : w5.cell? ⟨gs, 0, none⟩ = some (.slice Aa k ca) := H5.h3.cell 0; have f0 := H5.h3.frozen 0; have hgl : gs < w5.heap.size := H5.h3.lt; have H6 := H5.g3.set_ 0 (.slice A5 (k + 1) c5); have H7 := (H6.g2.g3.rowsSnoc HQL.out).g2; rw [← HTK.out] at H7; have HH := Lib.hid H7; clear H5 H6 H7)
        go_roundw
        case rel => exact ⟨k + 1, _, _, by omega, by go_num, HH.out⟩
        case measure => simp [intOf]; omega
      · obtain rfl : k = ps.length := by omega
        have hmap : (ps.take ps.length).map (plc r) = (atN r ps).map nl := by rw [List.take_length, atN_nl HV.out ps]
        rw [hmap] at H
        have c0 : wr.cell? ⟨g, 0, none⟩ = some (.int .i64 r.w) := H.h4.cell 0
        have c1 : wr.cell? ⟨g, 1, none⟩ = some (.slice A r.rows.length c) := H.h4.cell 1
        have HMK := Lib.hid (HMSK.out wr H.below)
        clear hmap
        go_wp2_with fail
        refine (HMK.out).mono ?_
        rintro e w5 ⟨rfl, b5⟩
        have H5 := ((H.step b5).g3.rowsNil.nil 22 1).g2.nil 3 1
        clear H b5 c0 c1 HMK
        have HML : Hid (r.mask < 2 ^ 36) := Lib.hid (by have := Reg.mask_lt HV.out; omega)
        obtain ⟨M, hM⟩ : ∃ M, M = r.mask := ⟨_, rfl⟩
        rw [← hM] at HML HRE ⊢
        have HSV := Lib.hid (solve_c gs (g + 1) ps.length (.slice Aa ps.length ca) avs (atN r ps) ps.length w w5 _ (.slice none 0 0) (.slice none 0 0) [] [] [] M 0 0 ⟨by simp, by simp, by simp, by simp [atN], by omega, atN_msk HV.out⟩ rfl (by omega) rfl (by omega) HML.out H5)
        clear H5 hM
        go_wp2_with fail
        refine (HSV.out).mono ?_
        rintro e w6 ⟨ov, vs6, n6, S, hS, hn6, rfl, H6⟩
        have HS : Hid (S = R) := Lib.hid (by rw [hS, HRE.out]; rfl)
        have HN6 := Lib.hid hn6
        obtain ⟨Ao, co, rfl, _, _, _⟩ := Res.row_at H6.h1
        have d0 : w6.cell? ⟨g + 1, 0, none⟩ = some (.slice Ao n6 co) := H6.h0.cell 0
        clear hS hn6 HSV
        go_wp2
        go_ret
        exact ⟨_, vs6, n6, _, rfl, by rw [← HS.out]; exact HN6.out, by rw [← HS.out]; exact H6.drop⟩
  · have hab : (a1 == a2) = false := by simpa using ha
    have hab2 : (a1 != a2) = true := by simpa using ha
    obtain rfl : R = [] := by rw [HRR.out, pzR, if_neg (by rw [← HA1.out, ← HA2.out]; exact ha)]
    clear ha
    go_wp2
    go_ret
    exact ⟨_, [], 0, _, rfl, rfl, (H1.rowsNil).nil 22 1⟩
end Go.Proofs.YtldggeldabaodaaGreat
