
/-
  RegionLine: what both walks want. RegionLine: the reference's walk. RegionLine: the program's walk. The law FnExactRegionLine, walked by contracts.
-/
import Derived.Test.YtoccedebiacbiaaDoorRmoH
import Derived.Test.YtoccedebiacbiaaDoorRmoI
import Derived.Test.YtoccedebiacbiaaDoorRzP
import Derived.Test.YtoccedebiacbiaaDoorRzD
import Derived.Test.YtoccedebiacbiaaDoorRzW
import Derived.Test.YtoccedebiacbiaaDoorRzF
import Derived.Lib.ItoaLen
import Derived.Deep.RegionHeld3
import Derived.Test.YtoccedebiacbiaaDoorLawInts
import Derived.Lib.LaidTab
import Derived.Stop.LaidErr
namespace Go.Proofs.YtoccedebiacbiaaDoor
open Go.RowKit

def regS (F A1 P1 C1 D1 M1 : ByteArray) : ByteArray := ⟨#[114, 101, 103, 105, 111, 110, 32]⟩ ++ F ++ ⟨#[32, 97, 114, 101, 97, 32]⟩ ++ A1 ++ ⟨#[32, 112, 97, 114, 116, 115, 32]⟩ ++ P1 ++ ⟨#[32, 99, 111, 108, 111, 114, 115, 32]⟩ ++ C1 ++ ⟨#[32, 100, 111, 109, 105, 110, 111, 101, 115, 32]⟩ ++ D1 ++ ⟨#[32, 109, 111, 116, 105, 111, 110, 115, 32]⟩ ++ M1
def spanT : ByteArray := ⟨#[32, 115, 112, 97, 110, 115]⟩
/-- the line about a region -/
noncomputable def regT (r : Reg) : ByteArray := if r.valid then regS (fmtR r) (itoaB (areaR r)) (itoaB (partsN r.cells)) (numT itoaB (colL r)) (itoaB (domZ r)) (numT itoaB (motZ r 8)) ++ (if r.spanWay.isSome then spanT else ⟨#[]⟩) else ⟨#[]⟩
theorem itoaR_size (n : Int) (h0 : -9223372036854775808 ≤ n) (h1 : n ≤ 9223372036854775807) : (itoaB n).size ≤ 21 := by
  unfold itoaB
  rw [ustr_size]
  exact Lib.itoa_length_le n h0 h1
theorem decR_pos : ∀ n : Nat, Lib.decDigits n ≠ []
  | n => by
    rw [Lib.decDigits]
    split <;> simp
theorem itoaR_ne (n : Int) : Lib.itoa n ≠ [] := by
  unfold Lib.itoa
  split
  · simp
  · exact decR_pos _
theorem itoaR_pos (n : Int) : 1 ≤ (itoaB n).size := by
  unfold itoaB
  rw [ustr_size]
  have h := itoaR_ne n
  exact List.length_pos_iff.2 h
theorem numR_size {l : List Int} (hl : l.length ≤ 8) (h : ∀ n ∈ l, 0 ≤ n ∧ n ≤ 1000) : (numT itoaB l).size ≤ 300 := by
  unfold numT
  split
  · decide
  · have := joinB_size (s := commaB) (b := 30) (l := l.map itoaB) (fun x hx => by
      obtain ⟨n, hn, rfl⟩ := List.mem_map.1 hx
      have h1 := h n hn
      exact Nat.le_trans (itoaR_size n (by omega) (by omega)) (by decide))
    rw [List.length_map] at this
    have h2 : commaB.size = 1 := rfl
    rw [h2] at this
    have : l.length * (30 + 1) ≤ 8 * 31 := Nat.mul_le_mul_right _ hl
    omega
set_option maxRecDepth 100000 in
theorem tab10_belowR {w w' : World} (ht : Tab10 w) (hb : Below w.heap.size w w') : Tab10 w' := by
  have hs : (Tryd.prog.globalNamed "internal/strconv.uint64pow10").isSome = true := by kernel_rfl
  obtain ⟨g, hg⟩ := Option.isSome_iff_exists.1 hs
  exact Go.Joins.tab_stays hg ht hb (Nat.le_refl _)
theorem fmtR_sz {r : Reg} (hv : r.Valid) : (fmtR r).size ≤ 42 := by
  unfold fmtR
  rw [if_pos (Reg.valid_iff.2 hv)]
  have h1 := fmtS_size (r := r) (by have := hv.2.1; omega) r.rows.length
  have := hv.2.2.2.1
  omega
theorem if_memR {sp : Bool} {l : List ByteArray} {s x : ByteArray} (h : x ∈ (if sp then l ++ [s] else l)) : x ∈ l ++ [s] := by
  cases sp
  · exact List.mem_append_left _ h
  · exact h
theorem if_lenR {sp : Bool} {l : List ByteArray} {s : ByteArray} (h : l.length + 1 ≤ 1048576) : (if sp then l ++ [s] else l).length ≤ 1048576 := by
  cases sp
  · simp only [Bool.false_eq_true, if_false]; omega
  · simpa using h
theorem rl_join (F A1 P1 C1 D1 M1 : ByteArray) (sp : Bool) : joinB spaceB (if sp then [⟨#[114, 101, 103, 105, 111, 110]⟩, F, ⟨#[97, 114, 101, 97]⟩, A1, ⟨#[112, 97, 114, 116, 115]⟩, P1, ⟨#[99, 111, 108, 111, 114, 115]⟩, C1, ⟨#[100, 111, 109, 105, 110, 111, 101, 115]⟩, D1, ⟨#[109, 111, 116, 105, 111, 110, 115]⟩, M1] ++ [⟨#[115, 112, 97, 110, 115]⟩] else [⟨#[114, 101, 103, 105, 111, 110]⟩, F, ⟨#[97, 114, 101, 97]⟩, A1, ⟨#[112, 97, 114, 116, 115]⟩, P1, ⟨#[99, 111, 108, 111, 114, 115]⟩, C1, ⟨#[100, 111, 109, 105, 110, 111, 101, 115]⟩, D1, ⟨#[109, 111, 116, 105, 111, 110, 115]⟩, M1]) = regS F A1 P1 C1 D1 M1 ++ (if sp then spanT else ⟨#[]⟩) := by
  cases sp
  all_goals
    simp only [Bool.false_eq_true, if_false, if_true, List.cons_append, List.nil_append, joinB_cons, joinB_one, spaceB, regS, spanT]
    apply ba_ext
    simp
theorem area_bd {r : Reg} (hv : r.Valid) : 0 ≤ areaR r ∧ areaR r ≤ 36 := by
  have hc36 : r.cells.length ≤ 36 := by rw [← cells_maskN hv]; exact cellsTo_lenR 36
  rw [areaR, if_pos (show r.valid = true from decide_eq_true hv)]
  generalize r.cells.length = n at *
  omega
theorem parts_bd {r : Reg} (hv : r.Valid) : partsN r.cells ≤ 36 := Nat.le_trans (partsN_le _ _ (Nat.le_refl _)) (by rw [← cells_maskN hv]; exact cellsTo_lenR 36)
theorem col_bd {r : Reg} (hv : r.Valid) : (colL r).length ≤ 8 ∧ ∀ n ∈ colL r, 0 ≤ n ∧ n ≤ 1000 := by
  have hc36 : r.cells.length ≤ 36 := by rw [← cells_maskN hv]; exact cellsTo_lenR 36
  refine ⟨by simp [colL], fun n hn => ?_⟩
  simp only [colL, List.mem_cons, List.not_mem_nil, or_false] at hn
  have h0 : colN r.cells 0 ≤ r.cells.length := List.countP_le_length
  have h1 : colN r.cells 1 ≤ r.cells.length := List.countP_le_length
  generalize colN r.cells 0 = x at *
  generalize colN r.cells 1 = y at *
  generalize r.cells.length = z at *
  rcases hn with rfl | rfl <;> omega
theorem mot_bd {r : Reg} : (motZ r 8).length ≤ 8 ∧ ∀ n ∈ motZ r 8, 0 ≤ n ∧ n ≤ 1000 := ⟨motZ_len 8, fun n hn => by
  have := motZ_in hn
  omega⟩
theorem rl_nums {r : Reg} (hv : r.Valid) : ∃ (an : Int) (pn : Nat) (dz : Int) (cl ml : List Int), Hid (an = areaR r) ∧ Hid (pn = partsN r.cells) ∧ Hid (dz = domZ r) ∧ Hid (cl = colL r) ∧ Hid (ml = motZ r 8) ∧ (0 ≤ an ∧ an ≤ 36) ∧ pn ≤ 36 ∧ (0 ≤ dz ∧ dz ≤ 68719476736) ∧ (cl.length ≤ 8 ∧ ∀ n ∈ cl, 0 ≤ n ∧ n ≤ 1000) ∧ (ml.length ≤ 8 ∧ ∀ n ∈ ml, 0 ≤ n ∧ n ≤ 1000) :=
  ⟨_, _, _, _, _, Lib.hid rfl, Lib.hid rfl, Lib.hid rfl, Lib.hid rfl, Lib.hid rfl, area_bd hv, parts_bd hv, domZ_bd hv, col_bd hv, mot_bd⟩
set_option maxRecDepth 100000 in
theorem yes_c (b : Bool) (s : ByteArray) (w : World) : Calls Tryd.prog 19 #[.bool b, .string s] w fun e w' => e = .returned (.string (if b then s else ⟨#[]⟩)) ∧ Below w.heap.size w w' := by
  cases b
  all_goals
    go_enter Tryd.func19, Tryd.ntmps19
    go_wp2
    go_ret
    exact ⟨rfl, Below.refl _ _⟩
set_option maxRecDepth 100000 in
theorem words_c {w0 w : World} {Ls : List Res} {v : Value} {l : List ByteArray} (b : Bool) (s : ByteArray) (H : Sep w0 w (Res.row v 9 1 l.length (sc l) :: Ls)) (hl : l.length ≤ 1000) :
    Calls Tryd.prog 32 #[v, .bool b, .string s] w fun e w' => ∃ v', e = .returned v' ∧ Sep w0 w' (Res.row v' 9 1 (if b then l ++ [s] else l).length (sc (if b then l ++ [s] else l)) :: Ls) := by
  obtain ⟨i0, hi, hz0, hz1, hz2⟩ := info_parts infoStr
  cases b
  · obtain ⟨A, c, rfl, _, _, _⟩ := Res.row_at H.h0
    go_enter Tryd.func32, Tryd.ntmps32
    go_wp2
    go_ret
    exact ⟨_, rfl, H⟩
  · obtain ⟨A, c, rfl, _, _, _⟩ := Res.row_at H.h0
    go_enter Tryd.func32, Tryd.ntmps32
    go_wp2_with (at_builtin; refine wpList_app rfl _ _ 42 rfl 9 i0 _ 1 16 Tryd.underlying42 hi hz0 hz1 hz2 rfl (by decide) _ _ _ rfl (H.alloc _) _ _ _ [.string s] rfl (Rd.fresh _ 9 #[.string s] 1 1 rfl) ocs (by unfold maxLen; omega) (by omega) ?_; intro v4 w4 H4)
    go_ret
    refine ⟨_, rfl, ?_⟩
    simp only [sc_append]
    exact H4
end Go.Proofs.YtoccedebiacbiaaDoor

namespace Go.Proofs.YtoccedebiacbiaaDoor
open Go.RowKit

set_option maxRecDepth 100000 in
set_option maxHeartbeats 12800000 in
theorem spec_rl_c {v : Value} {r : Reg} (w : World) (h : RegRd w 0 w.heap.size v r) :
    Calls Tryd.prog 5 #[v] w fun e w' => e = .returned (.string (regT r)) ∧ Below w.heap.size w w' := by
  have HRD : Hid (∀ w1, Below w.heap.size w w1 → RegRd w1 0 w1.heap.size v r) := Lib.hid fun w1 b1 => (h.keep (SameIn.of_below b1 (Nat.le_refl _))).more (Nat.le_refl _) b1.size
  obtain ⟨R, hR⟩ : ∃ R, R = regT r := ⟨_, rfl⟩
  rw [← hR]
  have HR := Lib.hid hR
  obtain ⟨sr, rfl, hsr⟩ := h
  obtain ⟨A, c, rfl, _, _⟩ := hsr
  have H0 := (Sep.start w).box 27 #[.int .i64 r.w, .slice A r.rows.length c]
  obtain ⟨g, hg⟩ : ∃ g, g = w.heap.size := ⟨_, rfl⟩
  rw [← hg] at H0
  clear hR
  go_enter Tryd.func5, Tryd.ntmps5
  go_upto_region 1 with fail
  rw [← hg]
  generalize (w.alloc (.cells #[.int .i64 r.w, .slice A r.rows.length c] 27)) = W at *
  clear hg
  have c0 : W.cell? ⟨g, 0, none⟩ = some (.int .i64 r.w) := H0.h0.cell 0
  have c1 : W.cell? ⟨g, 1, none⟩ = some (.slice A r.rows.length c) := H0.h0.cell 1
  have HC1 := Lib.hid (spec_IsRegion_c W (HRD.out W H0.below))
  go_wp2_with fail
  refine (HC1.out).mono ?_
  rintro e w2 ⟨rfl, b1⟩
  have H2 := H0.step b1
  clear c0 c1 HC1 b1 H0
  by_cases hv : r.Valid
  case neg =>
    have hvv : r.valid = false := decide_eq_false hv
    obtain rfl : R = ⟨#[]⟩ := by rw [HR.out, regT, hvv]; rfl
    rw [hvv]
    clear hv hvv
    go_wp2
    go_ret
    exact ⟨rfl, H2.below⟩
  have hvv : r.valid = true := decide_eq_true hv
  have HV := Lib.hid hv
  rw [hvv]
  have hrl : r.rows.length ≤ 1048576 := by have := hv.2.2.2.1; omega
  have HW : Hid (Below w.heap.size w w2) := Lib.hid H2.below
  have HTR : Hid (∀ w', Below w2.heap.size w2 w' → Below w.heap.size w w') := Lib.hid fun w' b => HW.out.trans (b.mono HW.out.size)
  have hgl : g < w2.heap.size := H2.h0.lt
  have hx0 : w2.cell? ⟨g, 0, none⟩ = some (.int .i64 r.w) := H2.h0.cell 0
  have hx1 : w2.cell? ⟨g, 1, none⟩ = some (.slice A r.rows.length c) := H2.h0.cell 1
  have BB : Hid (∀ w', Below w2.heap.size w2 w' → w'.cell? ⟨g, 0, none⟩ = some (.int .i64 r.w) ∧ w'.cell? ⟨g, 1, none⟩ = some (.slice A r.rows.length c)) := Lib.hid fun w' b => ⟨(b.cell (p := ⟨g, 0, none⟩) hgl).trans hx0, (b.cell (p := ⟨g, 1, none⟩) hgl).trans hx1⟩
  obtain ⟨an, pn, dz, cl, ml, HAN, HPP, HDD, HCL, HML, hanb, hpn, hdz, hclB, hmlB⟩ := rl_nums hv
  obtain ⟨F, hF⟩ : ∃ U, U = fmtR r := ⟨_, rfl⟩
  obtain ⟨A1, hA1⟩ : ∃ U, U = itoaB an := ⟨_, rfl⟩
  obtain ⟨P1, hP1⟩ : ∃ U, U = itoaB (pn : Int) := ⟨_, rfl⟩
  obtain ⟨D1, hD1⟩ : ∃ U, U = itoaB dz := ⟨_, rfl⟩
  obtain ⟨C1, hC1⟩ : ∃ U, U = numT itoaB cl := ⟨_, rfl⟩
  obtain ⟨M1, hM1⟩ : ∃ U, U = numT itoaB ml := ⟨_, rfl⟩
  obtain ⟨sp, hsp⟩ : ∃ b, b = r.spanWay.isSome := ⟨_, rfl⟩
  have HRR : Hid (R = regS F A1 P1 C1 D1 M1 ++ (if sp then spanT else ⟨#[]⟩)) := Lib.hid (by
    rw [HR.out, regT, hvv, hF, hA1, hP1, hD1, hC1, hM1, hsp, HAN.out, HPP.out, HDD.out, HCL.out, HML.out]; rfl)
  have s1 : F.size ≤ 42 := by rw [hF]; exact fmtR_sz hv
  have s2 : A1.size ≤ 21 := by rw [hA1]; exact itoaR_size _ (by omega) (by omega)
  have s3 : P1.size ≤ 21 := by rw [hP1]; exact itoaR_size _ (by omega) (by omega)
  have s4 : D1.size ≤ 21 := by rw [hD1]; exact itoaR_size _ (by omega) (by omega)
  have s5 : C1.size ≤ 300 := by rw [hC1]; exact numR_size hclB.1 hclB.2
  have s6 : M1.size ≤ 300 := by rw [hM1]; exact numR_size hmlB.1 hmlB.2
  have HI1 : Hid (∀ w', Below w2.heap.size w2 w' → Calls Tryd.prog 12 #[.int .i64 an] w' fun e w'' => e = .returned (.string A1) ∧ Below w'.heap.size w' w'') := Lib.hid fun w' b => by rw [hA1]; exact spec_fmtInt_c an w' (by omega) (by omega)
  have HI2 : Hid (∀ w', Below w2.heap.size w2 w' → Calls Tryd.prog 12 #[.int .i64 (pn : Int)] w' fun e w'' => e = .returned (.string P1) ∧ Below w'.heap.size w' w'') := Lib.hid fun w' b => by rw [hP1]; exact spec_fmtInt_c (pn : Int) w' (by omega) (by omega)
  have HI3 : Hid (∀ w', Below w2.heap.size w2 w' → Calls Tryd.prog 12 #[.int .i64 dz] w' fun e w'' => e = .returned (.string D1) ∧ Below w'.heap.size w' w'') := Lib.hid fun w' b => by rw [hD1]; exact spec_fmtInt_c dz w' (by omega) (by omega)
  have HFR : Hid (∀ w', Below w2.heap.size w2 w' → Calls Tryd.prog 11 #[.agg #[.int .i64 r.w, .slice A r.rows.length c]] w' fun e w'' => e = .returned (.string F) ∧ Below w'.heap.size w' w'') := Lib.hid fun w' b => by rw [hF]; exact spec_fmtReg_c w' (HRD.out w' (HTR.out w' b)) hrl
  have HAR : Hid (∀ w', Below w2.heap.size w2 w' → Calls Tryd.prog 13 #[.agg #[.int .i64 r.w, .slice A r.rows.length c]] w' fun e w'' => e = .returned (.int .i64 an) ∧ Below w'.heap.size w' w'') := Lib.hid fun w' b => by rw [HAN.out]; exact spec_area_c w' (HRD.out w' (HTR.out w' b)) hrl
  have HDO : Hid (∀ w', Below w2.heap.size w2 w' → Calls Tryd.prog 17 #[.agg #[.int .i64 r.w, .slice A r.rows.length c]] w' fun e w'' => e = .returned (.int .i64 dz) ∧ Below w'.heap.size w' w'') := Lib.hid fun w' b => by rw [HDD.out]; exact spec_dominoes_c w' (HRD.out w' (HTR.out w' b)) HV.out
  have HSP : Hid (∀ w', Below w2.heap.size w2 w' → Calls Tryd.prog 20 #[.agg #[.int .i64 r.w, .slice A r.rows.length c]] w' fun e w'' => e = .returned (.bool sp) ∧ Below w'.heap.size w' w'') := Lib.hid fun w' b => by rw [hsp]; exact spec_isspanning_c w' (HRD.out w' (HTR.out w' b))
  have HPT : Hid (∀ w', Below w2.heap.size w2 w' → Calls Tryd.prog 14 #[.agg #[.int .i64 r.w, .slice A r.rows.length c]] w' fun e w'' => ∃ A c, e = .returned (.slice A pn c) ∧ Below w'.heap.size w' w'') := Lib.hid fun w' b => by rw [HPP.out]; exact spec_parts_c w' (HRD.out w' (HTR.out w' b)) HV.out
  have HCO : Hid (∀ w', Below w2.heap.size w2 w' → Calls Tryd.prog 16 #[.agg #[.int .i64 r.w, .slice A r.rows.length c], .int .i64 2] w' fun e w'' => ∃ v', e = .returned v' ∧ IntsIn w'' w'.heap.size w''.heap.size v' cl ∧ Below w'.heap.size w' w'') := Lib.hid fun w' b => by rw [HCL.out]; exact spec_col_c w' (HRD.out w' (HTR.out w' b)) HV.out
  have HMO : Hid (∀ w', Below w2.heap.size w2 w' → Calls Tryd.prog 18 #[.agg #[.int .i64 r.w, .slice A r.rows.length c]] w' fun e w'' => ∃ v', e = .returned v' ∧ IntsIn w'' w'.heap.size w''.heap.size v' ml ∧ Below w'.heap.size w' w'') := Lib.hid fun w' b => by rw [HML.out]; exact spec_motions_c w' (HRD.out w' (HTR.out w' b)) HV.out
  have HNC : Hid (∀ w' v', Below w2.heap.size w2 w' → IntsRd w' 0 w'.heap.size v' cl → Calls Tryd.prog 15 #[v'] w' fun e w'' => e = .returned (.string C1) ∧ Below w'.heap.size w' w'') := Lib.hid fun w' v' b h' => by rw [hC1]; exact l34Numbers_c (f := itoaB) w' h' (fun n hn => itoa_S w' n (by have := hclB.2 n hn; omega) (by have := hclB.2 n hn; omega)) (fun n _ => itoaR_pos n) (fun n hn => Nat.le_trans (itoaR_size n (by have := hclB.2 n hn; omega) (by have := hclB.2 n hn; omega)) (by decide)) (by omega)
  have HNM : Hid (∀ w' v', Below w2.heap.size w2 w' → IntsRd w' 0 w'.heap.size v' ml → Calls Tryd.prog 15 #[v'] w' fun e w'' => e = .returned (.string M1) ∧ Below w'.heap.size w' w'') := Lib.hid fun w' v' b h' => by rw [hM1]; exact l34Numbers_c (f := itoaB) w' h' (fun n hn => itoa_S w' n (by have := hmlB.2 n hn; omega) (by have := hmlB.2 n hn; omega)) (fun n _ => itoaR_pos n) (fun n hn => Nat.le_trans (itoaR_size n (by have := hmlB.2 n hn; omega) (by have := hmlB.2 n hn; omega)) (by decide)) (by omega)
  have HYE : Hid (∀ w', Below w2.heap.size w2 w' → Calls Tryd.prog 19 #[.bool sp, .string spanT] w' fun e w'' => e = .returned (.string (if sp then spanT else ⟨#[]⟩)) ∧ Below w'.heap.size w' w'') := Lib.hid fun w' _ => yes_c sp spanT w'
  obtain ⟨Y1, hY1⟩ : ∃ Y, Y = (if sp then spanT else (⟨#[]⟩ : ByteArray)) := ⟨_, rfl⟩
  have s7 : Y1.size ≤ 6 := by rw [hY1]; cases sp <;> decide
  rw [← hY1] at HRR HYE
  simp only [spanT] at HYE
  have y1 : ¬ 9223372036854775807 < 7 + F.size := by omega
  have y2 : ¬ 9223372036854775807 < 7 + F.size + 6 := by omega
  have y3 : ¬ 9223372036854775807 < 7 + F.size + 6 + A1.size := by omega
  have y4 : ¬ 9223372036854775807 < 7 + F.size + 6 + A1.size + 7 := by omega
  have y5 : ¬ 9223372036854775807 < 7 + F.size + 6 + A1.size + 7 + P1.size := by omega
  have y6 : ¬ 9223372036854775807 < 7 + F.size + 6 + A1.size + 7 + P1.size + 8 := by omega
  have y7 : ¬ 9223372036854775807 < 7 + F.size + 6 + A1.size + 7 + P1.size + 8 + C1.size := by omega
  have y8 : ¬ 9223372036854775807 < 7 + F.size + 6 + A1.size + 7 + P1.size + 8 + C1.size + 10 := by omega
  have y9 : ¬ 9223372036854775807 < 7 + F.size + 6 + A1.size + 7 + P1.size + 8 + C1.size + 10 + D1.size := by omega
  have y10 : ¬ 9223372036854775807 < 7 + F.size + 6 + A1.size + 7 + P1.size + 8 + C1.size + 10 + D1.size + 9 := by omega
  have y11 : ¬ 9223372036854775807 < 7 + F.size + 6 + A1.size + 7 + P1.size + 8 + C1.size + 10 + D1.size + 9 + M1.size := by omega
  have y12 : ¬ 9223372036854775807 < 7 + F.size + 6 + A1.size + 7 + P1.size + 8 + C1.size + 10 + D1.size + 9 + M1.size + Y1.size := by omega
  clear HAN HPP HDD HCL HML hF hA1 hP1 hD1 hC1 hM1 hsp hY1 s1 s2 s3 s4 s5 s6 s7 hx0 hx1 H2 hdz hpn hanb hclB hmlB hv hvv hrl HV HR
  go_upto_region 3 with fail
  have HH : Below w2.heap.size w2 w2.drew := below_drew (Below.refl _ _)
  have f0 := (BB.out _ HH).1
  have f1 := (BB.out _ HH).2
  go_region_held3 (fun w' => w'.cell? ⟨g, 0, none⟩ = some (.int .i64 r.w) ∧ w'.cell? ⟨g, 1, none⟩ = some (.slice A r.rows.length c))
    (first | ((try dsimp only); refine ⟨?_, ?_⟩ <;> assumption) | go_keep)
    (first
    | (go_at_call 11; (with_reducible refine (HFR.out _ HH).mono ?_); rintro e wz ⟨rfl, bz⟩; replace HH := HH.trans (bz.mono HH.size); clear bz; have f0 := (BB.out _ HH).1; have f1 := (BB.out _ HH).2)
    | (go_at_call 13; (with_reducible refine (HAR.out _ HH).mono ?_); rintro e wz ⟨rfl, bz⟩; replace HH := HH.trans (bz.mono HH.size); clear bz; have f0 := (BB.out _ HH).1; have f1 := (BB.out _ HH).2)
    | (go_at_call 12; (with_reducible refine (HI1.out _ HH).mono ?_); rintro e wz ⟨rfl, bz⟩; replace HH := HH.trans (bz.mono HH.size); clear bz; have f0 := (BB.out _ HH).1; have f1 := (BB.out _ HH).2)
    | (go_at_call 12; (with_reducible refine (HI2.out _ HH).mono ?_); rintro e wz ⟨rfl, bz⟩; replace HH := HH.trans (bz.mono HH.size); clear bz; have f0 := (BB.out _ HH).1; have f1 := (BB.out _ HH).2)
    | (go_at_call 12; (with_reducible refine (HI3.out _ HH).mono ?_); rintro e wz ⟨rfl, bz⟩; replace HH := HH.trans (bz.mono HH.size); clear bz; have f0 := (BB.out _ HH).1; have f1 := (BB.out _ HH).2)
    | (go_at_call 14; (with_reducible refine (HPT.out _ HH).mono ?_); rintro e wz ⟨Az, cz, rfl, bz⟩; replace HH := HH.trans (bz.mono HH.size); clear bz; have f0 := (BB.out _ HH).1; have f1 := (BB.out _ HH).2)
    | (go_at_call 16; (with_reducible refine (HCO.out _ HH).mono ?_); rintro e wz ⟨vz, rfl, oz, bz⟩; have HA1 := Lib.hid ((IntsIn.rd oz).more (Nat.zero_le _) (Nat.le_refl _)); clear oz; replace HH := HH.trans (bz.mono HH.size); clear bz; have f0 := (BB.out _ HH).1; have f1 := (BB.out _ HH).2)
    | (go_at_call 15; (with_reducible refine (HNM.out _ _ HH HA2.out).mono ?_); rintro e wz ⟨rfl, bz⟩; replace HH := HH.trans (bz.mono HH.size); clear bz; have f0 := (BB.out _ HH).1; have f1 := (BB.out _ HH).2)
    | (go_at_call 15; (with_reducible refine (HNC.out _ _ HH HA1.out).mono ?_); rintro e wz ⟨rfl, bz⟩; replace HH := HH.trans (bz.mono HH.size); clear bz; have f0 := (BB.out _ HH).1; have f1 := (BB.out _ HH).2)
    | (go_at_call 17; (with_reducible refine (HDO.out _ HH).mono ?_); rintro e wz ⟨rfl, bz⟩; replace HH := HH.trans (bz.mono HH.size); clear bz; have f0 := (BB.out _ HH).1; have f1 := (BB.out _ HH).2)
    | (go_at_call 18; (with_reducible refine (HMO.out _ HH).mono ?_); rintro e wz ⟨vz, rfl, oz, bz⟩; have HA2 := Lib.hid ((IntsIn.rd oz).more (Nat.zero_le _) (Nat.le_refl _)); clear oz; replace HH := HH.trans (bz.mono HH.size); clear bz; have f0 := (BB.out _ HH).1; have f1 := (BB.out _ HH).2)
    | (go_at_call 20; (with_reducible refine (HSP.out _ HH).mono ?_); rintro e wz ⟨rfl, bz⟩; replace HH := HH.trans (bz.mono HH.size); clear bz; have f0 := (BB.out _ HH).1; have f1 := (BB.out _ HH).2)
    | (go_at_call 19; (with_reducible refine (HYE.out _ HH).mono ?_); rintro e wz ⟨rfl, bz⟩; replace HH := HH.trans (bz.mono HH.size); clear bz; have f0 := (BB.out _ HH).1; have f1 := (BB.out _ HH).2))
  all_goals
    go_wp2
    go_ret
    exact ⟨by rw [HRR.out]; rfl, HTR.out _ HH⟩
end Go.Proofs.YtoccedebiacbiaaDoor

namespace Go.Proofs.YtoccedebiacbiaaDoor
open Go.RowKit

set_option maxRecDepth 100000 in
set_option maxHeartbeats 12800000 in
theorem impl_rl_c {v : Value} {r : Reg} (w : World) (h : RegRd w 0 w.heap.size v r) (ht : Tab10 w) :
    Calls Tryd.prog 7 #[v] w fun e w' => e = .returned (.string (regT r)) ∧ Below w.heap.size w w' := by
  have HRD : Hid (∀ w1, Below w.heap.size w w1 → RegRd w1 0 w1.heap.size v r) := Lib.hid fun w1 b1 => (h.keep (SameIn.of_below b1 (Nat.le_refl _))).more (Nat.le_refl _) b1.size
  have HT10 : Hid (∀ w1, Below w.heap.size w w1 → Tab10 w1) := Lib.hid fun w1 b1 => tab10_belowR ht b1
  obtain ⟨R, hR⟩ : ∃ R, R = regT r := ⟨_, rfl⟩
  rw [← hR]
  have HR := Lib.hid hR
  obtain ⟨sr, rfl, hsr⟩ := h
  obtain ⟨A, c, rfl, _, _⟩ := hsr
  have H0 := (Sep.start w).box 27 #[.int .i64 r.w, .slice A r.rows.length c]
  obtain ⟨g, hg⟩ : ∃ g, g = w.heap.size := ⟨_, rfl⟩
  rw [← hg] at H0
  clear hR ht
  go_enter Tryd.func7, Tryd.ntmps7
  go_upto_region 1 with fail
  rw [← hg]
  generalize (w.alloc (.cells #[.int .i64 r.w, .slice A r.rows.length c] 27)) = W at *
  clear hg
  have c0 : W.cell? ⟨g, 0, none⟩ = some (.int .i64 r.w) := H0.h0.cell 0
  have c1 : W.cell? ⟨g, 1, none⟩ = some (.slice A r.rows.length c) := H0.h0.cell 1
  have HC1 := Lib.hid (impl_IsRegion_c W (HRD.out W H0.below))
  go_wp2_with fail
  refine (HC1.out).mono ?_
  rintro e w2 ⟨rfl, b1⟩
  have H2 := H0.step b1
  clear c0 c1 HC1 b1 H0
  by_cases hv : r.Valid
  case neg =>
    have hvv : r.valid = false := decide_eq_false hv
    obtain rfl : R = ⟨#[]⟩ := by rw [HR.out, regT, hvv]; rfl
    rw [hvv]
    clear hv hvv
    go_wp2
    go_ret
    exact ⟨rfl, H2.below⟩
  have hvv : r.valid = true := decide_eq_true hv
  have HV := Lib.hid hv
  rw [hvv]
  have hrl : r.rows.length ≤ 1048576 := by have := hv.2.2.2.1; omega
  have HW : Hid (Below w.heap.size w w2) := Lib.hid H2.below
  have HTR : Hid (∀ w', Below w2.heap.size w2 w' → Below w.heap.size w w') := Lib.hid fun w' b => HW.out.trans (b.mono HW.out.size)
  have hgl : g < w2.heap.size := H2.h0.lt
  have hx0 : w2.cell? ⟨g, 0, none⟩ = some (.int .i64 r.w) := H2.h0.cell 0
  have hx1 : w2.cell? ⟨g, 1, none⟩ = some (.slice A r.rows.length c) := H2.h0.cell 1
  have BB : Hid (∀ w', Below w2.heap.size w2 w' → w'.cell? ⟨g, 0, none⟩ = some (.int .i64 r.w) ∧ w'.cell? ⟨g, 1, none⟩ = some (.slice A r.rows.length c)) := Lib.hid fun w' b => ⟨(b.cell (p := ⟨g, 0, none⟩) hgl).trans hx0, (b.cell (p := ⟨g, 1, none⟩) hgl).trans hx1⟩
  obtain ⟨an, pn, dz, cl, ml, HAN, HPP, HDD, HCL, HML, hanb, hpn, hdz, hclB, hmlB⟩ := rl_nums hv
  obtain ⟨F, hF⟩ : ∃ U, U = fmtR r := ⟨_, rfl⟩
  obtain ⟨A1, hA1⟩ : ∃ U, U = itoaB an := ⟨_, rfl⟩
  obtain ⟨P1, hP1⟩ : ∃ U, U = itoaB (pn : Int) := ⟨_, rfl⟩
  obtain ⟨D1, hD1⟩ : ∃ U, U = itoaB dz := ⟨_, rfl⟩
  obtain ⟨C1, hC1⟩ : ∃ U, U = numT itoaB cl := ⟨_, rfl⟩
  obtain ⟨M1, hM1⟩ : ∃ U, U = numT itoaB ml := ⟨_, rfl⟩
  obtain ⟨sp, hsp⟩ : ∃ b, b = r.spanWay.isSome := ⟨_, rfl⟩
  have HRR : Hid (R = regS F A1 P1 C1 D1 M1 ++ (if sp then spanT else ⟨#[]⟩)) := Lib.hid (by
    rw [HR.out, regT, hvv, hF, hA1, hP1, hD1, hC1, hM1, hsp, HAN.out, HPP.out, HDD.out, HCL.out, HML.out]; rfl)
  have s1 : F.size ≤ 42 := by rw [hF]; exact fmtR_sz hv
  have s2 : A1.size ≤ 21 := by rw [hA1]; exact itoaR_size _ (by omega) (by omega)
  have s3 : P1.size ≤ 21 := by rw [hP1]; exact itoaR_size _ (by omega) (by omega)
  have s4 : D1.size ≤ 21 := by rw [hD1]; exact itoaR_size _ (by omega) (by omega)
  have s5 : C1.size ≤ 300 := by rw [hC1]; exact numR_size hclB.1 hclB.2
  have s6 : M1.size ≤ 300 := by rw [hM1]; exact numR_size hmlB.1 hmlB.2
  have HI1 : Hid (∀ w', Below w2.heap.size w2 w' → Calls Tryd.prog 24 #[.int .i64 an] w' fun e w'' => e = .returned (.string A1) ∧ Below w'.heap.size w' w'') := Lib.hid fun w' b => by rw [hA1]; exact impl_fmtInt_c an w' (by omega) (by omega) (HT10.out w' (HTR.out w' b))
  have HI2 : Hid (∀ w', Below w2.heap.size w2 w' → Calls Tryd.prog 24 #[.int .i64 (pn : Int)] w' fun e w'' => e = .returned (.string P1) ∧ Below w'.heap.size w' w'') := Lib.hid fun w' b => by rw [hP1]; exact impl_fmtInt_c (pn : Int) w' (by omega) (by omega) (HT10.out w' (HTR.out w' b))
  have HI3 : Hid (∀ w', Below w2.heap.size w2 w' → Calls Tryd.prog 24 #[.int .i64 dz] w' fun e w'' => e = .returned (.string D1) ∧ Below w'.heap.size w' w'') := Lib.hid fun w' b => by rw [hD1]; exact impl_fmtInt_c dz w' (by omega) (by omega) (HT10.out w' (HTR.out w' b))
  have HFR : Hid (∀ w', Below w2.heap.size w2 w' → Calls Tryd.prog 23 #[.agg #[.int .i64 r.w, .slice A r.rows.length c]] w' fun e w'' => e = .returned (.string F) ∧ Below w'.heap.size w' w'') := Lib.hid fun w' b => by rw [hF]; exact impl_fmtReg_c w' (HRD.out w' (HTR.out w' b)) hrl
  have HAR : Hid (∀ w', Below w2.heap.size w2 w' → Calls Tryd.prog 25 #[.agg #[.int .i64 r.w, .slice A r.rows.length c]] w' fun e w'' => e = .returned (.int .i64 an) ∧ Below w'.heap.size w' w'') := Lib.hid fun w' b => by rw [HAN.out]; exact impl_area_c w' (HRD.out w' (HTR.out w' b)) hrl
  have HDO : Hid (∀ w', Below w2.heap.size w2 w' → Calls Tryd.prog 29 #[.agg #[.int .i64 r.w, .slice A r.rows.length c]] w' fun e w'' => e = .returned (.int .i64 dz) ∧ Below w'.heap.size w' w'') := Lib.hid fun w' b => by rw [HDD.out]; exact impl_dominoes_c w' (HRD.out w' (HTR.out w' b)) HV.out
  have HSP : Hid (∀ w', Below w2.heap.size w2 w' → Calls Tryd.prog 33 #[.agg #[.int .i64 r.w, .slice A r.rows.length c]] w' fun e w'' => e = .returned (.bool sp) ∧ Below w'.heap.size w' w'') := Lib.hid fun w' b => by rw [hsp]; exact impl_isspanning_c w' (HRD.out w' (HTR.out w' b))
  have HPT : Hid (∀ w', Below w2.heap.size w2 w' → Calls Tryd.prog 26 #[.agg #[.int .i64 r.w, .slice A r.rows.length c]] w' fun e w'' => ∃ A c, e = .returned (.slice A pn c) ∧ Below w'.heap.size w' w'') := Lib.hid fun w' b => by rw [HPP.out]; exact impl_parts_c w' (HRD.out w' (HTR.out w' b)) HV.out
  have HCO : Hid (∀ w', Below w2.heap.size w2 w' → Calls Tryd.prog 28 #[.agg #[.int .i64 r.w, .slice A r.rows.length c], .int .i64 2] w' fun e w'' => ∃ v', e = .returned v' ∧ IntsIn w'' w'.heap.size w''.heap.size v' cl ∧ Below w'.heap.size w' w'') := Lib.hid fun w' b => by rw [HCL.out]; exact impl_col_c w' (HRD.out w' (HTR.out w' b)) HV.out
  have HMO : Hid (∀ w', Below w2.heap.size w2 w' → Calls Tryd.prog 30 #[.agg #[.int .i64 r.w, .slice A r.rows.length c]] w' fun e w'' => ∃ v', e = .returned v' ∧ IntsIn w'' w'.heap.size w''.heap.size v' ml ∧ Below w'.heap.size w' w'') := Lib.hid fun w' b => by rw [HML.out]; exact impl_motions_c w' (HRD.out w' (HTR.out w' b)) HV.out
  have HNC : Hid (∀ w' v', Below w2.heap.size w2 w' → IntsRd w' 0 w'.heap.size v' cl → Calls Tryd.prog 27 #[v'] w' fun e w'' => e = .returned (.string C1) ∧ Below w'.heap.size w' w'') := Lib.hid fun w' v' b h' => by rw [hC1]; exact numbersText_c (f := itoaB) w' h' (fun n hn => itoa_I w' (HT10.out w' (HTR.out w' b)) n (by have := hclB.2 n hn; omega) (by have := hclB.2 n hn; omega)) (fun n hn => Nat.le_trans (itoaR_size n (by have := hclB.2 n hn; omega) (by have := hclB.2 n hn; omega)) (by decide)) (by omega)
  have HNM : Hid (∀ w' v', Below w2.heap.size w2 w' → IntsRd w' 0 w'.heap.size v' ml → Calls Tryd.prog 27 #[v'] w' fun e w'' => e = .returned (.string M1) ∧ Below w'.heap.size w' w'') := Lib.hid fun w' v' b h' => by rw [hM1]; exact numbersText_c (f := itoaB) w' h' (fun n hn => itoa_I w' (HT10.out w' (HTR.out w' b)) n (by have := hmlB.2 n hn; omega) (by have := hmlB.2 n hn; omega)) (fun n hn => Nat.le_trans (itoaR_size n (by have := hmlB.2 n hn; omega) (by have := hmlB.2 n hn; omega)) (by decide)) (by omega)
  have HSZ : Hid (∀ x ∈ [(⟨#[114, 101, 103, 105, 111, 110]⟩ : ByteArray), (F : ByteArray), (⟨#[97, 114, 101, 97]⟩ : ByteArray), (A1 : ByteArray), (⟨#[112, 97, 114, 116, 115]⟩ : ByteArray), (P1 : ByteArray), (⟨#[99, 111, 108, 111, 114, 115]⟩ : ByteArray), (C1 : ByteArray), (⟨#[100, 111, 109, 105, 110, 111, 101, 115]⟩ : ByteArray), (D1 : ByteArray), (⟨#[109, 111, 116, 105, 111, 110, 115]⟩ : ByteArray), (M1 : ByteArray)] ++ [⟨#[115, 112, 97, 110, 115]⟩], x.size ≤ 1000) := Lib.hid fun x hx => by
    simp only [List.cons_append, List.nil_append, List.mem_cons, List.not_mem_nil, or_false] at hx
    rcases hx with rfl | rfl | rfl | rfl | rfl | rfl | rfl | rfl | rfl | rfl | rfl | rfl | rfl
    · decide
    · omega
    · decide
    · omega
    · decide
    · omega
    · decide
    · omega
    · decide
    · omega
    · decide
    · omega
    · decide
  clear HAN HPP HDD HCL HML hF hA1 hP1 hD1 hC1 hM1 hsp s1 s2 s3 s4 s5 s6 hx0 hx1 H2 hdz hpn hanb hclB hmlB hv hvv hrl HV HR
  go_upto_region 3 with fail
  have HH : Below w2.heap.size w2 w2.drew := below_drew (Below.refl _ _)
  have f0 := (BB.out _ HH).1
  have f1 := (BB.out _ HH).2
  go_region_held3 (fun w' => w'.cell? ⟨g, 0, none⟩ = some (.int .i64 r.w) ∧ w'.cell? ⟨g, 1, none⟩ = some (.slice A r.rows.length c))
    (first | ((try dsimp only); refine ⟨?_, ?_⟩ <;> assumption) | go_keep)
    (first
    | (go_at_call 23; (with_reducible refine (HFR.out _ HH).mono ?_); rintro e wz ⟨rfl, bz⟩; replace HH := HH.trans (bz.mono HH.size); clear bz; have f0 := (BB.out _ HH).1; have f1 := (BB.out _ HH).2)
    | (go_at_call 25; (with_reducible refine (HAR.out _ HH).mono ?_); rintro e wz ⟨rfl, bz⟩; replace HH := HH.trans (bz.mono HH.size); clear bz; have f0 := (BB.out _ HH).1; have f1 := (BB.out _ HH).2)
    | (go_at_call 24; (with_reducible refine (HI1.out _ HH).mono ?_); rintro e wz ⟨rfl, bz⟩; replace HH := HH.trans (bz.mono HH.size); clear bz; have f0 := (BB.out _ HH).1; have f1 := (BB.out _ HH).2)
    | (go_at_call 24; (with_reducible refine (HI2.out _ HH).mono ?_); rintro e wz ⟨rfl, bz⟩; replace HH := HH.trans (bz.mono HH.size); clear bz; have f0 := (BB.out _ HH).1; have f1 := (BB.out _ HH).2)
    | (go_at_call 24; (with_reducible refine (HI3.out _ HH).mono ?_); rintro e wz ⟨rfl, bz⟩; replace HH := HH.trans (bz.mono HH.size); clear bz; have f0 := (BB.out _ HH).1; have f1 := (BB.out _ HH).2)
    | (go_at_call 26; (with_reducible refine (HPT.out _ HH).mono ?_); rintro e wz ⟨Az, cz, rfl, bz⟩; replace HH := HH.trans (bz.mono HH.size); clear bz; have f0 := (BB.out _ HH).1; have f1 := (BB.out _ HH).2)
    | (go_at_call 28; (with_reducible refine (HCO.out _ HH).mono ?_); rintro e wz ⟨vz, rfl, oz, bz⟩; have HA1 := Lib.hid ((IntsIn.rd oz).more (Nat.zero_le _) (Nat.le_refl _)); clear oz; replace HH := HH.trans (bz.mono HH.size); clear bz; have f0 := (BB.out _ HH).1; have f1 := (BB.out _ HH).2)
    | (go_at_call 27; (with_reducible refine (HNM.out _ _ HH HA2.out).mono ?_); rintro e wz ⟨rfl, bz⟩; replace HH := HH.trans (bz.mono HH.size); clear bz; have f0 := (BB.out _ HH).1; have f1 := (BB.out _ HH).2)
    | (go_at_call 27; (with_reducible refine (HNC.out _ _ HH HA1.out).mono ?_); rintro e wz ⟨rfl, bz⟩; replace HH := HH.trans (bz.mono HH.size); clear bz; have f0 := (BB.out _ HH).1; have f1 := (BB.out _ HH).2)
    | (go_at_call 29; (with_reducible refine (HDO.out _ HH).mono ?_); rintro e wz ⟨rfl, bz⟩; replace HH := HH.trans (bz.mono HH.size); clear bz; have f0 := (BB.out _ HH).1; have f1 := (BB.out _ HH).2)
    | (go_at_call 30; (with_reducible refine (HMO.out _ HH).mono ?_); rintro e wz ⟨vz, rfl, oz, bz⟩; have HA2 := Lib.hid ((IntsIn.rd oz).more (Nat.zero_le _) (Nat.le_refl _)); clear oz; replace HH := HH.trans (bz.mono HH.size); clear bz; have f0 := (BB.out _ HH).1; have f1 := (BB.out _ HH).2))
  all_goals
    have HB := (show Sep w2 _ [] from HH).rowBox 9 #[.string ⟨#[114, 101, 103, 105, 111, 110]⟩, .string F, .string ⟨#[97, 114, 101, 97]⟩, .string A1, .string ⟨#[112, 97, 114, 116, 115]⟩, .string P1, .string ⟨#[99, 111, 108, 111, 114, 115]⟩, .string C1, .string ⟨#[100, 111, 109, 105, 110, 111, 101, 115]⟩, .string D1, .string ⟨#[109, 111, 116, 105, 111, 110, 115]⟩, .string M1] 1 12 rfl (by decide)
    have k0 := (BB.out _ HB.below).1
    have k1 := (BB.out _ HB.below).2
    go_wp2_with fail
    refine (HSP.out _ HB.below).mono ?_
    rintro e w9 ⟨rfl, b9⟩
    have H9 := HB.step b9
    have HWD := Lib.hid (words_c sp ⟨#[115, 112, 97, 110, 115]⟩ (l := [⟨#[114, 101, 103, 105, 111, 110]⟩, F, ⟨#[97, 114, 101, 97]⟩, A1, ⟨#[112, 97, 114, 116, 115]⟩, P1, ⟨#[99, 111, 108, 111, 114, 115]⟩, C1, ⟨#[100, 111, 109, 105, 110, 111, 101, 115]⟩, D1, ⟨#[109, 111, 116, 105, 111, 110, 115]⟩, M1]) H9 (by simp))
    clear HB b9 k0 k1 f0 f1 H9
    go_wp2_with fail
    refine (HWD.out).mono ?_
    rintro e w10 ⟨vw, rfl, H10⟩
    have HLN0 := (line_own (l := if sp then [⟨#[114, 101, 103, 105, 111, 110]⟩, F, ⟨#[97, 114, 101, 97]⟩, A1, ⟨#[112, 97, 114, 116, 115]⟩, P1, ⟨#[99, 111, 108, 111, 114, 115]⟩, C1, ⟨#[100, 111, 109, 105, 110, 111, 101, 115]⟩, D1, ⟨#[109, 111, 116, 105, 111, 110, 115]⟩, M1] ++ [⟨#[115, 112, 97, 110, 115]⟩] else [⟨#[114, 101, 103, 105, 111, 110]⟩, F, ⟨#[97, 114, 101, 97]⟩, A1, ⟨#[112, 97, 114, 116, 115]⟩, P1, ⟨#[99, 111, 108, 111, 114, 115]⟩, C1, ⟨#[100, 111, 109, 105, 110, 111, 101, 115]⟩, D1, ⟨#[109, 111, 116, 105, 111, 110, 115]⟩, M1]) (b := 1000) H10 rfl (fun x hx => HSZ.out x (if_memR hx)) (if_lenR (by simp)) (by decide))
    rw [rl_join, ← HRR.out] at HLN0
    have HLN := Lib.hid HLN0
    have HBL := Lib.hid H10.below
    clear HWD H10 HLN0
    go_wp2_with fail
    refine (HLN.out).mono ?_
    rintro e w11 ⟨rfl, b11⟩
    go_wp2
    go_ret
    exact ⟨rfl, HTR.out _ (HBL.out.trans (b11.mono HBL.out.size))⟩
end Go.Proofs.YtoccedebiacbiaaDoor

namespace Go.Proofs.YtoccedebiacbiaaDoor
open Go.RowKit

set_option maxRecDepth 100000 in
theorem tab10_ofR {x y : String × DataW Unit} {W : World} (h : laidMet Tryd.prog [x, y, ("internal/strconv.uint64pow10", Lib.tabData .u64 Lib.pow10Tab)] W) : Tab10 W := by
  have hs : ((Tryd.prog.globalNamed "internal/strconv.uint64pow10").bind fun g => (Tryd.prog.globals[g]?).map (·.type)) = some 106 := by kernel_rfl
  obtain ⟨g, hg, hty⟩ := Option.bind_eq_some_iff.1 hs
  exact Lib.tabIs_of_head hg hty Tryd.underlying106 Tryd.underlying87 (by kernel_rfl) (by kernel_rfl) h.tail.tail
set_option maxRecDepth 100000 in
set_option maxHeartbeats 8000000 in
theorem law_RegionLine (vr : Value) (r : Reg) (w : World) (hr : RegRd w 0 w.heap.size vr r) (ht10 : Tab10 w) :
    Calls Tryd.prog 3 #[vr] w fun e w' => e = .returned (.bool true) ∧ Below w.heap.size w w' := by
  obtain ⟨sr, rfl, hsr⟩ := id hr
  have B : Below w.heap.size w (w.alloc (.cells #[.int .i64 r.w, sr] 24)) := ((Below.refl w.heap.size w).alloc (by first | exact Nat.le_refl _ | (simp; done) | (simp; omega)) _)
  have s0 : w.heap.size + 1 ≤ (w.alloc (.cells #[.int .i64 r.w, sr] 24)).heap.size := by simp
  have xr : BoxIn (w.alloc (.cells #[.int .i64 r.w, sr] 24)) w.heap.size (w.heap.size + 1) (w.heap.size) 24 #[.int .i64 r.w, sr] := ⟨by have := Blk.new w 24 #[.int .i64 r.w, sr]; simpa using this, by omega, by omega⟩
  have or := hr.keep (SameIn.of_below B (Nat.le_refl _))
  by_cases q0 : 1048576 < (r.rows.length : Int)
  · skip
    go_enter Tryd.func3, Tryd.ntmps3
    go_wp2_with fail
    generalize (w.alloc (.cells #[.int .i64 r.w, sr] 24)) = W0 at *
    refine (szRegion_c _ _ (or.more (Nat.zero_le _) (by omega)) (by omega) (by omega)).mono ?_
    rintro e w1 ⟨rfl, b1⟩
    have s1 := b1.size
    replace xr := xr.keep (SameIn.of_below b1 (by omega))
    replace or := or.keep (SameIn.of_below b1 (by omega))
    replace B := B.trans (b1.mono (by omega))
    clear b1
    rw [if_pos (by omega)]
    go_wp2
    go_ret
    exact ⟨rfl, B⟩
  go_enter Tryd.func3, Tryd.ntmps3
  go_wp2_with fail
  generalize (w.alloc (.cells #[.int .i64 r.w, sr] 24)) = W0 at *
  refine (szRegion_c _ _ (or.more (Nat.zero_le _) (by omega)) (by omega) (by omega)).mono ?_
  rintro e w1 ⟨rfl, b1⟩
  have s1 := b1.size
  replace xr := xr.keep (SameIn.of_below b1 (by omega))
  replace or := or.keep (SameIn.of_below b1 (by omega))
  replace B := B.trans (b1.mono (by omega))
  clear b1
  rw [if_neg (by omega)]
  have yr0 : w1.cell? ⟨w.heap.size, 0, none⟩ = some (.int .i64 r.w) := (by first | exact xr.cell 0)
  have yr1 : w1.cell? ⟨w.heap.size, 1, none⟩ = some (sr) := (by first | exact xr.cell 1)
  go_wp2_with fail
  clear yr0 yr1
  refine (toRegion_c _ (or.more (Nat.zero_le _) (by omega)) (by omega)).mono ?_
  rintro e w2 ⟨usr, rfl, osr, b2⟩
  have s2 := b2.size
  replace xr := xr.keep (SameIn.of_below b2 (by omega))
  replace or := or.keep (SameIn.of_below b2 (by omega))
  replace B := B.trans (b2.mono (by omega))
  clear b2
  go_wp2_with fail
  refine (spec_rl_c _ (osr.rd.more (Nat.zero_le _) (by omega))).mono ?_
  rintro e w3 ⟨rfl, b3⟩
  have s3 := b3.size
  replace xr := xr.keep (SameIn.of_below b3 (by omega))
  replace or := or.keep (SameIn.of_below b3 (by omega))
  replace osr := osr.keep (SameIn.of_below b3 (by omega))
  replace B := B.trans (b3.mono (by omega))
  clear b3
  clear osr
  have yr0 : w3.cell? ⟨w.heap.size, 0, none⟩ = some (.int .i64 r.w) := (by first | exact xr.cell 0)
  have yr1 : w3.cell? ⟨w.heap.size, 1, none⟩ = some (sr) := (by first | exact xr.cell 1)
  go_wp2_with fail
  clear yr0 yr1
  refine (toRegion_c _ (or.more (Nat.zero_le _) (by omega)) (by omega)).mono ?_
  rintro e w4 ⟨uxr, rfl, oxr, b4⟩
  have s4 := b4.size
  replace xr := xr.keep (SameIn.of_below b4 (by omega))
  replace or := or.keep (SameIn.of_below b4 (by omega))
  replace B := B.trans (b4.mono (by omega))
  clear b4
  obtain ⟨tuxr, rfl, guxr⟩ := id oxr
  obtain ⟨Auxr, cuxr, rfl, _, _⟩ := guxr.rd
  clear guxr
  have bb : Below w4.heap.size w4 (w4.alloc (.cells #[.int .i64 r.w, .slice Auxr r.rows.length cuxr] 27)) := (Below.refl _ _).alloc (Nat.le_refl _) _
  have s5 : w4.heap.size + 1 ≤ (w4.alloc (.cells #[.int .i64 r.w, .slice Auxr r.rows.length cuxr] 27)).heap.size := by simp
  replace xr := xr.keep (SameIn.of_below bb (by omega))
  replace or := or.keep (SameIn.of_below bb (by omega))
  replace oxr := oxr.keep (SameIn.of_below bb (by omega))
  replace B := B.trans (bb.mono (by omega))
  clear bb
  have xuxr : BoxIn (w4.alloc (.cells #[.int .i64 r.w, .slice Auxr r.rows.length cuxr] 27)) w4.heap.size (w4.heap.size + 1) w4.heap.size 27 #[.int .i64 r.w, .slice Auxr r.rows.length cuxr] := ⟨Blk.new _ _ _, Nat.le_refl _, Nat.lt_succ_self _⟩
  have yuxr0 : (w4.alloc (.cells #[.int .i64 r.w, .slice Auxr r.rows.length cuxr] 27)).cell? ⟨w4.heap.size, 0, none⟩ = some (.int .i64 r.w) := (by first | exact xuxr.cell 0)
  have yuxr1 : (w4.alloc (.cells #[.int .i64 r.w, .slice Auxr r.rows.length cuxr] 27)).cell? ⟨w4.heap.size, 1, none⟩ = some (.slice Auxr r.rows.length cuxr) := (by first | exact xuxr.cell 1)
  go_wp2_with fail
  generalize w4.alloc (.cells #[.int .i64 r.w, .slice Auxr r.rows.length cuxr] 27) = w5 at *
  clear yuxr0 yuxr1
  refine (impl_rl_c _ (oxr.rd.more (Nat.zero_le _) (by omega)) (tab10_belowR ht10 B)).mono ?_
  rintro e w6 ⟨rfl, b6⟩
  have s6 := b6.size
  replace xr := xr.keep (SameIn.of_below b6 (by omega))
  replace or := or.keep (SameIn.of_below b6 (by omega))
  replace oxr := oxr.keep (SameIn.of_below b6 (by omega))
  replace xuxr := xuxr.keep (SameIn.of_below b6 (by omega))
  replace B := B.trans (b6.mono (by omega))
  clear b6
  have yuxr0 : w6.cell? ⟨w4.heap.size, 0, none⟩ = some (.int .i64 r.w) := (by first | exact xuxr.cell 0)
  have yuxr1 : w6.cell? ⟨w4.heap.size, 1, none⟩ = some (.slice Auxr r.rows.length cuxr) := (by first | exact xuxr.cell 1)
  have yr0 : w6.cell? ⟨w.heap.size, 0, none⟩ = some (.int .i64 r.w) := (by first | exact xr.cell 0)
  have yr1 : w6.cell? ⟨w.heap.size, 1, none⟩ = some (sr) := (by first | exact xr.cell 1)
  go_wp2_with fail
  go_region_held3 (fun w' => w'.cell? ⟨w4.heap.size, 0, none⟩ = some (.int .i64 r.w) ∧ w'.cell? ⟨w4.heap.size, 1, none⟩ = some (.slice Auxr r.rows.length cuxr) ∧ w'.cell? ⟨w.heap.size, 0, none⟩ = some (.int .i64 r.w) ∧ w'.cell? ⟨w.heap.size, 1, none⟩ = some (sr))
    (first | ((try dsimp only); refine ⟨?_, ?_, ?_, ?_⟩ <;> assumption) | go_keep)
    ((first | (go_at_call 6; (with_reducible refine (toRegion_c (v := (.agg #[.int .i64 r.w, sr])) (x := r) _ (by exact ((or.keep (SameIn.drew)).more (Nat.zero_le _) (le_drew (show w.heap.size ≤ w6.heap.size by omega)))) (by omega)).mono ?_); rintro e w7 ⟨utr, rfl, otr, b7⟩; replace b7 := below_undrew b7; have s7 := b7.size; replace xr := xr.keep (SameIn.of_below b7 (by omega)); replace or := or.keep (SameIn.of_below b7 (by omega)); replace oxr := oxr.keep (SameIn.of_below b7 (by omega)); replace xuxr := xuxr.keep (SameIn.of_below b7 (by omega)); replace B := B.trans (b7.mono (by omega)); clear b7; have yuxr0_7 : w7.cell? ⟨w4.heap.size, 0, none⟩ = some (.int .i64 r.w) := (by first | exact xuxr.cell 0); have yuxr1_7 : w7.cell? ⟨w4.heap.size, 1, none⟩ = some (.slice Auxr r.rows.length cuxr) := (by first | exact xuxr.cell 1); have yr0_7 : w7.cell? ⟨w.heap.size, 0, none⟩ = some (.int .i64 r.w) := (by first | exact xr.cell 0); have yr1_7 : w7.cell? ⟨w.heap.size, 1, none⟩ = some (sr) := (by first | exact xr.cell 1)) | (go_at_call 8; (with_reducible refine (eqRegion_c (x := r) _ (oxr.rd.more (Nat.zero_le _) (by omega)) (otr.rd.more (Nat.zero_le _) (by omega))).mono ?_); rintro e w8 ⟨rfl, b8⟩; have s8 := b8.size; replace xr := xr.keep (SameIn.of_below b8 (by omega)); replace or := or.keep (SameIn.of_below b8 (by omega)); replace oxr := oxr.keep (SameIn.of_below b8 (by omega)); replace xuxr := xuxr.keep (SameIn.of_below b8 (by omega)); replace otr := otr.keep (SameIn.of_below b8 (by omega)); replace B := B.trans (b8.mono (by omega)); clear b8; have yuxr0_8 : w8.cell? ⟨w4.heap.size, 0, none⟩ = some (.int .i64 r.w) := (by first | exact xuxr.cell 0); have yuxr1_8 : w8.cell? ⟨w4.heap.size, 1, none⟩ = some (.slice Auxr r.rows.length cuxr) := (by first | exact xuxr.cell 1); have yr0_8 : w8.cell? ⟨w.heap.size, 0, none⟩ = some (.int .i64 r.w) := (by first | exact xr.cell 0); have yr1_8 : w8.cell? ⟨w.heap.size, 1, none⟩ = some (sr) := (by first | exact xr.cell 1))))
  clear yuxr0_7 yuxr1_7 yr0_7 yr1_7 yuxr0_8 yuxr1_8 yr0_8 yr1_8
  clear yuxr0 yuxr1 yr0 yr1
  clear otr
  go_wp2
  go_ret
  exact ⟨rfl, B⟩

end Go.Proofs.YtoccedebiacbiaaDoor
