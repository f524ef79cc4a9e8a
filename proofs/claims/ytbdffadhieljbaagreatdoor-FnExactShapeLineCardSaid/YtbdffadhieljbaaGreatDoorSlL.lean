
/-
  ShapeLine: what both walks want. ShapeLine: the reference's walk. ShapeLine: the program's walk. The law FnExactShapeLine, walked by contracts.
-/
import Derived.Test.YtbdffadhieljbaaGreatDoorSlF
import Derived.Test.YtbdffadhieljbaaGreatDoorSlN
import Derived.Test.YtbdffadhieljbaaGreatDoorSlH
import Derived.Test.YtbdffadhieljbaaGreatDoorSlO
import Derived.Test.YtbdffadhieljbaaGreatDoorSlT
import Derived.Lib.ItoaLen
import Derived.Test.YtbdffadhieljbaaGreatDoorLawCells
import Derived.Lib.LaidTab
import Derived.Stop.LaidErr
namespace Go.Proofs.YtbdffadhieljbaaGreatDoor
open Go.RowKit

def shS (F P1 H1 S1 O1 : ByteArray) : ByteArray := ⟨#[115, 104, 97, 112, 101, 32]⟩ ++ F ++ ⟨#[32, 112, 101, 114, 105, 109, 101, 116, 101, 114, 32]⟩ ++ P1 ++ ⟨#[32, 104, 111, 108, 101, 115, 32]⟩ ++ H1 ++ ⟨#[32, 115, 121, 109, 109, 101, 116, 114, 105, 101, 115, 32]⟩ ++ S1 ++ ⟨#[32, 111, 114, 105, 101, 110, 116, 97, 116, 105, 111, 110, 115, 32]⟩ ++ O1
def cnT : ByteArray := ⟨#[32, 99, 111, 110, 110, 101, 99, 116, 101, 100]⟩
def cvT : ByteArray := ⟨#[32, 99, 111, 110, 118, 101, 120]⟩
def skT : ByteArray := ⟨#[32, 115, 110, 97, 107, 101]⟩
def ntT : ByteArray := ⟨#[32, 110, 101, 116]⟩
/-- the line about a shape -/
noncomputable def shapeT (s : List Cell) : ByteArray := if isShape s then shS (fmtSh s) (itoaB (perZ s)) (itoaB (holesZ s)) (numT itoaB (symZ s 8)) (itoaB ((orients s).length : Int)) ++ (if connS s then cnT else ⟨#[]⟩) ++ (if cvxB s then cvT else ⟨#[]⟩) ++ (if snkB s then skT else ⟨#[]⟩) ++ (if netB s then ntT else ⟨#[]⟩) else ⟨#[]⟩
theorem itoaR_size (n : Int) (h0 : -9223372036854775808 ≤ n) (h1 : n ≤ 9223372036854775807) : (itoaB n).size ≤ 21 := by
  unfold itoaB
  rw [ustr_size]
  exact Lib.itoa_length_le n h0 h1
theorem decR_pos : ∀ n : Nat, Lib.decDigits n ≠ []
  | n => by
    rw [Lib.decDigits]
    split <;> simp
theorem itoaR_ne (n : Int) : Lib.itoa n ≠ [] := by
  unfold Lib.itoa
  split
  · simp
  · exact decR_pos _
theorem itoaR_pos (n : Int) : 1 ≤ (itoaB n).size := by
  unfold itoaB
  rw [ustr_size]
  have h := itoaR_ne n
  exact List.length_pos_iff.2 h
theorem numR_size {l : List Int} (hl : l.length ≤ 8) (h : ∀ n ∈ l, 0 ≤ n ∧ n ≤ 1000) : (numT itoaB l).size ≤ 300 := by
  unfold numT
  split
  · decide
  · have := joinB_size (s := commaB) (b := 30) (l := l.map itoaB) (fun x hx => by
      obtain ⟨n, hn, rfl⟩ := List.mem_map.1 hx
      have h1 := h n hn
      exact Nat.le_trans (itoaR_size n (by omega) (by omega)) (by decide))
    rw [List.length_map] at this
    have h2 : commaB.size = 1 := rfl
    rw [h2] at this
    have : l.length * (30 + 1) ≤ 8 * 31 := Nat.mul_le_mul_right _ hl
    omega
set_option maxRecDepth 100000 in
theorem tab10_belowR {w w' : World} (ht : Tab10 w) (hb : Below w.heap.size w w') : Tab10 w' := by
  have hs : (Tryz.prog.globalNamed "internal/strconv.uint64pow10").isSome = true := by kernel_rfl
  obtain ⟨g, hg⟩ := Option.isSome_iff_exists.1 hs
  exact Go.Joins.tab_stays hg ht hb (Nat.le_refl _)
theorem fmtL_size {s : List Cell} (h : isShape s = true) : (fmtSh s).size ≤ 80 ∧ 1 ≤ (fmtSh s).size := by
  have hG := grd_corner h
  have hz := shp_size h
  have hm := shp_min h
  unfold fmtSh
  rw [tb_size]
  have h1 := txtF_len (f := rowF (corner s)) (fun k => by have := rowF_8 hG (i := (corner s).length) (k := k) (Nat.le_refl _); rwa [List.take_length] at this) (htOf s - 1).toNat
  refine ⟨by omega, ?_⟩
  cases hy : (htOf s - 1).toNat with
  | succ y => rw [txtF, List.length_append, List.length_cons]; omega
  | zero =>
    rw [txtF]
    have hn := hG.len.1
    obtain ⟨c, hc⟩ : ∃ c, (corner s)[(corner s).length - 1]? = some c := ⟨(corner s)[(corner s).length - 1]'(by omega), List.getElem?_eq_getElem _⟩
    have h2 := rowF_take (k := 0) hc
    have e1 : (corner s).length - 1 + 1 = (corner s).length := by omega
    rw [e1, List.take_length] at h2
    have h3 := corner_lt (List.mem_of_getElem? hc)
    have h4 := corner_ge (List.mem_of_getElem? hc)
    rw [if_pos (by omega)] at h2
    rw [h2]
    simp only [List.length_append, List.length_cons]
    omega
set_option maxRecDepth 100000 in
theorem yes_c (b : Bool) (s : ByteArray) (w : World) : Calls Tryz.prog 17 #[.bool b, .string s] w fun e w' => e = .returned (.string (if b then s else ⟨#[]⟩)) ∧ Below w.heap.size w w' := by
  cases b
  all_goals
    go_enter Tryz.func17, Tryz.ntmps17
    go_wp2
    go_ret
    exact ⟨rfl, Below.refl _ _⟩
set_option maxRecDepth 100000 in
theorem words_c {w0 w : World} {Ls : List Res} {v : Value} {l : List ByteArray} (b : Bool) (s : ByteArray) (H : Sep w0 w (Res.row v 9 1 l.length (sc l) :: Ls)) (hl : l.length ≤ 1000) :
    Calls Tryz.prog 31 #[v, .bool b, .string s] w fun e w' => ∃ v', e = .returned v' ∧ Sep w0 w' (Res.row v' 9 1 (if b then l ++ [s] else l).length (sc (if b then l ++ [s] else l)) :: Ls) := by
  obtain ⟨i0, hi, hz0, hz1, hz2⟩ := info_parts infoStr
  cases b
  · obtain ⟨A, c, rfl, _, _, _⟩ := Res.row_at H.h0
    go_enter Tryz.func31, Tryz.ntmps31
    go_wp2
    go_ret
    exact ⟨_, rfl, H⟩
  · obtain ⟨A, c, rfl, _, _, _⟩ := Res.row_at H.h0
    go_enter Tryz.func31, Tryz.ntmps31
    go_wp2_with (at_builtin; refine wpList_app rfl _ _ 42 rfl 9 i0 _ 1 16 Tryz.underlying42 hi hz0 hz1 hz2 rfl (by decide) _ _ _ rfl (H.alloc _) _ _ _ [.string s] rfl (Rd.fresh _ 9 #[.string s] 1 1 rfl) ocs (by unfold maxLen; omega) (by omega) ?_; intro v4 w4 H4)
    go_ret
    refine ⟨_, rfl, ?_⟩
    simp only [sc_append]
    exact H4
/-- a word more, perhaps -/
def wl (b : Bool) (t : ByteArray) (l : List ByteArray) : List ByteArray := if b then l ++ [t] else l
theorem wl_ne {b : Bool} {t : ByteArray} {l : List ByteArray} (h : l ≠ []) : wl b t l ≠ [] := by
  unfold wl
  cases b <;> simp [h]
theorem wl_len {b : Bool} {t : ByteArray} {l : List ByteArray} {n : Nat} (h : l.length ≤ n) : (wl b t l).length ≤ n + 1 := by
  unfold wl
  cases b <;> simp <;> omega
theorem wl_mem {b : Bool} {t : ByteArray} {l : List ByteArray} {n : Nat} (h : ∀ x ∈ l, x.size ≤ n) (ht : t.size ≤ n) : ∀ x ∈ wl b t l, x.size ≤ n := by
  intro x hx
  unfold wl at hx
  cases b
  · exact h x hx
  · simp only [if_true, List.mem_append, List.mem_singleton] at hx
    rcases hx with hx | rfl
    · exact h x hx
    · exact ht
theorem wl_join {b : Bool} {t : ByteArray} {l : List ByteArray} (h : l ≠ []) : joinB spaceB (wl b t l) = joinB spaceB l ++ (if b then spaceB ++ t else ⟨#[]⟩) := by
  unfold wl
  cases b
  · simp only [Bool.false_eq_true, if_false]
    apply ba_ext
    simp
  · simp only [if_true]
    rw [joinB_snoc _ _ _ h]
    apply ba_ext
    simp
theorem sl_join0 (F P1 H1 S1 O1 : ByteArray) : joinB spaceB [⟨#[115, 104, 97, 112, 101]⟩, F, ⟨#[112, 101, 114, 105, 109, 101, 116, 101, 114]⟩, P1, ⟨#[104, 111, 108, 101, 115]⟩, H1, ⟨#[115, 121, 109, 109, 101, 116, 114, 105, 101, 115]⟩, S1, ⟨#[111, 114, 105, 101, 110, 116, 97, 116, 105, 111, 110, 115]⟩, O1] = shS F P1 H1 S1 O1 := by
  simp only [joinB_cons, joinB_one, spaceB, shS]
  apply ba_ext
  simp
theorem sl_join (F P1 H1 S1 O1 : ByteArray) (cn cv sk nt : Bool) : joinB spaceB (wl nt ⟨#[110, 101, 116]⟩ (wl sk ⟨#[115, 110, 97, 107, 101]⟩ (wl cv ⟨#[99, 111, 110, 118, 101, 120]⟩ (wl cn ⟨#[99, 111, 110, 110, 101, 99, 116, 101, 100]⟩ [⟨#[115, 104, 97, 112, 101]⟩, F, ⟨#[112, 101, 114, 105, 109, 101, 116, 101, 114]⟩, P1, ⟨#[104, 111, 108, 101, 115]⟩, H1, ⟨#[115, 121, 109, 109, 101, 116, 114, 105, 101, 115]⟩, S1, ⟨#[111, 114, 105, 101, 110, 116, 97, 116, 105, 111, 110, 115]⟩, O1])))) = shS F P1 H1 S1 O1 ++ (if cn then cnT else ⟨#[]⟩) ++ (if cv then cvT else ⟨#[]⟩) ++ (if sk then skT else ⟨#[]⟩) ++ (if nt then ntT else ⟨#[]⟩) := by
  have h0 : ([⟨#[115, 104, 97, 112, 101]⟩, F, ⟨#[112, 101, 114, 105, 109, 101, 116, 101, 114]⟩, P1, ⟨#[104, 111, 108, 101, 115]⟩, H1, ⟨#[115, 121, 109, 109, 101, 116, 114, 105, 101, 115]⟩, S1, ⟨#[111, 114, 105, 101, 110, 116, 97, 116, 105, 111, 110, 115]⟩, O1] : List ByteArray) ≠ [] := by simp
  rw [wl_join (wl_ne (wl_ne (wl_ne h0))), wl_join (wl_ne (wl_ne h0)), wl_join (wl_ne h0), wl_join h0, sl_join0]
  rfl
def ddL : List Cell → List Cell
  | [] => []
  | c :: l => if c ∈ ddL l then ddL l else c :: ddL l
theorem ddL_mem {c : Cell} : ∀ {l : List Cell}, c ∈ ddL l ↔ c ∈ l
  | [] => Iff.rfl
  | a :: l => by
    rw [ddL]
    split
    · rename_i h
      rw [ddL_mem, List.mem_cons]
      constructor
      · exact .inr
      · rintro (rfl | h2)
        · exact ddL_mem.1 h
        · exact h2
    · rw [List.mem_cons, List.mem_cons, ddL_mem]
theorem ddL_nodup : ∀ {l : List Cell}, (ddL l).Nodup
  | [] => List.nodup_nil
  | a :: l => by
    rw [ddL]
    split
    · exact ddL_nodup
    · rename_i h
      exact List.nodup_cons.2 ⟨h, ddL_nodup⟩
open Classical in
theorem holes_bd {s : List Cell} (h : isShape s = true) : 0 ≤ holesZ s ∧ holesZ s ≤ 100 := by
  have hsz := shp_size h
  have hmn := shp_min h
  have h1 : holesN s = (ddL ((gridL 0 0 10 10).filter fun q => decide (rootS s q))).length := cardP_eq ddL_nodup fun q => by
    rw [ddL_mem, List.mem_filter, decide_eq_true_iff]
    constructor
    · exact fun hq => hq.2
    · intro hq
      have hb := frB_iff.1 hq.1
      exact ⟨gridL_mem (by omega) (by omega) (by omega) (by omega), hq⟩
  have h2 : (ddL ((gridL 0 0 10 10).filter fun q => decide (rootS s q))).length ≤ (gridL 0 0 10 10).length := nodup_len ddL_nodup fun q hq => (List.mem_filter.1 (ddL_mem.1 hq)).1
  rw [gridL_len] at h2
  unfold holesZ
  rw [if_pos h]
  omega
theorem per_bd {s : List Cell} (h : isShape s = true) : -1000 ≤ perZ s ∧ perZ s ≤ 1000 := by
  have h1 := inn_le64 h
  have h2 := shp_len h
  unfold perZ
  omega
theorem sym_bd {s : List Cell} : (symZ s 8).length ≤ 8 ∧ ∀ n ∈ symZ s 8, 0 ≤ n ∧ n ≤ 1000 := ⟨symZ_len 8, fun n hn => by
  unfold symZ at hn
  obtain ⟨k, hk, rfl⟩ := List.mem_map.1 hn
  have := List.mem_range.1 (List.mem_filter.1 hk).1
  omega⟩
theorem ori_bd {s : List Cell} : (orients s).length ≤ 8 := orients_le 8
theorem sl_nums {s : List Cell} (h : isShape s = true) : ∃ (pn hz : Int) (ml : List Int) (on : Nat) (cn cv sk nt : Bool), Hid (pn = perZ s) ∧ Hid (hz = holesZ s) ∧ Hid (ml = symZ s 8) ∧ Hid (on = (orients s).length) ∧ Hid (cn = connS s) ∧ Hid (cv = cvxB s) ∧ Hid (sk = snkB s) ∧ Hid (nt = netB s) ∧ (-1000 ≤ pn ∧ pn ≤ 1000) ∧ (0 ≤ hz ∧ hz ≤ 100) ∧ (ml.length ≤ 8 ∧ ∀ n ∈ ml, 0 ≤ n ∧ n ≤ 1000) ∧ on ≤ 8 :=
  ⟨_, _, _, _, _, _, _, _, Lib.hid rfl, Lib.hid rfl, Lib.hid rfl, Lib.hid rfl, Lib.hid rfl, Lib.hid rfl, Lib.hid rfl, Lib.hid rfl, per_bd h, holes_bd h, sym_bd, ori_bd⟩
set_option maxRecDepth 100000 in
theorem impl_oriN_c {v : Value} {s : List Cell} (w : World) (h : CellsRd w 0 w.heap.size v s) (hsh : isShape s = true) :
    Calls Tryz.prog 30 #[v] w fun e w' => ∃ A c, e = .returned (.slice A (orients s).length c) ∧ Below w.heap.size w w' := by
  refine (impl_orients_c w h hsh).mono ?_
  rintro e w' ⟨v', P, rfl, hP, H⟩
  obtain ⟨A, c, rfl, _, _, _⟩ := Res.row_at H.h0
  have : P.length = (orients s).length := by rw [← hP, List.length_map]
  rw [this]
  exact ⟨A, c, rfl, H.below⟩
set_option maxRecDepth 100000 in
theorem spec_oriN_c {v : Value} {s : List Cell} (w : World) (h : CellsRd w 0 w.heap.size v s) (hsh : isShape s = true) :
    Calls Tryz.prog 16 #[v] w fun e w' => ∃ A c, e = .returned (.slice A (orients s).length c) ∧ Below w.heap.size w w' := by
  refine (spec_orients_c w h hsh).mono ?_
  rintro e w' ⟨v', P, rfl, hP, H⟩
  obtain ⟨A, c, rfl, _, _, _⟩ := Res.row_at H.h0
  have : P.length = (orients s).length := by rw [← hP, List.length_map]
  rw [this]
  exact ⟨A, c, rfl, H.below⟩
end Go.Proofs.YtbdffadhieljbaaGreatDoor

namespace Go.Proofs.YtbdffadhieljbaaGreatDoor
open Go.RowKit

set_option maxRecDepth 100000 in
set_option maxHeartbeats 12800000 in
theorem spec_sl_c {v : Value} {s : List Cell} (w : World) (h : CellsRd w 0 w.heap.size v s) (hn : s.length ≤ 1048576) :
    Calls Tryz.prog 5 #[v] w fun e w' => e = .returned (.string (shapeT s)) ∧ Below w.heap.size w w' := by
  have HRD : Hid (∀ w1, Below w.heap.size w w1 → CellsRd w1 0 w1.heap.size v s) := Lib.hid fun w1 b1 => (h.keep (SameIn.of_below b1 (Nat.le_refl _))).more (Nat.le_refl _) b1.size
  have HC0 := Lib.hid (spec_isShape_c w h hn)
  obtain ⟨R, hR⟩ : ∃ R, R = shapeT s := ⟨_, rfl⟩
  rw [← hR]
  have HR := Lib.hid hR
  obtain ⟨A, c, rfl, _, _⟩ := h
  clear hR
  go_enter Tryz.func5, Tryz.ntmps5
  go_wp2_with fail
  refine (HC0.out).mono ?_
  rintro e w2 ⟨rfl, HH⟩
  clear HC0
  cases hsh : isShape s
  case false =>
    obtain rfl : R = ⟨#[]⟩ := by rw [HR.out, shapeT, hsh]; rfl
    clear hsh HRD HR
    go_wp2
    go_ret
    exact ⟨rfl, HH⟩
  have HSH := Lib.hid hsh
  obtain ⟨pn, hz, ml, on, cn, cv, sk, nt, HPN, HHZ, HML, HON, HCN, HCV, HSK, HNT, hpn, hhz, hmlB, hon⟩ := sl_nums hsh
  obtain ⟨F, hF⟩ : ∃ U, U = fmtSh s := ⟨_, rfl⟩
  obtain ⟨P1, hP1⟩ : ∃ U, U = itoaB pn := ⟨_, rfl⟩
  obtain ⟨H1, hH1⟩ : ∃ U, U = itoaB hz := ⟨_, rfl⟩
  obtain ⟨S1, hS1⟩ : ∃ U, U = numT itoaB ml := ⟨_, rfl⟩
  obtain ⟨O1, hO1⟩ : ∃ U, U = itoaB (on : Int) := ⟨_, rfl⟩
  have HRR : Hid (R = shS F P1 H1 S1 O1 ++ (if cn then cnT else ⟨#[]⟩) ++ (if cv then cvT else ⟨#[]⟩) ++ (if sk then skT else ⟨#[]⟩) ++ (if nt then ntT else ⟨#[]⟩)) := Lib.hid (by
    rw [HR.out, shapeT, if_pos hsh, hF, hP1, hH1, hS1, hO1, HPN.out, HHZ.out, HML.out, HON.out, HCN.out, HCV.out, HSK.out, HNT.out])
  have s1 : F.size ≤ 80 := by rw [hF]; exact (fmtL_size hsh).1
  have s2 : P1.size ≤ 21 := by rw [hP1]; exact itoaR_size _ (by omega) (by omega)
  have s3 : H1.size ≤ 21 := by rw [hH1]; exact itoaR_size _ (by omega) (by omega)
  have s4 : S1.size ≤ 300 := by rw [hS1]; exact numR_size hmlB.1 hmlB.2
  have s5 : O1.size ≤ 21 := by rw [hO1]; exact itoaR_size _ (by omega) (by omega)
  have HI1 : Hid (∀ w', Below w.heap.size w w' → Calls Tryz.prog 11 #[.int .i64 pn] w' fun e w'' => e = .returned (.string P1) ∧ Below w'.heap.size w' w'') := Lib.hid fun w' b => by rw [hP1]; exact spec_fmtInt_c pn w' (by omega) (by omega)
  have HI2 : Hid (∀ w', Below w.heap.size w w' → Calls Tryz.prog 11 #[.int .i64 hz] w' fun e w'' => e = .returned (.string H1) ∧ Below w'.heap.size w' w'') := Lib.hid fun w' b => by rw [hH1]; exact spec_fmtInt_c hz w' (by omega) (by omega)
  have HI3 : Hid (∀ w', Below w.heap.size w w' → Calls Tryz.prog 11 #[.int .i64 (on : Int)] w' fun e w'' => e = .returned (.string O1) ∧ Below w'.heap.size w' w'') := Lib.hid fun w' b => by rw [hO1]; exact spec_fmtInt_c (on : Int) w' (by omega) (by omega)
  have HFS : Hid (∀ w', Below w.heap.size w w' → Calls Tryz.prog 10 #[.slice A s.length c] w' fun e w'' => e = .returned (.string F) ∧ Below w'.heap.size w' w'') := Lib.hid fun w' b => by rw [hF]; exact spec_fmtSh_c w' (HRD.out w' b) HSH.out
  have HPE : Hid (∀ w', Below w.heap.size w w' → Calls Tryz.prog 12 #[.slice A s.length c] w' fun e w'' => e = .returned (.int .i64 pn) ∧ Below w'.heap.size w' w'') := Lib.hid fun w' b => by rw [HPN.out]; exact spec_per_c w' (HRD.out w' b) HSH.out
  have HHO : Hid (∀ w', Below w.heap.size w w' → Calls Tryz.prog 13 #[.slice A s.length c] w' fun e w'' => e = .returned (.int .i64 hz) ∧ Below w'.heap.size w' w'') := Lib.hid fun w' b => by rw [HHZ.out]; exact spec_holes_c w' (HRD.out w' b) hn
  have HCO : Hid (∀ w', Below w.heap.size w w' → Calls Tryz.prog 18 #[.slice A s.length c] w' fun e w'' => e = .returned (.bool cn) ∧ Below w'.heap.size w' w'') := Lib.hid fun w' b => by rw [HCN.out]; exact spec_conn_c w' (HRD.out w' b) hn
  have HCX : Hid (∀ w', Below w.heap.size w w' → Calls Tryz.prog 19 #[.slice A s.length c] w' fun e w'' => e = .returned (.bool cv) ∧ Below w'.heap.size w' w'') := Lib.hid fun w' b => by rw [HCV.out]; exact spec_convex_c w' (HRD.out w' b) HSH.out
  have HSN : Hid (∀ w', Below w.heap.size w w' → Calls Tryz.prog 20 #[.slice A s.length c] w' fun e w'' => e = .returned (.bool sk) ∧ Below w'.heap.size w' w'') := Lib.hid fun w' b => by rw [HSK.out]; exact spec_snake_c w' (HRD.out w' b) HSH.out
  have HCU : Hid (∀ w', Below w.heap.size w w' → Calls Tryz.prog 21 #[.slice A s.length c] w' fun e w'' => e = .returned (.bool nt) ∧ Below w'.heap.size w' w'') := Lib.hid fun w' b => by rw [HNT.out]; exact spec_net_c w' (HRD.out w' b) HSH.out
  have HOR : Hid (∀ w', Below w.heap.size w w' → Calls Tryz.prog 16 #[.slice A s.length c] w' fun e w'' => ∃ A c, e = .returned (.slice A on c) ∧ Below w'.heap.size w' w'') := Lib.hid fun w' b => by rw [HON.out]; exact spec_oriN_c w' (HRD.out w' b) HSH.out
  have HSY : Hid (∀ w', Below w.heap.size w w' → Calls Tryz.prog 15 #[.slice A s.length c] w' fun e w'' => ∃ v', e = .returned v' ∧ IntsIn w'' w'.heap.size w''.heap.size v' ml ∧ Below w'.heap.size w' w'') := Lib.hid fun w' b => by rw [HML.out]; exact spec_sym_c w' (HRD.out w' b) HSH.out
  have HNU : Hid (∀ w' v', Below w.heap.size w w' → IntsRd w' 0 w'.heap.size v' ml → Calls Tryz.prog 14 #[v'] w' fun e w'' => e = .returned (.string S1) ∧ Below w'.heap.size w' w'') := Lib.hid fun w' v' b h' => by rw [hS1]; exact l34Numbers_c (f := itoaB) w' h' (fun n hn => itoa_S w' n (by have := hmlB.2 n hn; omega) (by have := hmlB.2 n hn; omega)) (fun n _ => itoaR_pos n) (fun n hn => Nat.le_trans (itoaR_size n (by have := hmlB.2 n hn; omega) (by have := hmlB.2 n hn; omega)) (by decide)) (by omega)
  obtain ⟨Y1, hY1⟩ : ∃ Y, Y = (if cn then cnT else (⟨#[]⟩ : ByteArray)) := ⟨_, rfl⟩
  have zY1 : Y1.size ≤ 10 := by rw [hY1]; cases cn <;> decide
  have HYY1 : Hid (∀ w', Calls Tryz.prog 17 #[.bool cn, .string ⟨#[32, 99, 111, 110, 110, 101, 99, 116, 101, 100]⟩] w' fun e w'' => e = .returned (.string Y1) ∧ Below w'.heap.size w' w'') := Lib.hid fun w' => by rw [hY1]; exact yes_c cn cnT w'
  obtain ⟨Y2, hY2⟩ : ∃ Y, Y = (if cv then cvT else (⟨#[]⟩ : ByteArray)) := ⟨_, rfl⟩
  have zY2 : Y2.size ≤ 10 := by rw [hY2]; cases cv <;> decide
  have HYY2 : Hid (∀ w', Calls Tryz.prog 17 #[.bool cv, .string ⟨#[32, 99, 111, 110, 118, 101, 120]⟩] w' fun e w'' => e = .returned (.string Y2) ∧ Below w'.heap.size w' w'') := Lib.hid fun w' => by rw [hY2]; exact yes_c cv cvT w'
  obtain ⟨Y3, hY3⟩ : ∃ Y, Y = (if sk then skT else (⟨#[]⟩ : ByteArray)) := ⟨_, rfl⟩
  have zY3 : Y3.size ≤ 10 := by rw [hY3]; cases sk <;> decide
  have HYY3 : Hid (∀ w', Calls Tryz.prog 17 #[.bool sk, .string ⟨#[32, 115, 110, 97, 107, 101]⟩] w' fun e w'' => e = .returned (.string Y3) ∧ Below w'.heap.size w' w'') := Lib.hid fun w' => by rw [hY3]; exact yes_c sk skT w'
  obtain ⟨Y4, hY4⟩ : ∃ Y, Y = (if nt then ntT else (⟨#[]⟩ : ByteArray)) := ⟨_, rfl⟩
  have zY4 : Y4.size ≤ 10 := by rw [hY4]; cases nt <;> decide
  have HYY4 : Hid (∀ w', Calls Tryz.prog 17 #[.bool nt, .string ⟨#[32, 110, 101, 116]⟩] w' fun e w'' => e = .returned (.string Y4) ∧ Below w'.heap.size w' w'') := Lib.hid fun w' => by rw [hY4]; exact yes_c nt ntT w'
  rw [← hY1, ← hY2, ← hY3, ← hY4] at HRR
  have y1 : ¬ 9223372036854775807 < 6 + F.size := by omega
  have y2 : ¬ 9223372036854775807 < 6 + F.size + 11 := by omega
  have y3 : ¬ 9223372036854775807 < 6 + F.size + 11 + P1.size := by omega
  have y4 : ¬ 9223372036854775807 < 6 + F.size + 11 + P1.size + 7 := by omega
  have y5 : ¬ 9223372036854775807 < 6 + F.size + 11 + P1.size + 7 + H1.size := by omega
  have y6 : ¬ 9223372036854775807 < 6 + F.size + 11 + P1.size + 7 + H1.size + 12 := by omega
  have y7 : ¬ 9223372036854775807 < 6 + F.size + 11 + P1.size + 7 + H1.size + 12 + S1.size := by omega
  have y8 : ¬ 9223372036854775807 < 6 + F.size + 11 + P1.size + 7 + H1.size + 12 + S1.size + 14 := by omega
  have y9 : ¬ 9223372036854775807 < 6 + F.size + 11 + P1.size + 7 + H1.size + 12 + S1.size + 14 + O1.size := by omega
  have y10 : ¬ 9223372036854775807 < 6 + F.size + 11 + P1.size + 7 + H1.size + 12 + S1.size + 14 + O1.size + Y1.size := by omega
  have y11 : ¬ 9223372036854775807 < 6 + F.size + 11 + P1.size + 7 + H1.size + 12 + S1.size + 14 + O1.size + Y1.size + Y2.size := by omega
  have y12 : ¬ 9223372036854775807 < 6 + F.size + 11 + P1.size + 7 + H1.size + 12 + S1.size + 14 + O1.size + Y1.size + Y2.size + Y3.size := by omega
  have y13 : ¬ 9223372036854775807 < 6 + F.size + 11 + P1.size + 7 + H1.size + 12 + S1.size + 14 + O1.size + Y1.size + Y2.size + Y3.size + Y4.size := by omega
  clear s1 s2 s3 s4 s5 zY1 zY2 zY3 zY4 hY1 hY2 hY3 hY4
  clear HPN HHZ HML HON HCN HCV HSK HNT hF hP1 hH1 hS1 hO1 hpn hhz hmlB hon hsh HSH HR HRD
  go_wp2_with fail
  refine (HFS.out _ HH).mono ?_
  rintro e w3 ⟨rfl, b3⟩
  replace HH := HH.trans (b3.mono HH.size)
  clear b3
  go_wp2_with fail
  refine (HPE.out _ HH).mono ?_
  rintro e w3 ⟨rfl, b3⟩
  replace HH := HH.trans (b3.mono HH.size)
  clear b3
  go_wp2_with fail
  refine (HI1.out _ HH).mono ?_
  rintro e w3 ⟨rfl, b3⟩
  replace HH := HH.trans (b3.mono HH.size)
  clear b3
  go_wp2_with fail
  refine (HHO.out _ HH).mono ?_
  rintro e w3 ⟨rfl, b3⟩
  replace HH := HH.trans (b3.mono HH.size)
  clear b3
  go_wp2_with fail
  refine (HI2.out _ HH).mono ?_
  rintro e w3 ⟨rfl, b3⟩
  replace HH := HH.trans (b3.mono HH.size)
  clear b3
  go_wp2_with fail
  refine (HSY.out _ HH).mono ?_
  rintro e w3 ⟨v3, rfl, o3, b3⟩
  replace HH := HH.trans (b3.mono HH.size)
  have HO3 := Lib.hid ((IntsIn.rd o3).more (Nat.zero_le _) (Nat.le_refl _))
  clear b3 o3
  go_wp2_with fail
  refine (HNU.out _ _ HH HO3.out).mono ?_
  rintro e w4 ⟨rfl, b4⟩
  replace HH := HH.trans (b4.mono HH.size)
  clear b4 HO3
  go_wp2_with fail
  refine (HOR.out _ HH).mono ?_
  rintro e w3 ⟨A3, c3, rfl, b3⟩
  replace HH := HH.trans (b3.mono HH.size)
  clear b3
  go_wp2_with fail
  refine (HI3.out _ HH).mono ?_
  rintro e w3 ⟨rfl, b3⟩
  replace HH := HH.trans (b3.mono HH.size)
  clear b3
  go_wp2_with fail
  refine (HCO.out _ HH).mono ?_
  rintro e w3 ⟨rfl, b3⟩
  replace HH := HH.trans (b3.mono HH.size)
  clear b3
  go_wp2_with fail
  refine (HYY1.out _).mono ?_
  rintro e w3 ⟨rfl, b3⟩
  replace HH := HH.trans (b3.mono HH.size)
  clear b3
  go_wp2_with fail
  refine (HCX.out _ HH).mono ?_
  rintro e w3 ⟨rfl, b3⟩
  replace HH := HH.trans (b3.mono HH.size)
  clear b3
  go_wp2_with fail
  refine (HYY2.out _).mono ?_
  rintro e w3 ⟨rfl, b3⟩
  replace HH := HH.trans (b3.mono HH.size)
  clear b3
  go_wp2_with fail
  refine (HSN.out _ HH).mono ?_
  rintro e w3 ⟨rfl, b3⟩
  replace HH := HH.trans (b3.mono HH.size)
  clear b3
  go_wp2_with fail
  refine (HYY3.out _).mono ?_
  rintro e w3 ⟨rfl, b3⟩
  replace HH := HH.trans (b3.mono HH.size)
  clear b3
  go_wp2_with fail
  refine (HCU.out _ HH).mono ?_
  rintro e w3 ⟨rfl, b3⟩
  replace HH := HH.trans (b3.mono HH.size)
  clear b3
  go_wp2_with fail
  refine (HYY4.out _).mono ?_
  rintro e w3 ⟨rfl, b3⟩
  replace HH := HH.trans (b3.mono HH.size)
  clear b3
  go_wp2
  go_ret
  exact ⟨by rw [HRR.out]; rfl, HH⟩
end Go.Proofs.YtbdffadhieljbaaGreatDoor

namespace Go.Proofs.YtbdffadhieljbaaGreatDoor
open Go.RowKit

set_option maxRecDepth 100000 in
set_option maxHeartbeats 12800000 in
theorem impl_sl_c {v : Value} {s : List Cell} (w : World) (h : CellsRd w 0 w.heap.size v s) (hn : s.length ≤ 1048576) (ht : Tab10 w) :
    Calls Tryz.prog 7 #[v] w fun e w' => e = .returned (.string (shapeT s)) ∧ Below w.heap.size w w' := by
  have HRD : Hid (∀ w1, Below w.heap.size w w1 → CellsRd w1 0 w1.heap.size v s) := Lib.hid fun w1 b1 => (h.keep (SameIn.of_below b1 (Nat.le_refl _))).more (Nat.le_refl _) b1.size
  have HC0 := Lib.hid (impl_isShape_c w h hn)
  obtain ⟨R, hR⟩ : ∃ R, R = shapeT s := ⟨_, rfl⟩
  rw [← hR]
  have HR := Lib.hid hR
  obtain ⟨A, c, rfl, _, _⟩ := h
  clear hR
  have HT10 : Hid (∀ w1, Below w.heap.size w w1 → Tab10 w1) := Lib.hid fun w1 b1 => tab10_belowR ht b1
  clear ht
  go_enter Tryz.func7, Tryz.ntmps7
  go_wp2_with fail
  refine (HC0.out).mono ?_
  rintro e w2 ⟨rfl, HH⟩
  clear HC0
  cases hsh : isShape s
  case false =>
    obtain rfl : R = ⟨#[]⟩ := by rw [HR.out, shapeT, hsh]; rfl
    clear hsh HRD HR
    go_wp2
    go_ret
    exact ⟨rfl, HH⟩
  have HSH := Lib.hid hsh
  obtain ⟨pn, hz, ml, on, cn, cv, sk, nt, HPN, HHZ, HML, HON, HCN, HCV, HSK, HNT, hpn, hhz, hmlB, hon⟩ := sl_nums hsh
  obtain ⟨F, hF⟩ : ∃ U, U = fmtSh s := ⟨_, rfl⟩
  obtain ⟨P1, hP1⟩ : ∃ U, U = itoaB pn := ⟨_, rfl⟩
  obtain ⟨H1, hH1⟩ : ∃ U, U = itoaB hz := ⟨_, rfl⟩
  obtain ⟨S1, hS1⟩ : ∃ U, U = numT itoaB ml := ⟨_, rfl⟩
  obtain ⟨O1, hO1⟩ : ∃ U, U = itoaB (on : Int) := ⟨_, rfl⟩
  have HRR : Hid (R = shS F P1 H1 S1 O1 ++ (if cn then cnT else ⟨#[]⟩) ++ (if cv then cvT else ⟨#[]⟩) ++ (if sk then skT else ⟨#[]⟩) ++ (if nt then ntT else ⟨#[]⟩)) := Lib.hid (by
    rw [HR.out, shapeT, if_pos hsh, hF, hP1, hH1, hS1, hO1, HPN.out, HHZ.out, HML.out, HON.out, HCN.out, HCV.out, HSK.out, HNT.out])
  have s1 : F.size ≤ 80 := by rw [hF]; exact (fmtL_size hsh).1
  have s2 : P1.size ≤ 21 := by rw [hP1]; exact itoaR_size _ (by omega) (by omega)
  have s3 : H1.size ≤ 21 := by rw [hH1]; exact itoaR_size _ (by omega) (by omega)
  have s4 : S1.size ≤ 300 := by rw [hS1]; exact numR_size hmlB.1 hmlB.2
  have s5 : O1.size ≤ 21 := by rw [hO1]; exact itoaR_size _ (by omega) (by omega)
  have HI1 : Hid (∀ w', Below w.heap.size w w' → Calls Tryz.prog 25 #[.int .i64 pn] w' fun e w'' => e = .returned (.string P1) ∧ Below w'.heap.size w' w'') := Lib.hid fun w' b => by rw [hP1]; exact impl_fmtInt_c pn w' (by omega) (by omega) (HT10.out w' b)
  have HI2 : Hid (∀ w', Below w.heap.size w w' → Calls Tryz.prog 25 #[.int .i64 hz] w' fun e w'' => e = .returned (.string H1) ∧ Below w'.heap.size w' w'') := Lib.hid fun w' b => by rw [hH1]; exact impl_fmtInt_c hz w' (by omega) (by omega) (HT10.out w' b)
  have HI3 : Hid (∀ w', Below w.heap.size w w' → Calls Tryz.prog 25 #[.int .i64 (on : Int)] w' fun e w'' => e = .returned (.string O1) ∧ Below w'.heap.size w' w'') := Lib.hid fun w' b => by rw [hO1]; exact impl_fmtInt_c (on : Int) w' (by omega) (by omega) (HT10.out w' b)
  have HFS : Hid (∀ w', Below w.heap.size w w' → Calls Tryz.prog 24 #[.slice A s.length c] w' fun e w'' => e = .returned (.string F) ∧ Below w'.heap.size w' w'') := Lib.hid fun w' b => by rw [hF]; exact impl_fmtSh_c w' (HRD.out w' b) HSH.out
  have HPE : Hid (∀ w', Below w.heap.size w w' → Calls Tryz.prog 26 #[.slice A s.length c] w' fun e w'' => e = .returned (.int .i64 pn) ∧ Below w'.heap.size w' w'') := Lib.hid fun w' b => by rw [HPN.out]; exact impl_per_c w' (HRD.out w' b) HSH.out
  have HHO : Hid (∀ w', Below w.heap.size w w' → Calls Tryz.prog 27 #[.slice A s.length c] w' fun e w'' => e = .returned (.int .i64 hz) ∧ Below w'.heap.size w' w'') := Lib.hid fun w' b => by rw [HHZ.out]; exact impl_holes_c w' (HRD.out w' b) hn
  have HCO : Hid (∀ w', Below w.heap.size w w' → Calls Tryz.prog 32 #[.slice A s.length c] w' fun e w'' => e = .returned (.bool cn) ∧ Below w'.heap.size w' w'') := Lib.hid fun w' b => by rw [HCN.out]; exact impl_conn_c w' (HRD.out w' b) hn
  have HCX : Hid (∀ w', Below w.heap.size w w' → Calls Tryz.prog 33 #[.slice A s.length c] w' fun e w'' => e = .returned (.bool cv) ∧ Below w'.heap.size w' w'') := Lib.hid fun w' b => by rw [HCV.out]; exact impl_convex_c w' (HRD.out w' b) HSH.out
  have HSN : Hid (∀ w', Below w.heap.size w w' → Calls Tryz.prog 34 #[.slice A s.length c] w' fun e w'' => e = .returned (.bool sk) ∧ Below w'.heap.size w' w'') := Lib.hid fun w' b => by rw [HSK.out]; exact impl_snake_c w' (HRD.out w' b) HSH.out
  have HCU : Hid (∀ w', Below w.heap.size w w' → Calls Tryz.prog 36 #[.slice A s.length c] w' fun e w'' => e = .returned (.bool nt) ∧ Below w'.heap.size w' w'') := Lib.hid fun w' b => by rw [HNT.out]; exact impl_net_c w' (HRD.out w' b) HSH.out
  have HOR : Hid (∀ w', Below w.heap.size w w' → Calls Tryz.prog 30 #[.slice A s.length c] w' fun e w'' => ∃ A c, e = .returned (.slice A on c) ∧ Below w'.heap.size w' w'') := Lib.hid fun w' b => by rw [HON.out]; exact impl_oriN_c w' (HRD.out w' b) HSH.out
  have HSY : Hid (∀ w', Below w.heap.size w w' → Calls Tryz.prog 29 #[.slice A s.length c] w' fun e w'' => ∃ v', e = .returned v' ∧ IntsIn w'' w'.heap.size w''.heap.size v' ml ∧ Below w'.heap.size w' w'') := Lib.hid fun w' b => by rw [HML.out]; exact impl_sym_c w' (HRD.out w' b) HSH.out
  have HNU : Hid (∀ w' v', Below w.heap.size w w' → IntsRd w' 0 w'.heap.size v' ml → Calls Tryz.prog 28 #[v'] w' fun e w'' => e = .returned (.string S1) ∧ Below w'.heap.size w' w'') := Lib.hid fun w' v' b h' => by rw [hS1]; exact numbersText_c (f := itoaB) w' h' (fun n hn => itoa_I w' (HT10.out w' b) n (by have := hmlB.2 n hn; omega) (by have := hmlB.2 n hn; omega)) (fun n hn => Nat.le_trans (itoaR_size n (by have := hmlB.2 n hn; omega) (by have := hmlB.2 n hn; omega)) (by decide)) (by omega)
  have HSZ : Hid (∀ x ∈ wl nt ⟨#[110, 101, 116]⟩ (wl sk ⟨#[115, 110, 97, 107, 101]⟩ (wl cv ⟨#[99, 111, 110, 118, 101, 120]⟩ (wl cn ⟨#[99, 111, 110, 110, 101, 99, 116, 101, 100]⟩ [⟨#[115, 104, 97, 112, 101]⟩, F, ⟨#[112, 101, 114, 105, 109, 101, 116, 101, 114]⟩, P1, ⟨#[104, 111, 108, 101, 115]⟩, H1, ⟨#[115, 121, 109, 109, 101, 116, 114, 105, 101, 115]⟩, S1, ⟨#[111, 114, 105, 101, 110, 116, 97, 116, 105, 111, 110, 115]⟩, O1]))), x.size ≤ 1000) := Lib.hid (wl_mem (wl_mem (wl_mem (wl_mem (fun x hx => by
    simp only [List.mem_cons, List.not_mem_nil, or_false] at hx
    rcases hx with rfl | rfl | rfl | rfl | rfl | rfl | rfl | rfl | rfl | rfl
    · decide
    · omega
    · decide
    · omega
    · decide
    · omega
    · decide
    · omega
    · decide
    · omega
    ) (by decide)) (by decide)) (by decide)) (by decide))
  clear s1 s2 s3 s4 s5
  clear HPN HHZ HML HON HCN HCV HSK HNT hF hP1 hH1 hS1 hO1 hpn hhz hmlB hon hsh HSH HR HRD
  go_wp2_with fail
  refine (HFS.out _ HH).mono ?_
  rintro e w3 ⟨rfl, b3⟩
  replace HH := HH.trans (b3.mono HH.size)
  clear b3
  go_wp2_with fail
  refine (HPE.out _ HH).mono ?_
  rintro e w3 ⟨rfl, b3⟩
  replace HH := HH.trans (b3.mono HH.size)
  clear b3
  go_wp2_with fail
  refine (HI1.out _ HH).mono ?_
  rintro e w3 ⟨rfl, b3⟩
  replace HH := HH.trans (b3.mono HH.size)
  clear b3
  go_wp2_with fail
  refine (HHO.out _ HH).mono ?_
  rintro e w3 ⟨rfl, b3⟩
  replace HH := HH.trans (b3.mono HH.size)
  clear b3
  go_wp2_with fail
  refine (HI2.out _ HH).mono ?_
  rintro e w3 ⟨rfl, b3⟩
  replace HH := HH.trans (b3.mono HH.size)
  clear b3
  go_wp2_with fail
  refine (HSY.out _ HH).mono ?_
  rintro e w3 ⟨v3, rfl, o3, b3⟩
  replace HH := HH.trans (b3.mono HH.size)
  have HO3 := Lib.hid ((IntsIn.rd o3).more (Nat.zero_le _) (Nat.le_refl _))
  clear b3 o3
  go_wp2_with fail
  refine (HNU.out _ _ HH HO3.out).mono ?_
  rintro e w4 ⟨rfl, b4⟩
  replace HH := HH.trans (b4.mono HH.size)
  clear b4 HO3
  go_wp2_with fail
  refine (HOR.out _ HH).mono ?_
  rintro e w3 ⟨A3, c3, rfl, b3⟩
  replace HH := HH.trans (b3.mono HH.size)
  clear b3
  go_wp2_with fail
  refine (HI3.out _ HH).mono ?_
  rintro e w3 ⟨rfl, b3⟩
  replace HH := HH.trans (b3.mono HH.size)
  clear b3
  have HB := (show Sep w _ [] from HH).rowBox 9 #[.string ⟨#[115, 104, 97, 112, 101]⟩, .string F, .string ⟨#[112, 101, 114, 105, 109, 101, 116, 101, 114]⟩, .string P1, .string ⟨#[104, 111, 108, 101, 115]⟩, .string H1, .string ⟨#[115, 121, 109, 109, 101, 116, 114, 105, 101, 115]⟩, .string S1, .string ⟨#[111, 114, 105, 101, 110, 116, 97, 116, 105, 111, 110, 115]⟩, .string O1] 1 10 rfl (by decide)
  have H0 := HB
  clear HB HH
  have hb0 : ([⟨#[115, 104, 97, 112, 101]⟩, F, ⟨#[112, 101, 114, 105, 109, 101, 116, 101, 114]⟩, P1, ⟨#[104, 111, 108, 101, 115]⟩, H1, ⟨#[115, 121, 109, 109, 101, 116, 114, 105, 101, 115]⟩, S1, ⟨#[111, 114, 105, 101, 110, 116, 97, 116, 105, 111, 110, 115]⟩, O1] : List ByteArray).length ≤ 10 := by simp
  go_wp2_with fail
  refine (HCO.out _ H0.below).mono ?_
  rintro e w3 ⟨rfl, b3⟩
  have HW := H0.step b3
  have HC := Lib.hid (words_c cn ⟨#[99, 111, 110, 110, 101, 99, 116, 101, 100]⟩ (l := [⟨#[115, 104, 97, 112, 101]⟩, F, ⟨#[112, 101, 114, 105, 109, 101, 116, 101, 114]⟩, P1, ⟨#[104, 111, 108, 101, 115]⟩, H1, ⟨#[115, 121, 109, 109, 101, 116, 114, 105, 101, 115]⟩, S1, ⟨#[111, 114, 105, 101, 110, 116, 97, 116, 105, 111, 110, 115]⟩, O1]) HW (by omega))
  clear b3 HW H0
  go_wp2_with fail
  refine (HC.out).mono ?_
  rintro e w4 ⟨v1, rfl, HV⟩
  obtain ⟨l1, hl1⟩ : ∃ l, l = wl cn ⟨#[99, 111, 110, 110, 101, 99, 116, 101, 100]⟩ [⟨#[115, 104, 97, 112, 101]⟩, F, ⟨#[112, 101, 114, 105, 109, 101, 116, 101, 114]⟩, P1, ⟨#[104, 111, 108, 101, 115]⟩, H1, ⟨#[115, 121, 109, 109, 101, 116, 114, 105, 101, 115]⟩, S1, ⟨#[111, 114, 105, 101, 110, 116, 97, 116, 105, 111, 110, 115]⟩, O1] := ⟨_, rfl⟩
  have H1 : Sep w w4 [Res.row v1 9 1 l1.length (sc l1)] := by rw [hl1]; exact HV
  have HL1 := Lib.hid hl1
  have hb1 : l1.length ≤ 11 := by rw [hl1]; exact wl_len hb0
  clear HV HC hl1
  go_wp2_with fail
  refine (HCX.out _ H1.below).mono ?_
  rintro e w3 ⟨rfl, b3⟩
  have HW := H1.step b3
  have HC := Lib.hid (words_c cv ⟨#[99, 111, 110, 118, 101, 120]⟩ (l := l1) HW (by omega))
  clear b3 HW H1
  go_wp2_with fail
  refine (HC.out).mono ?_
  rintro e w4 ⟨v2, rfl, HV⟩
  obtain ⟨l2, hl2⟩ : ∃ l, l = wl cv ⟨#[99, 111, 110, 118, 101, 120]⟩ l1 := ⟨_, rfl⟩
  have H2 : Sep w w4 [Res.row v2 9 1 l2.length (sc l2)] := by rw [hl2]; exact HV
  have HL2 := Lib.hid hl2
  have hb2 : l2.length ≤ 12 := by rw [hl2]; exact wl_len hb1
  clear HV HC hl2
  go_wp2_with fail
  refine (HSN.out _ H2.below).mono ?_
  rintro e w3 ⟨rfl, b3⟩
  have HW := H2.step b3
  have HC := Lib.hid (words_c sk ⟨#[115, 110, 97, 107, 101]⟩ (l := l2) HW (by omega))
  clear b3 HW H2
  go_wp2_with fail
  refine (HC.out).mono ?_
  rintro e w4 ⟨v3, rfl, HV⟩
  obtain ⟨l3, hl3⟩ : ∃ l, l = wl sk ⟨#[115, 110, 97, 107, 101]⟩ l2 := ⟨_, rfl⟩
  have H3 : Sep w w4 [Res.row v3 9 1 l3.length (sc l3)] := by rw [hl3]; exact HV
  have HL3 := Lib.hid hl3
  have hb3 : l3.length ≤ 13 := by rw [hl3]; exact wl_len hb2
  clear HV HC hl3
  go_wp2_with fail
  refine (HCU.out _ H3.below).mono ?_
  rintro e w3 ⟨rfl, b3⟩
  have HW := H3.step b3
  have HC := Lib.hid (words_c nt ⟨#[110, 101, 116]⟩ (l := l3) HW (by omega))
  clear b3 HW H3
  go_wp2_with fail
  refine (HC.out).mono ?_
  rintro e w4 ⟨v4, rfl, HV⟩
  obtain ⟨l4, hl4⟩ : ∃ l, l = wl nt ⟨#[110, 101, 116]⟩ l3 := ⟨_, rfl⟩
  have H4 : Sep w w4 [Res.row v4 9 1 l4.length (sc l4)] := by rw [hl4]; exact HV
  have HL4 := Lib.hid hl4
  have hb4 : l4.length ≤ 14 := by rw [hl4]; exact wl_len hb3
  clear HV HC hl4
  have HLN := Lib.hid (line_own (b := 1000) H4 rfl (fun x hx => by
    rw [HL4.out, HL3.out, HL2.out, HL1.out] at hx
    exact HSZ.out x hx) (by omega) (by decide))
  have HJ : Hid (joinB spaceB l4 = R) := Lib.hid (by rw [HL4.out, HL3.out, HL2.out, HL1.out, sl_join, HRR.out])
  rw [HJ.out] at HLN
  have HBL := Lib.hid H4.below
  clear H4
  go_wp2_with fail
  refine (HLN.out).mono ?_
  rintro e w11 ⟨rfl, b11⟩
  go_wp2
  go_ret
  exact ⟨rfl, HBL.out.trans (b11.mono HBL.out.size)⟩
end Go.Proofs.YtbdffadhieljbaaGreatDoor

namespace Go.Proofs.YtbdffadhieljbaaGreatDoor
open Go.RowKit

set_option maxRecDepth 100000 in
theorem tab10_ofR {x y : String × DataW Unit} {W : World} (h : laidMet Tryz.prog [x, y, ("internal/strconv.uint64pow10", Lib.tabData .u64 Lib.pow10Tab)] W) : Tab10 W := by
  have hs : ((Tryz.prog.globalNamed "internal/strconv.uint64pow10").bind fun g => (Tryz.prog.globals[g]?).map (·.type)) = some 123 := by kernel_rfl
  obtain ⟨g, hg, hty⟩ := Option.bind_eq_some_iff.1 hs
  exact Lib.tabIs_of_head hg hty Tryz.underlying123 Tryz.underlying90 (by kernel_rfl) (by kernel_rfl) h.tail.tail
set_option maxRecDepth 100000 in
set_option maxHeartbeats 8000000 in
theorem law_ShapeLine (vs : Value) (s : List Cell) (w : World) (hs : CellsRd w 0 w.heap.size vs s) (ht10 : Tab10 w) :
    Calls Tryz.prog 3 #[vs] w fun e w' => e = .returned (.bool true) ∧ Below w.heap.size w w' := by
  have B : Below w.heap.size w w := Below.refl _ _
  have s0 : w.heap.size + 0 ≤ w.heap.size := Nat.le_refl _
  have os := hs
  by_cases q0 : 1048576 < (s.length : Int)
  · skip
    go_enter Tryz.func3, Tryz.ntmps3
    go_wp2_with fail
    skip
    refine (szCellS_c _ _ (os.more (Nat.zero_le _) (by omega)) (by omega) (by omega)).mono ?_
    rintro e w1 ⟨rfl, rfl⟩
    rw [if_pos (by omega)]
    go_wp2
    go_ret
    exact ⟨rfl, B⟩
  go_enter Tryz.func3, Tryz.ntmps3
  go_wp2_with fail
  skip
  refine (szCellS_c _ _ (os.more (Nat.zero_le _) (by omega)) (by omega) (by omega)).mono ?_
  rintro e w1 ⟨rfl, rfl⟩
  rw [if_neg (by omega)]
  go_wp2_with fail
  refine (toCellS_c _ (os.more (Nat.zero_le _) (by omega)) (by omega)).mono ?_
  rintro e w2 ⟨uss, rfl, oss, b2⟩
  have s2 := b2.size
  replace os := os.keep (SameIn.of_below b2 (by omega))
  replace B := B.trans (b2.mono (by omega))
  clear b2
  go_wp2_with fail
  refine (spec_sl_c _ (oss.rd.more (Nat.zero_le _) (by omega)) (by omega)).mono ?_
  rintro e w3 ⟨rfl, b3⟩
  have s3 := b3.size
  replace os := os.keep (SameIn.of_below b3 (by omega))
  replace oss := oss.keep (SameIn.of_below b3 (by omega))
  replace B := B.trans (b3.mono (by omega))
  clear b3
  clear oss
  go_wp2_with fail
  refine (toCellS_c _ (os.more (Nat.zero_le _) (by omega)) (by omega)).mono ?_
  rintro e w4 ⟨uxs, rfl, oxs, b4⟩
  have s4 := b4.size
  replace os := os.keep (SameIn.of_below b4 (by omega))
  replace B := B.trans (b4.mono (by omega))
  clear b4
  go_wp2_with fail
  refine (impl_sl_c _ (oxs.rd.more (Nat.zero_le _) (by omega)) (by omega) (tab10_belowR ht10 B)).mono ?_
  rintro e w5 ⟨rfl, b5⟩
  have s5 := b5.size
  replace os := os.keep (SameIn.of_below b5 (by omega))
  replace oxs := oxs.keep (SameIn.of_below b5 (by omega))
  replace B := B.trans (b5.mono (by omega))
  clear b5
  go_wp2_with fail
  refine (toCellS_c _ (os.more (Nat.zero_le _) (by omega)) (by omega)).mono ?_
  rintro e w6 ⟨uts, rfl, ots, b6⟩
  have s6 := b6.size
  replace os := os.keep (SameIn.of_below b6 (by omega))
  replace oxs := oxs.keep (SameIn.of_below b6 (by omega))
  replace B := B.trans (b6.mono (by omega))
  clear b6
  go_wp2_with fail
  refine (eqCellS_c _ (oxs.rd.more (Nat.zero_le _) (by omega)) (ots.rd.more (Nat.zero_le _) (by omega))).mono ?_
  rintro e w7 ⟨rfl, b7⟩
  have s7 := b7.size
  replace os := os.keep (SameIn.of_below b7 (by omega))
  replace oxs := oxs.keep (SameIn.of_below b7 (by omega))
  replace ots := ots.keep (SameIn.of_below b7 (by omega))
  replace B := B.trans (b7.mono (by omega))
  clear b7
  clear ots
  go_wp2
  go_ret
  exact ⟨rfl, B⟩

end Go.Proofs.YtbdffadhieljbaaGreatDoor
