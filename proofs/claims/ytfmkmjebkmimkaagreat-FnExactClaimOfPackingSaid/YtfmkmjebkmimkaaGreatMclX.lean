
/-
  Copies of a list of shapes: both walks. Claims that own what they say: the program's helper.
-/
import Derived.Test.YtfmkmjebkmimkaaGreatFreX
import Derived.Test.YtfmkmjebkmimkaaGreatLawPcs
import Derived.Test.YtfmkmjebkmimkaaGreatClmR
import Derived.Test.YtfmkmjebkmimkaaGreatPlcX
import Derived.Test.YtfmkmjebkmimkaaGreatFlipX
namespace Go.Proofs.YtfmkmjebkmimkaaGreat
open Go.RowKit

theorem Sep.head {w0 w : World} {a : Res} {L : List Res} (h : Sep w0 w (a :: L)) : Sep w0 w [a] := ⟨h.1, h.2.1, fun q hq => by simp at hq, h.below⟩
theorem shps_of {w w' : World} {v' : Value} {P : List (Value × List Cell)} {L : List Res} {n : Nat} (hn : n = P.length) (H : Sep w w' (Res.row v' 55 1 n (P.map Prod.fst) :: Res.shps P :: L)) : ShpsIn w' w.heap.size w'.heap.size v' (P.map Prod.snd) := by
  subst hn
  refine ⟨P.map Prod.fst, by simp, by rw [List.length_map]; exact H.oi, fun j x u hx hu => ?_, ?_⟩
  · rw [List.getElem?_map] at hx hu
    obtain ⟨p, hp, rfl⟩ := Option.map_eq_some_iff.1 hu
    rw [hp] at hx
    injection hx with hx
    subst hx
    exact (Sep.onTail (L' := [Res.shps P]) H (by simp) H.drop.head).g1.shpsOi (List.mem_of_getElem? hp)
  · exact List.pairwise_map.2 (ShpsAt.apart H.h1)
theorem ocsl {a : Option Addr} {n c : Nat} : ∀ u ∈ [Value.slice a n c], u.oneCell' = true := by intro u hu; simp at hu; subst hu; rfl
theorem Sep.shpsSnoc {w0 w : World} {L : List Res} {P : List (Value × List Cell)} {u : Value} {n : Nat} {r : List Cell} (h : Sep w0 w (Res.shps P :: Res.row u 71 2 n (cc r) :: L)) (hn : n = r.length) : Sep w0 w (Res.shps (P ++ [(u, r)]) :: L) := by
  have := h.shpsIns hn P.length
  rwa [List.take_length, List.drop_length] at this
def CpyC (M : List (List Cell)) (w : World) : Ending → World → Prop := fun e w' => ∃ v', e = .returned v' ∧ ShpsIn w' w.heap.size w'.heap.size v' M ∧ Below w.heap.size w w'
set_option maxRecDepth 100000 in
set_option maxHeartbeats 1600000 in
theorem copyShapes_c {v : Value} {M : List (List Cell)} (w : World) (h : CellSSRd w 0 w.heap.size v M) (hn : M.length ≤ 1048576) (hl : ∀ s ∈ M, s.length ≤ 1048576) :
    Calls Tryz.prog 56 #[v] w (CpyC M w) := by
  obtain ⟨i0, hi, hz0, hz1, hz2⟩ := info_parts infoSlF
  obtain ⟨j0, hjj, hy0, hy1, hy2⟩ := info_parts infoCellF
  obtain ⟨vs, ⟨A, c, rfl, hm, hr⟩, hsl⟩ := h
  obtain ⟨n, hn2⟩ : ∃ n, n = M.length := ⟨_, rfl⟩
  rw [← hn2] at hm hr hn ⊢
  have HN := Lib.hid hn2
  have HR := Lib.hid hr
  have HSL := Lib.hid hsl
  have HUL := Lib.hid hl
  have H0 := ((Sep.start w).shpsNil).nil 55 1
  clear hr hsl hn2 hl
  go_enter Tryz.func56, Tryz.ntmps56
  go_wp2
  go_loopw [3, 8] (fun ov iv wx => ∃ (i : Nat) (P : List (Value × List Cell)) (vo : Value), i ≤ n ∧ ov = vo ∧ iv = .int .i64 i ∧ Hid (i = P.length) ∧ Hid (P.map Prod.snd = M.take i) ∧ Sep w wx [Res.row ov 55 1 i (P.map Prod.fst), Res.shps P]) (fun _ iv _ => n - (intOf iv).toNat)
  case atStart => exact ⟨0, [], _, Nat.zero_le _, rfl, rfl, Lib.hid rfl, Lib.hid (by simp), H0⟩
  case round =>
    clear H0
    obtain ⟨i, P, vo, hin, rfl, rfl, HP, HM, H⟩ := hrel
    by_cases hlt : i < n
    · have hlti : (i : Int) < (n : Int) := by omega
      obtain ⟨b, off, u, x, rfl, _, hb, hla, x1, xr⟩ := HR.out.slot HSL.out HN.out hlt
      have x2 := (H.below.cell (p := ⟨b, off + i, none⟩) hb).trans x1
      have hu1 := HUL.out u (List.mem_of_getElem? hla)
      have xr2 := (xr.keep (SameIn.of_below H.below (Nat.le_refl _))).more (Nat.le_refl _) H.below.size
      have HTK : Hid (M.take (i + 1) = M.take i ++ [u]) := Lib.hid (by rw [List.take_add_one, hla]; rfl)
      clear x1 hla xr
      have HC := Lib.hid (copyCells_c wr xr2 hu1)
      obtain ⟨Ax, cx, hx, _, _⟩ := xr2
      subst hx
      go_wp2_with fail
      refine (HC.out).mono ?_
      rintro e w1 ⟨v1, rfl, o1, b1⟩
      have H1 := H.oiNew b1 o1
      obtain ⟨A1, c1, rfl, _, _⟩ := o1.rd
      clear b1 o1 x2 HC H
      go_wp2_with (at_builtin; refine wpList_app rfl _ _ 29 rfl 55 i0 _ 1 24 Tryz.underlying29 hi hz0 hz1 hz2 rfl (by decide) _ _ _ rfl ((H1.alloc _).g1) _ _ _ [.slice A1 u.length c1] rfl (Rd.fresh w1 _ #[.slice A1 u.length c1] 1 1 rfl) ocsl (by unfold maxLen; omega) (by omega) ?_; intro v2 w2 H2; clear H1)
      have H3 := H2.g1.g2.shpsSnoc rfl
      have HP2 : Hid (i + 1 = (P ++ [(Value.slice A1 u.length c1, u)]).length) := Lib.hid (by rw [List.length_append, ← HP.out]; rfl)
      have HM2 : Hid ((P ++ [(Value.slice A1 u.length c1, u)]).map Prod.snd = M.take (i + 1)) := Lib.hid (by rw [HTK.out, ← HM.out, List.map_append]; rfl)
      have H4 : Sep w w2 [Res.row v2 55 1 (i + 1) ((P ++ [(Value.slice A1 u.length c1, u)]).map Prod.fst), Res.shps (P ++ [(Value.slice A1 u.length c1, u)])] := by
        rw [List.map_append]; exact H3.g1
      clear H2 H3
      go_roundw
      case rel => exact ⟨i + 1, _, _, by omega, rfl, by go_num, HP2, HM2, H4⟩
      case measure => simp [intOf]; omega
    · obtain rfl : i = n := by omega
      have hfin := shps_of HP.out H
      rw [HM.out, HN.out, List.take_length] at hfin
      have hb := H.below
      obtain ⟨Ao, co, rfl, _, _, _⟩ := Res.row_at H.h0
      have HF := Lib.hid hfin
      clear hfin H
      go_wp2
      go_ret
      exact ⟨_, rfl, HF.out, hb⟩
set_option maxRecDepth 100000 in
set_option maxHeartbeats 1600000 in
theorem l33Copy_c {v : Value} {M : List (List Cell)} (w : World) (h : CellSSRd w 0 w.heap.size v M) (hn : M.length ≤ 1048576) (hl : ∀ s ∈ M, s.length ≤ 1048576) :
    Calls Tryz.prog 23 #[v] w (CpyC M w) := by
  obtain ⟨i0, hi, hz0, hz1, hz2⟩ := info_parts infoSlF
  obtain ⟨j0, hjj, hy0, hy1, hy2⟩ := info_parts infoCellF
  obtain ⟨vs, ⟨A, c, rfl, hm, hr⟩, hsl⟩ := h
  obtain ⟨n, hn2⟩ : ∃ n, n = M.length := ⟨_, rfl⟩
  rw [← hn2] at hm hr hn ⊢
  have HN := Lib.hid hn2
  have HR := Lib.hid hr
  have HSL := Lib.hid hsl
  have HUL := Lib.hid hl
  have H0 := ((Sep.start w).shpsNil).rowBox 55 #[] 1 0 rfl (by decide)
  clear hr hsl hn2 hl
  go_enter Tryz.func23, Tryz.ntmps23
  go_wp2
  go_loopw [3, 4] (fun ov iv wx => ∃ (i : Nat) (P : List (Value × List Cell)) (vo : Value), i ≤ n ∧ ov = vo ∧ iv = .int .i64 i ∧ Hid (i = P.length) ∧ Hid (P.map Prod.snd = M.take i) ∧ Sep w wx [Res.row ov 55 1 i (P.map Prod.fst), Res.shps P]) (fun _ iv _ => n - (intOf iv).toNat)
  case atStart => exact ⟨0, [], _, Nat.zero_le _, rfl, rfl, Lib.hid rfl, Lib.hid (by simp), H0⟩
  case round =>
    clear H0
    obtain ⟨i, P, vo, hin, rfl, rfl, HP, HM, H⟩ := hrel
    by_cases hlt : i < n
    · have hlti : (i : Int) < (n : Int) := by omega
      obtain ⟨b, off, u, x, rfl, _, hb, hla, x1, xr⟩ := HR.out.slot HSL.out HN.out hlt
      have x2 := (H.below.cell (p := ⟨b, off + i, none⟩) hb).trans x1
      have hu1 := HUL.out u (List.mem_of_getElem? hla)
      have xr2 := (xr.keep (SameIn.of_below H.below (Nat.le_refl _))).more (Nat.le_refl _) H.below.size
      have HTK : Hid (M.take (i + 1) = M.take i ++ [u]) := Lib.hid (by rw [List.take_add_one, hla]; rfl)
      clear x1 hla xr
      have H1 := H.rowBox 71 #[] 2 0 rfl (by decide)
      obtain ⟨Ax, cx, hx, hxm, hxr⟩ := xr2
      subst hx
      have HX : Hid (Rd (wr.alloc (.cells #[] 71)) 0 wr.heap.size 2 Ax u.length (cc u)) := Lib.hid (hxr.keep (SameIn.of_below ((Below.refl _ _).alloc (Nat.le_refl _) _) (Nat.le_refl _)))
      have y2 := ((Below.refl wr.heap.size wr).alloc (Nat.le_refl _) (.cells #[] 71)).cell (p := ⟨b, off + i, none⟩) (show b < wr.heap.size by have := H.size; omega) |>.trans x2
      clear x2 hxr hxm
      go_wp2_with (at_builtin; first
        | (refine wpList_app rfl _ _ 55 rfl 71 j0 _ 2 16 Tryz.underlying55 hjj hy0 hy1 hy2 rfl (by decide) _ _ _ rfl H1 _ _ _ (cc u) rfl HX.out cc_onec (by unfold maxLen; omega) (by omega) ?_; intro v1 w1 H2; simp only [Nat.zero_add, List.nil_append] at H2; obtain ⟨A1, c1, rfl, _, _, _⟩ := Res.row_at H2.h0; clear y2)
        | (refine wpList_app rfl _ _ 29 rfl 55 i0 _ 1 24 Tryz.underlying29 hi hz0 hz1 hz2 rfl (by decide) _ _ _ rfl ((H2.alloc _).g1) _ _ _ [.slice A1 u.length c1] rfl (Rd.fresh w1 _ #[.slice A1 u.length c1] 1 1 rfl) ocsl (by unfold maxLen; omega) (by omega) ?_; intro v2 w2 H3; clear H2))
      have H4 := H3.g1.g2.shpsSnoc rfl
      have HP2 : Hid (i + 1 = (P ++ [(Value.slice A1 u.length c1, u)]).length) := Lib.hid (by rw [List.length_append, ← HP.out]; rfl)
      have HM2 : Hid ((P ++ [(Value.slice A1 u.length c1, u)]).map Prod.snd = M.take (i + 1)) := Lib.hid (by rw [HTK.out, ← HM.out, List.map_append]; rfl)
      have H5 : Sep w w2 [Res.row v2 55 1 (i + 1) ((P ++ [(Value.slice A1 u.length c1, u)]).map Prod.fst), Res.shps (P ++ [(Value.slice A1 u.length c1, u)])] := by
        rw [List.map_append]; exact H4.g1
      clear H3 H4
      go_wp2
      go_roundw
      case rel => exact ⟨i + 1, _, _, by omega, rfl, by go_num, HP2, HM2, H5⟩
      case measure => simp [intOf]; omega
    · obtain rfl : i = n := by omega
      have hfin := shps_of HP.out H
      rw [HM.out, HN.out, List.take_length] at hfin
      have hb := H.below
      obtain ⟨Ao, co, rfl, _, _, _⟩ := Res.row_at H.h0
      have HF := Lib.hid hfin
      clear hfin H
      go_wp2
      go_ret
      exact ⟨_, rfl, HF.out, hb⟩
end Go.Proofs.YtfmkmjebkmimkaaGreat

namespace Go.Proofs.YtfmkmjebkmimkaaGreat
open Go.RowKit

theorem results_clm {P : Program} {fn : Func} {p q : Tmp} {ty : TypeId} (h : fn.results = #[.cell p ty, .tmp q]) (tmps : Array Value) (w : World) (g : Nat) (t : TypeId) (cs : Array Value) (fr : Nat × Nat) (d : TypeDesc)
    (hp : tmps.getD p undef = .pointer (some ⟨g, 0, none⟩)) (hg : w.heap[g]? = some (.cells cs t fr))
    (hu : P.underlying ty = some d) (hd : (match d with | .struct _ | .array _ _ => true | _ => false) = true) (hi : (P.info? ty).map (·.size) = some cs.size) :
    (results fn tmps).run P w = .ok (.tuple #[.agg cs, tmps.getD q undef]) w := by
  have hp' : tmps[p]?.getD undef = .pointer (some ⟨g, 0, none⟩) := by simpa using hp
  simp [results, h, hp', asAddr, run_loadVar_row w g t ty cs fr d hg hu hd hi]
/-- a claim's cells -/
abbrev clmA (kind w prime mask : Int) (text : ByteArray) (s1 s2 s3 s4 : Value) : Array Value := #[.int .i64 kind, .int .i64 w, s1, s2, s3, .string text, .int .i64 prime, s4, .int .i64 mask, .slice none 0 0, .int .i64 0, .int .i64 0]
abbrev clm0 : Array Value := clmA 0 0 0 0 ⟨#[]⟩ (.slice none 0 0) (.slice none 0 0) (.slice none 0 0) (.slice none 0 0)
def zeroC : Clm := ⟨0, ⟨0, []⟩, [], [], ⟨#[]⟩, 0, [], 0, [], 0, 0⟩
theorem ClmIn.zero {w : World} {lo hi : Nat} (h : lo ≤ hi) : ClmIn w lo hi (.agg clm0) zeroC := ClmIn.none h
/-- what a function that makes a claim does -/
def MkPost (C : Clm) (b : Bool) (w : World) (e : Ending) (w' : World) : Prop := ∃ v', e = .returned (.tuple #[v', .bool b]) ∧ ClmIn w' w.heap.size w'.heap.size v' C ∧ Below w.heap.size w w'
def OfPost (kind : Int) (r : Reg) (ps : List (List Cell)) (w : World) (e : Ending) (w' : World) : Prop := ∃ q1 c1 q2 c2 m, e = .returned (.agg (clmA kind r.w 0 0 ⟨#[]⟩ (.slice q1 r.rows.length c1) (.slice q2 ps.length c2) (.slice none 0 0) (.slice none 0 0))) ∧ w.heap.size ≤ m ∧ m ≤ w'.heap.size ∧
  IntsIn w' w.heap.size m (.slice q1 r.rows.length c1) r.rows ∧ ShpsIn w' m w'.heap.size (.slice q2 ps.length c2) ps ∧ Below w.heap.size w w'
theorem IntsIn.wide {w : World} {lo hi lo' hi' : Nat} {v : Value} {l : List Int} (h : IntsIn w lo hi v l) (h1 : lo' ≤ lo) (h2 : hi ≤ hi') : IntsIn w lo' hi' v l := OI.base h h1 h2
theorem ShpsIn.wide {w : World} {lo hi lo' hi' : Nat} {v : Value} {M : List (List Cell)} (h : ShpsIn w lo hi v M) (h1 : lo' ≤ lo) (h2 : hi ≤ hi') : ShpsIn w lo' hi' v M := by
  obtain ⟨vs, h3, h4, h5, h6⟩ := h
  exact ⟨vs, h3, h4.base h1 h2, fun j x u hx hu => (h5 j x u hx hu).base h1 h2, h6⟩
theorem RegIn.shape {w : World} {lo hi : Nat} {v : Value} {r : Reg} (h : RegIn w lo hi v r) : ∃ q c, v = .agg #[.int .i64 r.w, .slice q r.rows.length c] ∧ IntsIn w lo hi (.slice q r.rows.length c) r.rows := by
  obtain ⟨s, rfl, hs⟩ := h
  obtain ⟨q, c, rfl, _, _⟩ := hs.rd
  exact ⟨q, c, rfl, hs⟩
theorem ShpsIn.shape {w : World} {lo hi : Nat} {v : Value} {M : List (List Cell)} (h : ShpsIn w lo hi v M) : ∃ q c, v = .slice q M.length c := by
  obtain ⟨vs, _, h4, _⟩ := h
  obtain ⟨q, c, rfl, _⟩ := h4.rd
  exact ⟨q, c, rfl⟩
set_option maxRecDepth 100000 in
set_option maxHeartbeats 1600000 in
theorem impl_claimOf_c {v v2 : Value} {r : Reg} {ps : List (List Cell)} (kind : Int) (w : World) (h : RegRd w 0 w.heap.size v r) (h2 : CellSSRd w 0 w.heap.size v2 ps) (hr : r.rows.length ≤ 1048576) (hn : ps.length ≤ 1048576) (hl : ∀ s ∈ ps, s.length ≤ 1048576) :
    Calls Tryz.prog 29 #[.int .i64 kind, v, v2] w (OfPost kind r ps w) := by
  have HRD : Hid (∀ w1, Below w.heap.size w w1 → RegRd w1 0 w1.heap.size v r) := Lib.hid fun w1 b1 => (h.keep (SameIn.of_below b1 (Nat.le_refl _))).more (Nat.le_refl _) b1.size
  have HR2 : Hid (∀ w1, Below w.heap.size w w1 → CellSSRd w1 0 w1.heap.size v2 ps) := Lib.hid fun w1 b1 => (h2.keep (SameIn.of_below b1 (Nat.le_refl _))).more (Nat.le_refl _) b1.size
  obtain ⟨sr, rfl, hsr⟩ := h
  obtain ⟨A, c, rfl, _, _⟩ := hsr
  obtain ⟨vs, ⟨A2, c2, rfl, _, _⟩, _⟩ := h2
  have H0 := ((Sep.start w).box 28 #[.int .i64 r.w, .slice A r.rows.length c]).box 32 clm0
  simp only [World.size_alloc] at H0
  obtain ⟨g, hg⟩ : ∃ g, g = w.heap.size := ⟨_, rfl⟩
  rw [← hg] at H0
  go_enter Tryz.func29, Tryz.ntmps29
  go_upto_region 1 with fail
  rw [← hg]
  generalize ((w.alloc (.cells #[.int .i64 r.w, .slice A r.rows.length c] 28)).alloc (.cells clm0 32)) = W at *
  clear hg
  have c0 : W.cell? ⟨g, 0, none⟩ = some (.int .i64 r.w) := H0.h1.cell 0
  have c1 : W.cell? ⟨g, 1, none⟩ = some (.slice A r.rows.length c) := H0.h1.cell 1
  have HC1 := Lib.hid (impl_copyRegion_c W (HRD.out W H0.below) hr)
  go_wp2_with fail
  refine (HC1.out).mono ?_
  rintro e w1 ⟨v1, rfl, o1, b1⟩
  obtain ⟨q1, d1, rfl, p1⟩ := o1.shape
  have H1 := H0.area b1 (fun u u' hs hp => IntsIn.keep hp hs) p1
  have HZ : Hid (w.heap.size ≤ W.heap.size) := Lib.hid H0.below.size
  clear c0 c1 H0 HC1 o1 p1
  have HC2 := Lib.hid (copyShapes_c w1 (HR2.out w1 H1.below) hn hl)
  go_wp2_with fail
  refine (HC2.out).mono ?_
  rintro e w2 ⟨v2, rfl, o2, b2⟩
  obtain ⟨q2, d2, rfl⟩ := o2.shape
  have H2 := H1.area b2 (fun u u' hs hp => ShpsIn.keep hp hs) o2
  have HZ2 := Lib.hid b2.size
  clear H1 HC2 o2 b2
  have HALL : ((clmA kind r.w 0 0 ⟨#[]⟩ (.slice q1 r.rows.length d1) (.slice q2 ps.length d2) (.slice none 0 0) (.slice none 0 0) : Array Value).all (·.oneCell')) = true := by simp [Value.oneCell']
  have HZ1 := Lib.hid b1.size
  go_wp2_with (refine wpList_store_row rfl 32 _ _ rfl (g + 1) (clmA kind r.w 0 0 ⟨#[]⟩ (.slice q1 r.rows.length d1) (.slice q2 ps.length d2) (.slice none 0 0) (.slice none 0 0)) rfl rfl 32 _ H2.g2.h0 (by kernel_rfl) rfl HALL ?_)
  have M := H2.g2.setAll (clmA kind r.w 0 0 ⟨#[]⟩ (.slice q1 r.rows.length d1) (.slice q2 ps.length d2) (.slice none 0 0) (.slice none 0 0))
  refine bodyPost_ret (v := .agg (clmA kind r.w 0 0 ⟨#[]⟩ (.slice q1 r.rows.length d1) (.slice q2 ps.length d2) (.slice none 0 0) (.slice none 0 0))) (results_cell_row Tryz.results29 _ _ (g + 1) 32 _ _ _ rfl M.h0 Tryz.underlying32 rfl (by kernel_rfl)) rfl ?_
  have hz := HZ.out
  have hz1 := HZ1.out
  have hz3 := HZ2.out
  have hz2 : w2.heap.size ≤ (w2.setRow (g + 1) (clmA kind r.w 0 0 ⟨#[]⟩ (.slice q1 r.rows.length d1) (.slice q2 ps.length d2) (.slice none 0 0) (.slice none 0 0))).heap.size := by simp [World.setRow]
  exact ⟨q1, d1, q2, d2, w1.heap.size, rfl, by omega, by omega, M.h2.1.wide hz (Nat.le_refl _), M.h1.1.wide (Nat.le_refl _) hz2, M.below⟩
end Go.Proofs.YtfmkmjebkmimkaaGreat
