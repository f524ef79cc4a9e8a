
/-
  The walks over lists of shapes that a function gives: the law's helpers.
-/
import Derived.Test.YtccihgifdlpkgaaGreatDoorLawPcs
import Derived.Test.YtccihgifdlpkgaaGreatDoorPairR
namespace Go.Proofs.YtccihgifdlpkgaaGreatDoor
open Go.RowKit

def CellSS.mkRow (k : Int) (l : List (List Cell)) (j : Nat) (u : List Cell) : List Cell := Cells.mk (k + 2 * (CellSS.numTo l j : Nat)) u
def CellSS.mk (k : Int) (l : List (List Cell)) : List (List Cell) := l.mapIdx (CellSS.mkRow k l)
theorem CellSS.mk_length {k : Int} {l : List (List Cell)} : (CellSS.mk k l).length = l.length := by simp [CellSS.mk]
theorem CellSS.mk_at {k : Int} {l : List (List Cell)} {j : Nat} {u : List Cell} (h : l[j]? = some u) : (CellSS.mk k l)[j]? = some (CellSS.mkRow k l j u) := by simp [CellSS.mk, h]
/-- a list of shapes that lie apart from each other, in memory from lo to hi -/
def ShpsIn (w : World) (lo hi : Nat) (v : Value) (M : List (List Cell)) : Prop := ∃ vs : List Value, vs.length = M.length ∧ OI w lo hi 42 1 v M.length vs ∧
  (∀ (j : Nat) (x : Value) (u : List Cell), vs[j]? = some x → M[j]? = some u → OI w lo hi 67 2 x u.length (cc u)) ∧ vs.Pairwise fun p q => ∀ b, p.ownBlock = some b → q.ownBlock ≠ some b
theorem ShpsIn.keep {w w' : World} {lo hi : Nat} {v : Value} {M : List (List Cell)} (h : ShpsIn w lo hi v M) (hs : SameIn lo hi w w') : ShpsIn w' lo hi v M := by
  obtain ⟨vs, h1, h2, h3, h4⟩ := h
  exact ⟨vs, h1, h2.keep hs, fun j x u hx hu => (h3 j x u hx hu).keep hs, h4⟩
theorem ShpsIn.rd {w : World} {lo hi : Nat} {v : Value} {M : List (List Cell)} (h : ShpsIn w lo hi v M) : CellSSRd w lo hi v M := by
  obtain ⟨vs, h1, h2, h3, h4⟩ := h
  refine ⟨vs, h2.sr, h1, fun i u hu => ?_⟩
  have hi : i < vs.length := by rw [h1]; exact (List.getElem?_eq_some_iff.1 hu).1
  exact ⟨vs[i], List.getElem?_eq_getElem hi, (h3 i _ u (List.getElem?_eq_getElem hi) hu).sr⟩
/-- read only -/
structure SpIn (w : World) (lo hi : Nat) (v : Value) (M : List (List Cell)) : Prop where
  rd : CellSSRd w lo hi v M
theorem SpIn.keep {w w' : World} {lo hi : Nat} {v : Value} {M : List (List Cell)} (h : SpIn w lo hi v M) (hs : SameIn lo hi w w') : SpIn w' lo hi v M := ⟨h.rd.keep hs⟩
set_option maxRecDepth 100000 in
theorem eqShps_c {v v' : Value} {a : List (List Cell)} (w : World) (h : CellSSRd w 0 w.heap.size v a) (h' : CellSSRd w 0 w.heap.size v' a) :
    Calls Tryz.prog 22 #[v, v'] w fun e w' => e = .returned (.bool true) ∧ Below w.heap.size w w' := eqCellSS_c w h h'
set_option maxRecDepth 100000 in
theorem markRow2 {lo hi : Nat} {x : Value} {u : List Cell} (k0 : Int) (w : World) (hn : u.length ≤ 1048576) (hk0 : 0 ≤ k0) (hk1 : k0 ≤ 1000000000000) (h : OI w lo hi 67 2 x u.length (cc u)) :
    Calls Tryz.prog 40 #[x, .int .i64 k0] w fun e w' => e = .returned (.int .i64 (k0 + 2 * (u.length : Int))) ∧ OI w' lo hi 67 2 x (Cells.mk k0 u).length (cc (Cells.mk k0 u)) ∧ Out lo hi w w' ∧
      (∀ b, b < w.heap.size → x.ownBlock ≠ some b → w'.heap[b]? = w.heap[b]?) ∧ (∀ (G : Nat) (cs : Array Value), Blk w G 42 cs → Blk w' G 42 cs) := by
  rcases OI.cases h with ⟨rfl, h0⟩ | ⟨g, c, cs, rfl, h1, h2, h3, h4, hb, h5, h6⟩
  · obtain rfl := List.eq_nil_of_length_eq_zero h0
    refine (markCellS_nil k0 w).mono ?_
    rintro e w' ⟨rfl, rfl⟩
    exact ⟨by simp, OI.nil, Out.refl _, fun _ _ _ => rfl, fun _ _ h => h⟩
  · refine (markCellS_any g _ c k0 u cs w rfl hn hk0 hk1 hb (by rw [h5]; omega)).mono ?_
    rintro e w' ⟨rfl, hg, cs', hb', hs', ht'⟩
    refine ⟨rfl, ?_, Out.of_only hg h1 h2, fun b hb1 hb2 => hg.block b hb1 (fun e => hb2 e.symm), fun G D hG => ?_⟩
    · rw [Cells.mk_length]
      exact OI.of_blk hb' h1 h2 h3 h4 (by rw [hs', h5]) ht'
    · refine hG.grown hg (fun e => ?_)
      injection e with e
      subst e
      have := hG.symm.trans hb
      injection this with this
      injection this with _ this
      exact absurd this (by decide)
theorem oi_block {w w' : World} {lo hi sz n : Nat} {e : TypeId} {x : Value} {xs : List Value} (h : OI w lo hi e sz x n xs) (hs : ∀ b, x.ownBlock = some b → w'.heap[b]? = w.heap[b]?) : OI w' lo hi e sz x n xs := ⟨own_keep h.1 hs, h.2⟩
/-- marked up to k -/
def mkUp (k0 : Int) (M : List (List Cell)) (k : Nat) : List (List Cell) := M.mapIdx fun j u => if j < k then CellSS.mkRow k0 M j u else u
theorem mkUp_at {k0 : Int} {M : List (List Cell)} {k j : Nat} {u : List Cell} (h : M[j]? = some u) : (mkUp k0 M k)[j]? = some (if j < k then CellSS.mkRow k0 M j u else u) := by simp [mkUp, h]
theorem mkUp_len {k0 : Int} {M : List (List Cell)} {k : Nat} : (mkUp k0 M k).length = M.length := by simp [mkUp]
theorem mkUp_end {k0 : Int} {M : List (List Cell)} : mkUp k0 M M.length = CellSS.mk k0 M := by
  apply List.ext_getElem?
  intro j
  cases h : M[j]? with
  | none =>
    have := List.getElem?_eq_none_iff.1 h
    rw [List.getElem?_eq_none (by rw [mkUp_len]; exact this), List.getElem?_eq_none (by rw [CellSS.mk_length]; exact this)]
  | some u => rw [mkUp_at h, CellSS.mk_at h, if_pos (List.getElem?_eq_some_iff.1 h).1]
theorem mkUp_zero {k0 : Int} {M : List (List Cell)} : mkUp k0 M 0 = M := by
  apply List.ext_getElem?
  intro j
  cases h : M[j]? with
  | none =>
    have := List.getElem?_eq_none_iff.1 h
    rw [List.getElem?_eq_none (by rw [mkUp_len]; exact this)]
  | some u => rw [mkUp_at h, if_neg (Nat.not_lt_zero j)]
set_option maxRecDepth 100000 in
set_option maxHeartbeats 800000 in
theorem markShps_c {lo hi : Nat} {v : Value} {x : List (List Cell)} (k0 : Int) (w : World) (hn : CellSS.tot x ≤ 1048576) (hk0 : 0 ≤ k0) (hk1 : k0 ≤ 10000000000) (hw : hi ≤ w.heap.size) (h : ShpsIn w lo hi v x) :
    Calls Tryz.prog 23 #[v, .int .i64 k0] w fun e w' => e = .returned (.int .i64 (k0 + 2 * (CellSS.num x : Int))) ∧ ShpsIn w' lo hi v (CellSS.mk k0 x) ∧ Out lo hi w w' := by
  obtain ⟨vs, hvl, hrow, hx, hap⟩ := h
  obtain ⟨n, hn2⟩ : ∃ n, n = x.length := ⟨_, rfl⟩
  have hnum : CellSS.num x ≤ 1048576 := by unfold CellSS.tot at hn; omega
  have HUL := Lib.hid (CellSS.tot_le hn).2
  rw [← hn2] at hrow
  have HN := Lib.hid hn2
  obtain ⟨R, hR⟩ : ∃ R : Nat, R = CellSS.num x := ⟨_, rfl⟩
  rw [← hR] at hnum ⊢
  have HR := Lib.hid hR
  have hn3 : n ≤ 1048576 := by unfold CellSS.tot at hn; omega
  have HVL := Lib.hid hvl
  have HAP := Lib.hid hap
  have HX0 : Hid (∀ (j : Nat) (y : Value) (u : List Cell), vs[j]? = some y → (mkUp k0 x 0)[j]? = some u → OI w lo hi 67 2 y u.length (cc u)) := Lib.hid (by rw [mkUp_zero]; exact hx)
  have HSH : Hid (ShpsIn w lo hi v x → True) := Lib.hid fun _ => trivial
  have hshape : (v = .slice none 0 0 ∧ n = 0) ∨ ∃ g c cs, v = .slice (some ⟨g, 0, none⟩) n c ∧ Blk w g 42 cs ∧ (∀ (j : Nat) (y : Value), vs[j]? = some y → cs[j]? = some y) ∧ lo ≤ g ∧ g < hi ∧ n ≤ c ∧ c ≤ maxLen ∧ cs.size = c * 1 ∧ cs.toList.take (n * 1) = vs := by
    rcases OI.cases hrow with h | ⟨g, c, cs, e, h1, h2, h3, h4, hb, h5, h6⟩
    · exact .inl h
    · refine .inr ⟨g, c, cs, e, hb, fun j y hy => ?_, h1, h2, h3, h4, h5, h6⟩
      rw [← h6, List.getElem?_take] at hy
      split at hy
      · simpa using hy
      · cases hy
  rcases hshape with ⟨rfl, h0⟩ | ⟨G, c, cs, rfl, hb, hcs, hG1, hG2, hnc, hcm, hsz, htk⟩
  · have hxn : x = [] := List.eq_nil_of_length_eq_zero (by rw [← HN.out, h0])
    subst hxn
    have hR0 : R = 0 := HR.out
    subst hR0
    have HS : Hid (ShpsIn w lo hi (.slice none 0 0) (CellSS.mk k0 [])) := Lib.hid ⟨[], rfl, OI.nil, fun j y u hy => by simp at hy, List.Pairwise.nil⟩
    clear hrow hx hap hvl hn hn2 hR HSH
    go_enter Tryz.func23, Tryz.ntmps23
    go_wp2
    go_loopw [1, 5] (fun kk i wr => kk = .int .i64 k0 ∧ i = .int .i64 0 ∧ wr = w) (fun _ _ _ => 0)
    case atStart => exact ⟨rfl, rfl, rfl⟩
    case round =>
      obtain ⟨rfl, rfl, rfl⟩ := hrel
      go_wp2
      go_ret
      exact ⟨by simp, HS.out, Out.refl _⟩
  · clear hrow hx hap hvl hn hn2 hR HSH
    go_enter Tryz.func23, Tryz.ntmps23
    go_wp2
    go_loopw [1, 5] (fun kk i wr => ∃ k q : Nat, k ≤ n ∧ i = .int .i64 k ∧ kk = .int .i64 (k0 + 2 * (q : Int)) ∧ q ≤ R ∧ Hid (q = CellSS.numTo x k) ∧ Blk wr G 42 cs ∧ Out lo hi w wr ∧ Hid (∀ (j : Nat) (y : Value) (u : List Cell), vs[j]? = some y → (mkUp k0 x k)[j]? = some u → OI wr lo hi 67 2 y u.length (cc u))) (fun _ i _ => n - (intOf i).toNat)
    case atStart => exact ⟨0, 0, Nat.zero_le _, rfl, by simp, Nat.zero_le _, Lib.hid rfl, hb, Out.refl _, HX0⟩
    case round =>
      clear hb HX0
      obtain ⟨k, q, hk, rfl, rfl, hqR, HQ, hb, ho, HX⟩ := hrel
      by_cases hlt : k < n
      · obtain ⟨u, hu⟩ : ∃ u, x[k]? = some u := ⟨x[k]'(by rw [← HN.out]; exact hlt), List.getElem?_eq_getElem _⟩
        obtain ⟨xv, hxv⟩ : ∃ y, vs[k]? = some y := ⟨vs[k]'(by rw [HVL.out, ← HN.out]; exact hlt), List.getElem?_eq_getElem _⟩
        have hrow := HX.out k xv u hxv (by rw [mkUp_at hu, if_neg (Nat.lt_irrefl k)])
        have q1 : wr.cell? ⟨G, k, none⟩ = some xv := by rw [hb.cell]; exact hcs k xv hxv
        have HC := Lib.hid (markRow2 (k0 + 2 * (q : Int)) wr (HUL.out u (List.mem_of_getElem? hu)) (by omega) (by omega) hrow)
        obtain ⟨Ax, cx, hxe, _, _⟩ := hrow.rd
        subst hxe
        obtain ⟨q2, hq2⟩ : ∃ q2, q2 = CellSS.numTo x (k + 1) := ⟨_, rfl⟩
        have hqq : q2 = q + u.length := by rw [hq2, CellSS.numTo_succ hu, HQ.out]
        have hq2R : q2 ≤ R := by rw [hq2, HR.out]; exact CellSS.numTo_le
        have HQ2 := Lib.hid hq2
        have HB := Lib.hid hb
        have HU := Lib.hid hu
        have HXV := Lib.hid hxv
        have hval : k0 + 2 * (q : Int) + 2 * (u.length : Int) = k0 + 2 * (q2 : Int) := by omega
        rw [hval] at HC
        clear hu hxv hrow hq2 hqq hval hb
        go_wp2_with fail
        refine (HC.out).mono ?_
        rintro e w3 ⟨rfl, o3, ou3, hs3, hG3⟩
        have hsz3 : hi ≤ wr.heap.size := Nat.le_trans hw ho.size
        have HX3 : Hid (∀ (j : Nat) (y : Value) (u : List Cell), vs[j]? = some y → (mkUp k0 x (k + 1))[j]? = some u → OI w3 lo hi 67 2 y u.length (cc u)) := Lib.hid fun j y u' hy hu' => by
          obtain ⟨z, hz⟩ : ∃ z, x[j]? = some z := ⟨x[j]'(by have := (List.getElem?_eq_some_iff.1 hy).1; rw [← HVL.out]; exact this), List.getElem?_eq_getElem _⟩
          rw [mkUp_at hz] at hu'
          injection hu' with hu'
          by_cases hjk : j = k
          · subst hjk
            rw [HU.out] at hz
            injection hz with hz
            subst hz
            rw [HXV.out] at hy
            injection hy with hy
            subst hy
            rw [if_pos (Nat.lt_succ_self j)] at hu'
            subst hu'
            unfold CellSS.mkRow
            rw [← HQ.out]
            exact o3
          · have h1 := HX.out j y u' hy (by
              rw [mkUp_at hz, ← hu']
              congr 1
              by_cases h : j < k
              · rw [if_pos h, if_pos (by omega)]
              · rw [if_neg h, if_neg (by omega)])
            refine oi_block h1 fun b hyb => hs3 b (Nat.lt_of_lt_of_le (h1.2 b hyb) hsz3) fun hxb => ?_
            obtain ⟨hj, ej⟩ := List.getElem?_eq_some_iff.1 hy
            obtain ⟨hk', ek⟩ := List.getElem?_eq_some_iff.1 HXV.out
            rcases Nat.lt_or_gt_of_ne hjk with h | h
            · have := List.pairwise_iff_getElem.1 HAP.out j k hj hk' h b
              rw [ej, ek] at this
              exact this hyb hxb
            · have := List.pairwise_iff_getElem.1 HAP.out k j hk' hj h b
              rw [ej, ek] at this
              exact this hxb hyb
        have hb3 := hG3 _ _ HB.out
        have ho3 := ho.trans ou3
        clear hG3 hs3 ou3 o3 HC q1
        go_wp2
        go_roundw
        case rel => exact ⟨k + 1, q2, by omega, by go_num, rfl, hq2R, HQ2, hb3, ho3, HX3⟩
        case measure => simp [intOf]; omega
      · obtain rfl : k = n := by omega
        obtain rfl : q = R := by rw [HQ.out, HN.out, CellSS.numTo_end, HR.out]
        have HS : Hid (ShpsIn wr lo hi (.slice (some ⟨G, 0, none⟩) k c) (CellSS.mk k0 x)) := Lib.hid (by
          refine ⟨vs, by rw [CellSS.mk_length]; exact HVL.out, by rw [CellSS.mk_length, ← HN.out]; exact OI.of_blk hb hG1 hG2 hnc hcm hsz htk, fun j y u hy hu => HX.out j y u hy (by rw [HN.out, mkUp_end]; exact hu), HAP.out⟩)
        go_wp2
        go_ret
        exact ⟨rfl, HS.out, ho⟩
set_option maxRecDepth 100000 in
set_option maxHeartbeats 800000 in
theorem heldShps_c {v : Value} {x : List (List Cell)} (k0 : Int) (w : World) (hn : CellSS.tot x ≤ 1048576) (hk0 : 0 ≤ k0) (hk1 : k0 ≤ 10000000000) (h : CellSSRd w 0 w.heap.size v (CellSS.mk k0 x)) :
    Calls Tryz.prog 24 #[v, .int .i64 k0] w fun e w' => e = .returned (.int .i64 (k0 + 2 * (CellSS.num x : Int))) ∧ Below w.heap.size w w' := by
  obtain ⟨vs, ⟨A, c, rfl, hm, hr⟩, hvs⟩ := h
  rw [CellSS.mk_length] at hr ⊢
  obtain ⟨n, hn2⟩ : ∃ n, n = x.length := ⟨_, rfl⟩
  have hnum : CellSS.num x ≤ 1048576 := by unfold CellSS.tot at hn; omega
  have HUL := Lib.hid (CellSS.tot_le hn).2
  rw [← hn2] at hr ⊢
  have HN := Lib.hid hn2
  obtain ⟨R, hR⟩ : ∃ R : Nat, R = CellSS.num x := ⟨_, rfl⟩
  rw [← hR] at hnum ⊢
  have HR := Lib.hid hR
  have HRD := Lib.hid hr
  have HVS := Lib.hid hvs
  have hn3 : n ≤ 1048576 := by unfold CellSS.tot at hn; omega
  clear hr hvs hn hn2 hR hm
  go_enter Tryz.func24, Tryz.ntmps24
  go_wp2
  go_loopw [1, 5] (fun kk i wr => ∃ k q : Nat, k ≤ n ∧ i = .int .i64 k ∧ kk = .int .i64 (k0 + 2 * (q : Int)) ∧ q ≤ R ∧ Hid (q = CellSS.numTo x k) ∧ wr = w) (fun _ i _ => n - (intOf i).toNat)
  case atStart => exact ⟨0, 0, Nat.zero_le _, rfl, by simp, Nat.zero_le _, Lib.hid rfl, rfl⟩
  case round =>
    obtain ⟨k, q, hk, rfl, rfl, hqR, HQ, rfl⟩ := hrel
    by_cases hlt : k < n
    · obtain ⟨u, hu⟩ : ∃ u, x[k]? = some u := ⟨x[k]'(by rw [← HN.out]; exact hlt), List.getElem?_eq_getElem _⟩
      obtain ⟨b, off, hA, _, hb, hc⟩ := HRD.out.2 (by omega)
      subst hA
      obtain ⟨y, hy, hyr⟩ := HVS.out.2 k _ (CellSS.mk_at hu)
      have q1 := hc k y hy
      unfold CellSS.mkRow at hyr
      rw [← HQ.out] at hyr
      have HC := Lib.hid (heldCellS_c (x := u) (k0 + 2 * (q : Int)) wr (HUL.out u (List.mem_of_getElem? hu)) (by omega) (by omega) hyr)
      obtain ⟨Ay, cy, hye, _, _⟩ := hyr
      rw [Cells.mk_length] at hye
      subst hye
      obtain ⟨q2, hq2⟩ : ∃ q2, q2 = CellSS.numTo x (k + 1) := ⟨_, rfl⟩
      have hqq : q2 = q + u.length := by rw [hq2, CellSS.numTo_succ hu, HQ.out]
      have hq2R : q2 ≤ R := by rw [hq2, HR.out]; exact CellSS.numTo_le
      have HQ2 := Lib.hid hq2
      have hval : k0 + 2 * (q : Int) + 2 * (u.length : Int) = k0 + 2 * (q2 : Int) := by omega
      rw [hval] at HC
      have hneg : ¬ (k0 + 2 * (q2 : Int) < 0) := by omega
      clear hu hy hq2 hqq hval hc
      go_wp2_with fail
      refine (HC.out).mono ?_
      rintro e w3 ⟨rfl, rfl⟩
      clear HC q1
      go_wp2
      go_roundw
      case rel => exact ⟨k + 1, q2, by omega, by go_num, (by first | rfl | trivial), hq2R, HQ2, (by first | rfl | trivial)⟩
      case measure => simp [intOf]; omega
    · obtain rfl : k = n := by omega
      obtain rfl : q = R := by rw [HQ.out, HN.out, CellSS.numTo_end, HR.out]
      go_wp2
      go_ret
      exact ⟨rfl, Below.refl _ _⟩
end Go.Proofs.YtccihgifdlpkgaaGreatDoor
