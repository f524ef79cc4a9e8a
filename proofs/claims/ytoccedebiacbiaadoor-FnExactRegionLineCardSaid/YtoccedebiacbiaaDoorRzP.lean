
/-
  The parts of a region that hang together: how many. Plain. PartsOf: the reference's walk (how many). PartsOf: the program's walk (how many). PartsOf: the program's walk (how many).
-/
import Derived.Test.YtoccedebiacbiaaDoorShpX
import Derived.Test.YtoccedebiacbiaaDoorRzE
import Derived.Test.YtoccedebiacbiaaDoorColX
import Derived.Test.YtoccedebiacbiaaDoorCelN
import Derived.Outline
import Derived.Test.YtoccedebiacbiaaDoorRmoF
import Derived.Deep.LoopGhost
import Derived.Test.YtoccedebiacbiaaDoorFlipX
import Derived.Deep.DeepCutAuto
namespace Go.Proofs.YtoccedebiacbiaaDoor
open Go.RowKit

theorem Sees.is_hang {s S : List Cell} {a : Cell} (h : Sees s a S) (hcl : ∀ (j : Nat) (b : Cell), S[j]? = some b → ∀ c ∈ s, sideB b c = true → c ∈ S) (c : Cell) : c ∈ S ↔ Hang s a c := by
  constructor
  · exact h.reach c
  · intro hc
    induction hc with
    | base => exact h.mem
    | step _ hcs hn ih =>
      obtain ⟨j, hj, e⟩ := List.getElem_of_mem ih
      exact hcl j _ (by rw [List.getElem?_eq_getElem hj, e]) _ hcs hn
/-- what is left when a's part is taken away -/
noncomputable def restP (s : List Cell) (a : Cell) : List Cell := s.filter fun c => !cdec (Hang s a c)
noncomputable def partsF : Nat → List Cell → Nat
  | 0, _ => 0
  | f + 1, s => match s[0]? with
    | none => 0
    | some a => partsF f (restP s a) + 1
/-- how many parts -/
noncomputable def partsN (s : List Cell) : Nat := partsF s.length s
theorem restP_len {s : List Cell} {a : Cell} (h : s[0]? = some a) : (restP s a).length < s.length := by
  obtain ⟨h0, rfl⟩ := List.getElem?_eq_some_iff.1 h
  unfold restP
  refine Nat.lt_of_le_of_ne (List.length_filter_le _ _) fun e => ?_
  have := List.length_filter_eq_length_iff.1 e s[0] (List.getElem_mem _)
  rw [cdec_t Hang.base] at this
  cases this
theorem partsF_eq : ∀ (f : Nat) (s : List Cell), s.length ≤ f → partsF f s = partsN s
  | 0, s, h => by
    have : s = [] := List.eq_nil_of_length_eq_zero (by omega)
    subst this
    rfl
  | f + 1, s, h => by
    unfold partsN
    cases hs : s with
    | nil => rfl
    | cons a l =>
      have h0 : (a :: l)[0]? = some a := rfl
      have hl := restP_len h0
      subst hs
      rw [List.length_cons] at h hl ⊢
      show (match (a :: l)[0]? with | none => 0 | some a' => partsF f (restP (a :: l) a') + 1) = (match (a :: l)[0]? with | none => 0 | some a' => partsF l.length (restP (a :: l) a') + 1)
      rw [h0]
      simp only
      rw [partsF_eq f _ (by omega), partsF_eq l.length _ (by omega)]
termination_by f => f
theorem partsN_nil : partsN [] = 0 := rfl
theorem partsN_step {s : List Cell} {a : Cell} (h : s[0]? = some a) : partsN s = partsN (restP s a) + 1 := by
  have hl := restP_len h
  rw [← partsF_eq s.length s (Nat.le_refl _)]
  obtain ⟨n, hn⟩ : ∃ n, s.length = n + 1 := ⟨s.length - 1, by omega⟩
  rw [hn]
  show (match s[0]? with | none => 0 | some a' => partsF n (restP s a') + 1) = _
  rw [h]
  simp only
  rw [partsF_eq n _ (by omega)]
theorem partsN_le : ∀ (n : Nat) (s : List Cell), s.length ≤ n → partsN s ≤ s.length
  | 0, s, h => by
    have : s = [] := List.eq_nil_of_length_eq_zero (by omega)
    subst this
    exact Nat.le_refl _
  | n + 1, s, h => by
    cases hs : s with
    | nil => exact Nat.le_refl _
    | cons a l =>
      subst hs
      have hl := restP_len (s := a :: l) (a := a) rfl
      rw [partsN_step (a := a) rfl]
      have := partsN_le n (restP (a :: l) a) (by omega)
      omega
theorem restP_seen {s S : List Cell} {a : Cell} (h : ∀ c, c ∈ S ↔ Hang s a c) : restP s a = s.filter fun c => !decide (c ∈ S) := by
  unfold restP
  refine List.filter_congr fun c _ => ?_
  by_cases hc : c ∈ S
  · rw [cdec_t ((h c).1 hc), decide_eq_true hc]
  · rw [cdec_f (fun hh => hc ((h c).2 hh)), decide_eq_false hc]
theorem cells_on {r : Reg} (hv : r.Valid) : ∀ c ∈ r.cells, On c := fun c hc => by
  have h := hasE_in (Reg.cells_mem.1 hc)
  have h1 := hv.2.1
  have h2 := hv.2.2.2.1
  exact ⟨⟨by omega, by omega⟩, by omega, by omega⟩
end Go.Proofs.YtoccedebiacbiaaDoor

namespace Go.Proofs.YtoccedebiacbiaaDoor
open Go.RowKit

theorem Sep.joinP {w0 w w' : World} {L : List Res} : ∀ {K : List Res}, Sep w w' K → Sep w0 w L → Sep w0 w' (K ++ L)
  | [], hb, H => H.step hb
  | _ :: _, h, H => ⟨h.1, fun b hb => Nat.le_trans H.size (h.2.1 b hb), fun q hq b hb hq' => by
      rcases List.mem_append.1 hq with hq | hq
      · exact h.2.2.1 q hq b hb hq'
      · have h1 := q.inn (H.inn q hq).1 hq'
        have h2 := h.2.1 b hb
        omega, Sep.joinP h.2.2.2 H⟩
theorem filt_take {f : Cell → Bool} {l : List Cell} {i : Nat} {c : Cell} (h : l[i]? = some c) : (l.take (i + 1)).filter f = (l.take i).filter f ++ if f c then [c] else [] := by
  obtain ⟨hi, rfl⟩ := List.getElem?_eq_some_iff.1 h
  rw [List.take_succ_eq_append_getElem hi, List.filter_append]
  cases hf : f l[i] <;> simp [hf]
theorem made_intsP {n : Nat} : (madeCells #[.int .i64 0] n).toList = ic (List.replicate n 0) := by rw [toList_madeCells_one]; simp only [ic, List.map_replicate]
set_option maxRecDepth 100000 in
set_option maxHeartbeats 1600000 in
theorem l6Empty_c (a : Int) (A : Option Addr) (n c : Nat) (w : World) (hn : n ≤ 1000) :
    Calls Tryd.prog 40 #[.agg #[.int .i64 a, .slice A n c]] w fun e w' => ∃ g, e = .returned (.agg #[.int .i64 a, .slice (some ⟨g, 0, none⟩) n n]) ∧ Sep w w' [Res.row (.slice (some ⟨g, 0, none⟩) n n) 3 1 n (ic (List.replicate n 0))] := by
  obtain ⟨i0, hi, hz0, hz1, hz2⟩ := info_parts (show (Tryd.prog.info? 3).map (fun i => (i.zero, i.size, i.bytes)) = some (some (.int .i64 0), 1, 8) by kernel_rfl)
  have hmk := fun W => run_make_rowN (P := Tryd.prog) 22 3 i0 _ Tryd.underlying22 hi hz0 .i64 .i64 n n (Nat.le_refl _) (by rw [hz2]; omega) (by omega) W
  rw [hz1, Nat.mul_one] at hmk
  change ∀ W : World, _ = Result.ok _ (W.alloc (.cells (madeCells #[.int .i64 0] n) 3)) at hmk
  have H := ((((Sep.start w).box 27 #[.int .i64 a, .slice A n c]).box 27 #[.int .i64 a, .slice (some ⟨w.heap.size + 1 + 1, 0, none⟩) n n]).rowBox 3 (madeCells #[.int .i64 0] n) 1 n (by rw [size_madeCells, Nat.mul_one]) (by unfold maxLen; omega)).drew
  rw [made_intsP] at H
  simp only [World.size_alloc] at H
  have u0 := H.h1.cell 0
  have u1 := H.h1.cell 1
  simp at u0 u1
  go_enter Tryd.func40, Tryd.ntmps40
  go_wp2_with fail
  go_region
  all_goals
    go_wp2
    exact bodyPost_ret (v := .agg #[.int .i64 a, .slice (some ⟨w.heap.size + 1 + 1, 0, none⟩) n n]) (by simp [results, Tryd.results40, go_sem, u0, u1]) rfl ⟨_, rfl, H.drop2.drop2⟩
set_option maxRecDepth 100000 in
theorem infoRegP : (Tryd.prog.info? 27).map (fun i => (i.zero, i.size, i.bytes)) = some (some (.agg #[.int .i64 0, .slice none 0 0]), 2, 32) := by kernel_rfl
set_option maxRecDepth 100000 in
theorem infoCellP : (Tryd.prog.info? 52).map (fun i => (i.zero, i.size, i.bytes)) = some (some (.agg #[.int .i64 0, .int .i64 0]), 2, 16) := by kernel_rfl
set_option maxRecDepth 100000 in
theorem infoIntP : (Tryd.prog.info? 3).map (fun i => (i.zero, i.size, i.bytes)) = some (some (.int .i64 0), 1, 8) := by kernel_rfl
set_option maxRecDepth 100000 in
set_option maxHeartbeats 6400000 in
theorem spec_parts_c {v : Value} {r : Reg} (w : World) (h : RegRd w 0 w.heap.size v r) (hv : r.Valid) :
    Calls Tryd.prog 14 #[v] w fun e w' => ∃ A c, e = .returned (.slice A (partsN r.cells) c) ∧ Below w.heap.size w w' := by
  obtain ⟨i0, hi, hz0, hz1, hz2⟩ := info_parts infoCellP
  obtain ⟨j0, hj, hy0, hy1, hy2⟩ := info_parts infoRegP
  have HRD : Hid (∀ w1, Below w.heap.size w w1 → RegRd w1 0 w1.heap.size v r) := Lib.hid fun w1 b1 => (h.keep (SameIn.of_below b1 (Nat.le_refl _))).more (Nat.le_refl _) b1.size
  have HV := Lib.hid hv
  obtain ⟨s, rfl, hs⟩ := h
  obtain ⟨A, c, rfl, _, _⟩ := hs
  have hC36 : r.cells.length ≤ 36 := by rw [← cells_maskN hv]; exact cellsTo_lenR 36
  have HON : Hid (∀ c ∈ r.cells, On c) := Lib.hid (cells_on hv)
  have HYG : Hid (∀ c ∈ r.cells, 0 ≤ c.x ∧ c.x < 6 ∧ 0 ≤ c.y ∧ c.y < r.rows.length) := Lib.hid fun c hc => by
    have h1 := hasE_in (Reg.cells_mem.1 hc)
    have h2 := hv.2.1
    omega
  have HND : Hid (r.cells.Nodup) := Lib.hid cells_nodup
  have hn6 : r.rows.length ≤ 6 := hv.2.2.2.1
  obtain ⟨P, hP⟩ : ∃ P, P = partsN r.cells := ⟨_, rfl⟩
  rw [← hP]
  have hP36 : P ≤ 36 := by rw [hP]; exact Nat.le_trans (partsN_le _ _ (Nat.le_refl _)) hC36
  have HPP : Hid (0 + partsN r.cells = P) := Lib.hid (by rw [hP, Nat.zero_add])
  have H0 := (Sep.start w).box 27 #[.int .i64 r.w, .slice A r.rows.length c]
  obtain ⟨g, hg⟩ : ∃ g, g = w.heap.size := ⟨_, rfl⟩
  rw [← hg] at H0
  clear hv hP
  go_enter Tryd.func14, Tryd.ntmps14
  go_upto_region 1 with fail
  rw [← hg]
  generalize (w.alloc (.cells #[.int .i64 r.w, .slice A r.rows.length c] 27)) = W at *
  clear hg
  have H1 := H0.rowBox 27 #[] 2 0 rfl (by decide)
  go_upto_region 2 with fail
  obtain ⟨go, hgo⟩ : ∃ k, k = W.heap.size := ⟨_, rfl⟩
  rw [← hgo] at H1 ⊢
  generalize W.alloc (.cells #[] 27) = W1 at *
  clear hgo H0
  have c0 : W1.cell? ⟨g, 0, none⟩ = some (.int .i64 r.w) := H1.h1.cell 0
  have c1 : W1.cell? ⟨g, 1, none⟩ = some (.slice A r.rows.length c) := H1.h1.cell 1
  have HCE := Lib.hid (spec_cells_cV W1 (HRD.out W1 H1.below) HV.out)
  go_wp2_with fail
  refine (HCE.out).mono ?_
  rintro e w4 ⟨vC, rfl, oC, b4⟩
  have H3 := (H1.oiNew b4 oC)
  clear H1 HCE oC b4 c0 c1
  go_wp2
  go_loopg [3, 4] 37 (fun gk ov lv wx => ∃ (q : Nat) (l : List Cell) (xs : List Value), gk + q = 37 ∧ q ≤ 36 ∧ Hid (q + partsN l = P) ∧ l.length ≤ 36 ∧ Hid (l.Nodup) ∧ Hid (∀ c ∈ l, c ∈ r.cells) ∧ Sep w wx [Res.row lv 52 2 l.length (cc l), Res.row ov 27 2 q xs, Res.box g 27 #[.int .i64 r.w, .slice A r.rows.length c]])
  case atStart => exact ⟨0, r.cells, [], rfl, by omega, HPP, hC36, HND, Lib.hid (fun _ h => h), H3⟩
  case round =>
    clear H3 HPP HND
    obtain ⟨q, l, xs, hgk, hq36, HQ, hl36, HLN, HLC, H⟩ := hrel
    cases hl : l with
    | nil =>
      subst hl
      have hq : q = P := by have := HQ.out; rw [partsN_nil] at this; omega
      subst hq
      obtain ⟨Al, cl, rfl, _, _, _⟩ := Res.row_at H.h0
      obtain ⟨Ao, co, rfl, _, _, _⟩ := Res.row_at H.h1
      have hb := H.below
      clear H
      go_wp2
      go_ret
      exact ⟨_, _, rfl, hb⟩
    | cons a l' =>
      have ha : l[0]? = some a := by rw [hl]; rfl
      have hl1 : 1 ≤ l.length := by rw [hl]; simp
      clear hl
      have HQ2 : Hid (q + 1 + partsN (restP l a) = P) := Lib.hid (by have := HQ.out; rw [partsN_step ha] at this; omega)
      have hq35 : q + 1 ≤ 36 := by have := HQ2.out; omega
      have HA := Lib.hid ha
      obtain ⟨bl, ol, cl, rfl, hcl1, hcl2, _⟩ := own_shape H.h0 (by omega)
      obtain ⟨rfl, _⟩ := own_blk H.h0
      obtain ⟨q1, q2⟩ := own_cell2 H.h0 ha
      simp only [Nat.zero_add, Nat.zero_mul] at q1 q2
      have H1 := H.rowBox 52 #[.int .i64 a.x, .int .i64 a.y] 2 1 rfl (by decide)
      have hd0 : decide ((0 : Int) < (l.length : Int)) = true := decide_eq_true (by omega)
      clear ha HQ
      go_upto_region 5 with fail
      obtain ⟨gs, hgs⟩ : ∃ k, k = wr.heap.size := ⟨_, rfl⟩
      rw [← hgs] at H1 ⊢
      generalize wr.alloc (.cells #[.int .i64 a.x, .int .i64 a.y] 52) = W2 at *
      clear hgs q1 q2 hd0 H
      obtain ⟨OV, hOV⟩ : ∃ OV, OV = u3 := ⟨_, rfl⟩
      rw [← hOV] at H1 ⊢
      clear hOV
      go_wp2
      go_loopw [5, 6] (fun sv iv wx => ∃ (n : Nat) (S : List Cell), n ≤ S.length ∧ iv = .int .i64 n ∧ Hid (Sees l a S) ∧ Hid (∀ (j : Nat) (b : Cell), j < n → S[j]? = some b → ∀ c ∈ l, sideB b c = true → c ∈ S) ∧ S.length ≤ 36 ∧ Sep w wx [Res.row sv 52 2 S.length (cc S), Res.row (.slice (some ⟨bl, 0, none⟩) l.length cl) 52 2 l.length (cc l), Res.row OV 27 2 q xs, Res.box g 27 #[.int .i64 r.w, .slice A r.rows.length c]]) (fun _ iv _ => 37 - (intOf iv).toNat)
      case atStart => exact ⟨0, [a], by simp, rfl, Lib.hid (Sees.start HA.out), Lib.hid (fun j b hj => absurd hj (by omega)), by simp, H1⟩
      case round =>
        clear H1
        obtain ⟨n, S, hn', rfl, HSS, HC1, HLE, H⟩ := hrel
        by_cases hlt : n < S.length
        · obtain ⟨bi, hbi⟩ : ∃ bi, S[n]? = some bi := ⟨S[n], List.getElem?_eq_getElem hlt⟩
          have HBI := Lib.hid hbi
          obtain ⟨As, cs, rfl, hsn, hsm, _⟩ := Res.row_at H.h0
          clear hbi hsn hsm
          go_wp2
          go_loopw [5, 7] (fun sv iv wx => ∃ (k : Nat) (S : List Cell), k ≤ l.length ∧ iv = .int .i64 k ∧ Hid (Sees l a S) ∧ Hid (S[n]? = some bi) ∧ Hid (∀ (j : Nat) (b : Cell), j < n → S[j]? = some b → ∀ c ∈ l, sideB b c = true → c ∈ S) ∧ Hid (∀ c ∈ l.take k, sideB bi c = true → c ∈ S) ∧ S.length ≤ 36 ∧ Sep w wx [Res.row sv 52 2 S.length (cc S), Res.row (.slice (some ⟨bl, 0, none⟩) l.length cl) 52 2 l.length (cc l), Res.row OV 27 2 q xs, Res.box g 27 #[.int .i64 r.w, .slice A r.rows.length c]]) (fun _ iv _ => l.length - (intOf iv).toNat)
          case atStart => exact ⟨0, S, Nat.zero_le _, rfl, HSS, HBI, HC1, Lib.hid (fun c hc => by simp at hc), HLE, H⟩
          case round =>
            clear H HLE hlt hn' HSS HC1 HBI
            obtain ⟨k, S, hk, rfl, HSS, HBI, HC1, HC2, HLE, H⟩ := hrel
            have hnl : n < S.length := (List.getElem?_eq_some_iff.1 HBI.out).1
            by_cases hlk : k < l.length
            · obtain ⟨ck, hck⟩ : ∃ ck, l[k]? = some ck := ⟨l[k], List.getElem?_eq_getElem hlk⟩
              have HCK := Lib.hid hck
              obtain ⟨bs, os, cs2, rfl, hsn, hsm, hbs⟩ := own_shape H.h0 (by omega)
              have hll : bl < wr.heap.size := by
                obtain ⟨b', o', c', e1, _, _, e2⟩ := own_shape H.h1 (by omega)
                injection e1 with e1
                injection e1 with e1
                injection e1 with e1
                omega
              have l1 := Later.cell (own_cell2 H.h0 HBI.out).1 hbs
              have l2 := Later.cell (own_cell2 H.h0 HBI.out).2 hbs
              have l3 := Later.cell (own_cell2 H.h1 hck).1 hll
              have l4 := Later.cell (own_cell2 H.h1 hck).2 hll
              simp only [Nat.zero_add] at l3 l4
              have ON1 := Lib.hid (HON.out _ (HLC.out _ (HSS.out.sub bi (List.mem_of_getElem? HBI.out))))
              have ON2 := Lib.hid (HON.out _ (HLC.out _ (List.mem_of_getElem? hck)))
              clear hck hsn hsm
              cases hnb : sideB bi ck
              · have HNB := Lib.hid hnb
                have HNQ : Hid (∀ w : World, Calls Tryd.prog 38 #[.agg #[.int .i64 bi.x, .int .i64 bi.y], .agg #[.int .i64 ck.x, .int .i64 ck.y]] w fun e w' => e = .returned (.bool false) ∧ Below w.heap.size w w') := Lib.hid fun w => by
                  have := near_sq_c bi ck w ON1.out ON2.out
                  rw [hnb] at this
                  exact this
                clear hnb
                have hcl2 : ∀ c ∈ l.take (k + 1), sideB bi c = true → c ∈ S := fun c hc hn => by
                  rw [List.take_succ_eq_append_getElem hlk, (List.getElem?_eq_some_iff.1 HCK.out).2] at hc
                  rcases List.mem_append.1 hc with hc | hc
                  · exact HC2.out c hc hn
                  · simp at hc; subst hc; exact (absurd hn (by rw [HNB.out]; exact Bool.false_ne_true))
                have HCL2 := Lib.hid hcl2
                clear hcl2
                go_wp2_with fail
                refine wp_region_later (by kernel_rfl) (by kernel_rfl) ?_
                repeat (go_big_quiet_step (first | (go_at_call 38; exact Later.call (HNQ.out _)) | (go_at_call 39; exact Later.same (HHQ.out _))))
                refine wpQuiet_nil ?_
                intro w3 hw3
                obtain ⟨u3, hu3⟩ := hw3
                subst hu3
                have H3 := H.later u3
                clear l1 l2 l3 l4 H HNQ
                generalize u3.w = w3 at *
                go_wp2
                go_roundw
                case rel => exact ⟨k + 1, S, by omega, by go_num, HSS, HBI, HC1, HCL2, HLE, H3⟩
                case measure => simp [intOf]; omega
              have HNQ : Hid (∀ w : World, Calls Tryd.prog 38 #[.agg #[.int .i64 bi.x, .int .i64 bi.y], .agg #[.int .i64 ck.x, .int .i64 ck.y]] w fun e w' => e = .returned (.bool true) ∧ Below w.heap.size w w') := Lib.hid fun w => by
                have := near_sq_c bi ck w ON1.out ON2.out
                rw [hnb] at this
                exact this
              cases hhs : decide ((⟨ck.x, ck.y⟩ : Cell) ∈ S)
              rotate_left
              · have HHS := Lib.hid (of_decide_eq_true hhs)
                have HHQ : Hid (∀ u : Later wr, Calls Tryd.prog 39 #[.slice (some ⟨bs, os, none⟩) S.length cs2, .int .i64 ck.x, .int .i64 ck.y] u.w fun e w' => e = .returned (.bool true) ∧ u.w = w') := Lib.hid fun u => by
                  have := spec_has2_c ck.x ck.y u.w ((H.later u).cellsRd (by omega)) (by omega)
                  rw [hhs] at this
                  exact this
                clear hnb hhs
                have hcl2 : ∀ c ∈ l.take (k + 1), sideB bi c = true → c ∈ S := fun c hc hn => by
                  rw [List.take_succ_eq_append_getElem hlk, (List.getElem?_eq_some_iff.1 HCK.out).2] at hc
                  rcases List.mem_append.1 hc with hc | hc
                  · exact HC2.out c hc hn
                  · simp at hc; subst hc; exact (HHS.out)
                have HCL2 := Lib.hid hcl2
                clear hcl2
                go_wp2_with fail
                refine wp_region_later (by kernel_rfl) (by kernel_rfl) ?_
                repeat (go_big_quiet_step (first | (go_at_call 38; exact Later.call (HNQ.out _)) | (go_at_call 39; exact Later.same (HHQ.out _))))
                refine wpQuiet_nil ?_
                intro w3 hw3
                obtain ⟨u3, hu3⟩ := hw3
                subst hu3
                have H3 := H.later u3
                clear l1 l2 l3 l4 H HNQ
                generalize u3.w = w3 at *
                go_wp2
                go_roundw
                case rel => exact ⟨k + 1, S, by omega, by go_num, HSS, HBI, HC1, HCL2, HLE, H3⟩
                case measure => simp [intOf]; omega
              · have hne : ¬ ck ∈ S := of_decide_eq_false hhs
                have hss2 := HSS.out.add (List.mem_of_getElem? HBI.out) (List.mem_of_getElem? HCK.out) hnb hne
                have HS2 := Lib.hid hss2
                have hle2 : (S ++ [ck]).length ≤ 36 := Nat.le_trans hss2.len hl36
                have hbi2 : (S ++ [ck])[n]? = some bi := by rw [List.getElem?_append_left hnl]; exact HBI.out
                have HBI2 := Lib.hid hbi2
                have hcl1 : ∀ (j : Nat) (b : Cell), j < n → (S ++ [ck])[j]? = some b → ∀ c ∈ l, sideB b c = true → c ∈ S ++ [ck] := fun j b hj hb c hc hs => by
                  rw [List.getElem?_append_left (by omega)] at hb
                  exact List.mem_append.2 (.inl (HC1.out j b hj hb c hc hs))
                have HCL1 := Lib.hid hcl1
                have hcl2 : ∀ c ∈ l.take (k + 1), sideB bi c = true → c ∈ S ++ [ck] := fun c hc hs => by
                  rw [List.take_succ_eq_append_getElem hlk, (List.getElem?_eq_some_iff.1 HCK.out).2] at hc
                  rcases List.mem_append.1 hc with hc | hc
                  · exact List.mem_append.2 (.inl (HC2.out c hc hs))
                  · exact List.mem_append.2 (.inr hc)
                have HCL2 := Lib.hid hcl2
                have HHQ : Hid (∀ u : Later wr, Calls Tryd.prog 39 #[.slice (some ⟨bs, os, none⟩) S.length cs2, .int .i64 ck.x, .int .i64 ck.y] u.w fun e w' => e = .returned (.bool false) ∧ u.w = w') := Lib.hid fun u => by
                  have := spec_has2_c ck.x ck.y u.w ((H.later u).cellsRd (by omega)) (by omega)
                  rw [hhs] at this
                  exact this
                clear hne hss2 hbi2 hcl1 hcl2 hnb hhs
                go_wp2_with fail
                refine wp_region_later (by kernel_rfl) (by kernel_rfl) ?_
                repeat (go_big_quiet_step (first | (go_at_call 38; exact Later.call (HNQ.out _)) | (go_at_call 39; exact Later.same (HHQ.out _))))
                refine wpQuiet_nil ?_
                intro w3 hw3
                obtain ⟨u3, hu3⟩ := hw3
                subst hu3
                have H3 := H.later u3
                clear l1 l2 l3 l4 H HNQ
                generalize u3.w = w3 at *
                clear HHQ
                obtain ⟨q3, q4⟩ := own_cell2 H3.h1 HCK.out
                simp only [Nat.zero_add] at q3 q4
                go_wp2_with (at_builtin; refine wpList_app rfl _ _ 49 rfl 52 i0 _ 2 16 Tryd.underlying49 hi hz0 hz1 hz2 rfl (by decide) _ _ _ rfl (H3.alloc _) _ _ _ [.int .i64 ck.x, .int .i64 ck.y] rfl (Rd.fresh w3 _ #[.int .i64 ck.x, .int .i64 ck.y] 2 1 rfl) oc2 (by unfold maxLen; omega) (by omega) ?_; intro v2 w2 H4; clear H3)
                clear q3 q4
                have H5 : Sep w w2 [Res.row v2 52 2 (S ++ [ck]).length (cc (S ++ [ck])), Res.row (.slice (some ⟨bl, 0, none⟩) l.length cl) 52 2 l.length (cc l), Res.row OV 27 2 q xs, Res.box g 27 #[.int .i64 r.w, .slice A r.rows.length c]] := by rw [cc_append, List.length_append]; exact H4
                clear H4
                go_roundw
                case rel => exact ⟨k + 1, S ++ [ck], by omega, by go_num, HS2, HBI2, HCL1, HCL2, hle2, H5⟩
                case measure => simp [intOf]; omega
            · obtain rfl : k = l.length := by omega
              have hc1 : ∀ (j : Nat) (b : Cell), j < n + 1 → S[j]? = some b → ∀ c ∈ l, sideB b c = true → c ∈ S := fun j b hj hb c hc hs => by
                by_cases e : j = n
                · subst e
                  rw [HBI.out] at hb
                  injection hb with hb
                  subst hb
                  exact HC2.out c (by rw [List.take_length]; exact hc) hs
                · exact HC1.out j b (by omega) hb c hc hs
              have HC3 := Lib.hid hc1
              clear hc1
              go_wp2
              go_roundw
              case rel => exact ⟨n + 1, S, by omega, by go_num, HSS, HC3, HLE, H⟩
              case measure => simp [intOf]; omega
        · obtain rfl : n = S.length := by omega
          have HRS : Hid (restP l a = l.filter fun c => !decide (c ∈ S)) := Lib.hid (restP_seen fun c => HSS.out.is_hang (fun j b hj => HC1.out j b (List.getElem?_eq_some_iff.1 hj).1 hj) c)
          have HSC : Hid (∀ c ∈ S, c ∈ r.cells) := Lib.hid fun c hc => HLC.out c (HSS.out.sub c hc)
          have hS1 : 1 ≤ S.length := List.length_pos_of_mem HSS.out.mem
          clear HC1 HSS hn' hlt
          obtain ⟨bs, os, cS, rfl, _, _, _⟩ := own_shape H.h0 (by omega)
          obtain ⟨rfl, _⟩ := own_blk H.h0
          have c0 : wr.cell? ⟨g, 0, none⟩ = some (.int .i64 r.w) := H.h3.cell 0
          have c1 : wr.cell? ⟨g, 1, none⟩ = some (.slice A r.rows.length c) := H.h3.cell 1
          go_wp2_with fail
          refine (l6Empty_c r.w A r.rows.length c wr (by omega)).mono ?_
          rintro e w5 ⟨gx, rfl, HF⟩
          have H2 := Sep.joinP (K := [Res.row (.slice (some ⟨gx, 0, none⟩) r.rows.length r.rows.length) 3 1 r.rows.length (ic (List.replicate r.rows.length 0))]) HF H
          simp only [List.cons_append, List.nil_append] at H2
          have H3 := H2.box 27 #[.int .i64 r.w, .slice (some ⟨gx, 0, none⟩) r.rows.length r.rows.length]
          clear HF H c0 c1 H2
          go_upto_region 14 with fail
          obtain ⟨gX, hgX⟩ : ∃ k, k = w5.heap.size := ⟨_, rfl⟩
          rw [← hgX] at H3 ⊢
          generalize w5.alloc (.cells #[.int .i64 r.w, .slice (some ⟨gx, 0, none⟩) r.rows.length r.rows.length] 27) = W5 at *
          clear hgX
          go_wp2
          go_loopw [9] (fun iv wx => ∃ (i : Nat) (L : List Int), i ≤ S.length ∧ iv = .int .i64 i ∧ Hid (L.length = r.rows.length) ∧ Sep w wx [Res.box gX 27 #[.int .i64 r.w, .slice (some ⟨gx, 0, none⟩) r.rows.length r.rows.length], Res.row (.slice (some ⟨gx, 0, none⟩) r.rows.length r.rows.length) 3 1 r.rows.length (ic L), Res.row (.slice (some ⟨bs, 0, none⟩) S.length cS) 52 2 S.length (cc S), Res.row (.slice (some ⟨bl, 0, none⟩) l.length cl) 52 2 l.length (cc l), Res.row OV 27 2 q xs, Res.box g 27 #[.int .i64 r.w, .slice A r.rows.length c]]) (fun iv _ => S.length - (intOf iv).toNat)
          case atStart => exact ⟨0, _, Nat.zero_le _, rfl, Lib.hid (List.length_replicate ..), H3⟩
          case round =>
            clear H3
            obtain ⟨i, L, hi', rfl, HLL, H⟩ := hrel
            by_cases hlt : i < S.length
            · obtain ⟨⟨cx, cy⟩, hck⟩ : ∃ ck, S[i]? = some ck := ⟨S[i], List.getElem?_eq_getElem hlt⟩
              obtain ⟨hx0, hx6, hy0, hyn⟩ := HYG.out _ (HSC.out _ (List.mem_of_getElem? hck))
              simp only at hx0 hx6 hy0 hyn
              obtain ⟨xn, rfl⟩ := Int.eq_ofNat_of_zero_le hx0
              obtain ⟨yn, rfl⟩ := Int.eq_ofNat_of_zero_le hy0
              have hyl : yn < L.length := by rw [HLL.out]; omega
              obtain ⟨u, hu⟩ : ∃ u, L[yn]? = some u := ⟨L[yn], List.getElem?_eq_getElem hyl⟩
              have HU := Lib.hid hu
              obtain ⟨q1, q2⟩ := own_cell2 H.h2 hck
              simp only [Nat.zero_add] at q1 q2
              have d1 : wr.cell? ⟨gX, 1, none⟩ = some (.slice (some ⟨gx, 0, none⟩) r.rows.length r.rows.length) := H.h0.cell 1
              have x1 := own_cell1 H.h1 hu
              rw [Nat.zero_add] at x1
              have hsh : ∃ p : Int, IntKind.i64.wrap (2 ^ xn) = p := ⟨_, rfl⟩
              obtain ⟨p, hp⟩ := hsh
              have hxi : (xn : Int) < 64 := by omega
              clear hck hu hx0 hy0
              go_wp2_with fail
              go_still_tail 24, (by kernel_rfl)
              change wpList _ _ _ _ _ wr.drew
              have H8 := H.drew
              clear H x1 q1 q2 d1
              generalize wr.drew = w8 at *
              have fr : w8.frozen? ⟨gx, yn, none⟩ = false := by
                have := own_free H8.h1 yn
                simpa using this
              have x2 : w8.cell? ⟨gx, yn, none⟩ = some (.int .i64 u) := by
                have := own_cell1 H8.h1 HU.out
                simpa using this
              have H7 := (H8.g1.setRow (j := yn) (by rw [ic_length]; exact hyl) (.int .i64 (wrap64 (u + p)))).p1
              rw [ic_set, Nat.zero_add] at H7
              have HL2 : Hid ((L.set yn (wrap64 (u + p))).length = r.rows.length) := Lib.hid (by rw [List.length_set]; exact HLL.out)
              clear H8
              go_wp2
              go_roundw
              case rel => exact ⟨i + 1, _, by omega, by go_num, HL2, H7⟩
              case measure => simp [intOf]; omega
            · obtain rfl : i = S.length := by omega
              have d0 : wr.cell? ⟨gX, 0, none⟩ = some (.int .i64 r.w) := H.h0.cell 0
              have d1 : wr.cell? ⟨gX, 1, none⟩ = some (.slice (some ⟨gx, 0, none⟩) r.rows.length r.rows.length) := H.h0.cell 1
              have H4 := H.drop.drop.g2
              clear H
              go_wp2_with (at_builtin; refine wpList_app rfl _ _ 35 rfl 27 j0 _ 2 32 Tryd.underlying35 hj hy0 hy1 hy2 rfl (by decide) _ _ _ rfl (H4.alloc _) _ _ _ [.int .i64 r.w, .slice (some ⟨gx, 0, none⟩) r.rows.length r.rows.length] rfl (Rd.fresh _ 27 #[.int .i64 r.w, .slice (some ⟨gx, 0, none⟩) r.rows.length r.rows.length] 2 1 rfl) (by intro u hu; simp at hu; rcases hu with rfl | rfl <;> rfl) (by unfold maxLen; omega) (by omega) ?_; intro v6 w6 H5; clear H4)
              have H6 := H5.rowBox 52 #[] 2 0 rfl (by decide)
              obtain ⟨gR, hgR⟩ : ∃ k, k = w6.heap.size := ⟨_, rfl⟩
              rw [← hgR] at H6
              try rw [← hgR]
              generalize w6.alloc (.cells #[] 52) = W7 at *
              generalize xs ++ [.int .i64 r.w, .slice (some ⟨gx, 0, none⟩) r.rows.length r.rows.length] = ys at *
              clear hgR H5 d0 d1
              go_wp2
              go_loopw [10, 11] (fun rv iv wx => ∃ i : Nat, i ≤ l.length ∧ iv = .int .i64 i ∧ Sep w wx [Res.row rv 52 2 ((l.take i).filter fun c => !decide (c ∈ S)).length (cc ((l.take i).filter fun c => !decide (c ∈ S))), Res.row v6 27 2 (q + 1) ys, Res.row (.slice (some ⟨bs, 0, none⟩) S.length cS) 52 2 S.length (cc S), Res.row (.slice (some ⟨bl, 0, none⟩) l.length cl) 52 2 l.length (cc l), Res.box g 27 #[.int .i64 r.w, .slice A r.rows.length c]]) (fun _ iv _ => l.length - (intOf iv).toNat)
              case atStart => exact ⟨0, Nat.zero_le _, rfl, H6⟩
              case round =>
                clear H6
                obtain ⟨i, hi', rfl, H⟩ := hrel
                by_cases hlt : i < l.length
                · obtain ⟨ck, hck⟩ : ∃ ck, l[i]? = some ck := ⟨l[i], List.getElem?_eq_getElem hlt⟩
                  have hll : bl < wr.heap.size := by
                    obtain ⟨b', o', c', e1, _, _, e2⟩ := own_shape H.h3 (by omega)
                    injection e1 with e1
                    injection e1 with e1
                    injection e1 with e1
                    omega
                  have l3 := Later.cell (own_cell2 H.h3 hck).1 hll
                  have l4 := Later.cell (own_cell2 H.h3 hck).2 hll
                  simp only [Nat.zero_add] at l3 l4
                  have hft := filt_take (f := fun c => !decide (c ∈ S)) hck
                  have HCK := Lib.hid hck
                  obtain ⟨F, hF⟩ : ∃ F, F = (l.take i).filter fun c => !decide (c ∈ S) := ⟨_, rfl⟩
                  rw [← hF] at H hft
                  have hF36 : F.length ≤ 36 := by rw [hF]; exact Nat.le_trans (List.length_filter_le _ _) (by rw [List.length_take]; omega)
                  clear hck hF
                  cases hhs : decide (ck ∈ S)
                  · simp only [hhs, Bool.not_false, if_true] at hft
                    have HFT := Lib.hid hft
                    have HHQ : Hid (∀ u : Later wr, Calls Tryd.prog 39 #[.slice (some ⟨bs, 0, none⟩) S.length cS, .int .i64 ck.x, .int .i64 ck.y] u.w fun e w' => e = .returned (.bool false) ∧ u.w = w') := Lib.hid fun u => by
                      have := spec_has2_c ck.x ck.y u.w ((H.later u).g2.cellsRd (by omega)) (by omega)
                      rw [hhs] at this
                      exact this
                    clear hft hhs
                    go_wp2_with fail
                    refine wp_region_later (by kernel_rfl) (by kernel_rfl) ?_
                    repeat (go_big_quiet_step ((go_at_call 39; exact Later.same (HHQ.out _))))
                    refine wpQuiet_nil ?_
                    intro w3 hw3
                    obtain ⟨u3, hu3⟩ := hw3
                    subst hu3
                    have H3 := H.later u3
                    clear l3 l4 H HHQ
                    generalize u3.w = w3 at *
                    obtain ⟨q3, q4⟩ := own_cell2 H3.h3 HCK.out
                    simp only [Nat.zero_add] at q3 q4
                    go_wp2_with (at_builtin; refine wpList_app rfl _ _ 49 rfl 52 i0 _ 2 16 Tryd.underlying49 hi hz0 hz1 hz2 rfl (by decide) _ _ _ rfl (H3.alloc _) _ _ _ [.int .i64 ck.x, .int .i64 ck.y] rfl (Rd.fresh w3 _ #[.int .i64 ck.x, .int .i64 ck.y] 2 1 rfl) oc2 (by unfold maxLen; omega) (by omega) ?_; intro v2 w2 H4; clear H3)
                    have H5 : Sep w w2 [Res.row v2 52 2 ((l.take (i + 1)).filter fun c => !decide (c ∈ S)).length (cc ((l.take (i + 1)).filter fun c => !decide (c ∈ S))), Res.row v6 27 2 (q + 1) ys, Res.row (.slice (some ⟨bs, 0, none⟩) S.length cS) 52 2 S.length (cc S), Res.row (.slice (some ⟨bl, 0, none⟩) l.length cl) 52 2 l.length (cc l), Res.box g 27 #[.int .i64 r.w, .slice A r.rows.length c]] := by
                      rw [HFT.out, cc_append, List.length_append]; exact H4
                    clear H4 q3 q4
                    go_roundw
                    case rel => exact ⟨i + 1, by omega, by go_num, H5⟩
                    case measure => simp [intOf]; omega
                  · simp only [hhs, Bool.not_true, Bool.false_eq_true, if_false, List.append_nil] at hft
                    have HFT := Lib.hid hft
                    have HHQ : Hid (∀ u : Later wr, Calls Tryd.prog 39 #[.slice (some ⟨bs, 0, none⟩) S.length cS, .int .i64 ck.x, .int .i64 ck.y] u.w fun e w' => e = .returned (.bool true) ∧ u.w = w') := Lib.hid fun u => by
                      have := spec_has2_c ck.x ck.y u.w ((H.later u).g2.cellsRd (by omega)) (by omega)
                      rw [hhs] at this
                      exact this
                    clear hft hhs
                    go_wp2_with fail
                    refine wp_region_later (by kernel_rfl) (by kernel_rfl) ?_
                    repeat (go_big_quiet_step ((go_at_call 39; exact Later.same (HHQ.out _))))
                    refine wpQuiet_nil ?_
                    intro w3 hw3
                    obtain ⟨u3, hu3⟩ := hw3
                    subst hu3
                    have H3 := H.later u3
                    rw [← HFT.out] at H3
                    clear l3 l4 H HHQ
                    generalize u3.w = w3 at *
                    go_wp2
                    go_roundw
                    case rel => exact ⟨i + 1, by omega, by go_num, H3⟩
                    case measure => simp [intOf]; omega
                · obtain rfl : i = l.length := by omega
                  rw [List.take_length, ← HRS.out] at H
                  have hr36 : (restP l a).length ≤ 36 := by rw [HRS.out]; exact Nat.le_trans (List.length_filter_le _ _) hl36
                  have HRN : Hid ((restP l a).Nodup) := Lib.hid (by rw [HRS.out]; exact HLN.out.filter _)
                  have HRC : Hid (∀ c ∈ restP l a, c ∈ r.cells) := Lib.hid fun c hc => by rw [HRS.out] at hc; exact HLC.out c (List.mem_filter.1 hc).1
                  have H5 := H.g2.drop.g2.drop
                  clear H
                  go_wp2
                  go_roundg (gk - 1)
                  case rel => exact ⟨q + 1, restP l a, ys, by omega, hq35, HQ2, hr36, HRN, HRC, H5⟩
                  case measure => omega
end Go.Proofs.YtoccedebiacbiaaDoor

namespace Go.Proofs.YtoccedebiacbiaaDoor
open Go.RowKit

def nbP (c : Cell) (e : Nat) : Cell := match e with
  | 0 => ⟨c.x, c.y - 1⟩
  | 1 => ⟨c.x - 1, c.y⟩
  | 2 => ⟨c.x + 1, c.y⟩
  | _ => ⟨c.x, c.y + 1⟩
theorem nbP_side {c : Cell} : ∀ e, sideB c (nbP c e) = true
  | 0 => decide_eq_true (by show (c.x - c.x) * (c.x - c.x) + (c.y - (c.y - 1)) * (c.y - (c.y - 1)) = 1; rw [show c.x - c.x = 0 by omega, show c.y - (c.y - 1) = 1 by omega]; rfl)
  | 1 => decide_eq_true (by show (c.x - (c.x - 1)) * (c.x - (c.x - 1)) + (c.y - c.y) * (c.y - c.y) = 1; rw [show c.y - c.y = 0 by omega, show c.x - (c.x - 1) = 1 by omega]; rfl)
  | 2 => decide_eq_true (by show (c.x - (c.x + 1)) * (c.x - (c.x + 1)) + (c.y - c.y) * (c.y - c.y) = 1; rw [show c.y - c.y = 0 by omega, show c.x - (c.x + 1) = -1 by omega]; rfl)
  | _ + 3 => decide_eq_true (by show (c.x - c.x) * (c.x - c.x) + (c.y - (c.y + 1)) * (c.y - (c.y + 1)) = 1; rw [show c.x - c.x = 0 by omega, show c.y - (c.y + 1) = -1 by omega]; rfl)
theorem side_nbP {c d : Cell} (hc : On c) (hd : On d) (h : sideB c d = true) : ∃ e, e < 4 ∧ d = nbP c e := by
  obtain ⟨⟨a1, a2⟩, a3, a4⟩ := hc
  obtain ⟨⟨b1, b2⟩, b3, b4⟩ := hd
  have h1 := of_decide_eq_true h
  rw [(sq_one (by omega) (by omega) (by omega) (by omega)).1] at h1
  obtain ⟨cx, cy⟩ := c
  obtain ⟨dx, dy⟩ := d
  simp only at *
  unfold mx2 at h1
  have h4 : (dx = cx ∧ dy = cy - 1) ∨ (dx = cx - 1 ∧ dy = cy) ∨ (dx = cx + 1 ∧ dy = cy) ∨ (dx = cx ∧ dy = cy + 1) := by
    split at h1 <;> split at h1 <;> omega
  rcases h4 with ⟨rfl, rfl⟩ | ⟨rfl, rfl⟩ | ⟨rfl, rfl⟩ | ⟨rfl, rfl⟩
  · exact ⟨0, by omega, rfl⟩
  · exact ⟨1, by omega, rfl⟩
  · exact ⟨2, by omega, rfl⟩
  · exact ⟨3, by omega, rfl⟩
set_option maxRecDepth 100000 in
set_option maxHeartbeats 800000 in
theorem sidesP_c (c : Cell) (w : World) (h1 : -100 ≤ c.x ∧ c.x ≤ 100) (h2 : -100 ≤ c.y ∧ c.y ≤ 100) :
    Calls Tryd.prog 52 #[.agg #[.int .i64 c.x, .int .i64 c.y]] w fun e w' => ∃ g, e = .returned (.slice (some ⟨g, 0, none⟩) 4 4) ∧ Sep w w' [Res.row (.slice (some ⟨g, 0, none⟩) 4 4) 52 2 4 (cc [nbP c 0, nbP c 1, nbP c 2, nbP c 3])] := by
  have H0 := (Sep.start w).step ((Below.refl _ _).alloc (Nat.le_refl _) (.cells #[.int .i64 c.x, .int .i64 c.y] 52))
  have H := H0.rowBox 52 #[.int .i64 c.x, .int .i64 (c.y - 1), .int .i64 (c.x - 1), .int .i64 c.y, .int .i64 (c.x + 1), .int .i64 c.y, .int .i64 c.x, .int .i64 (c.y + 1)] 2 4 rfl (by decide)
  simp only [World.size_alloc] at H
  clear H0
  go_enter Tryd.func52, Tryd.ntmps52
  go_wp2
  go_ret
  exact ⟨_, rfl, H⟩
set_option maxRecDepth 100000 in
set_option maxHeartbeats 800000 in
theorem emptyGridP_c (a : Int) (n : Nat) (w : World) (hn : n ≤ 1000) :
    Calls Tryd.prog 51 #[.int .i64 a, .int .i64 n] w fun e w' => ∃ g, e = .returned (.agg #[.int .i64 a, .slice (some ⟨g, 0, none⟩) n n]) ∧ Sep w w' [Res.row (.slice (some ⟨g, 0, none⟩) n n) 3 1 n (ic (List.replicate n 0))] := by
  obtain ⟨i0, hi, hz0, hz1, hz2⟩ := info_parts infoIntP
  have hmk := fun W => run_make_rowN (P := Tryd.prog) 22 3 i0 _ Tryd.underlying22 hi hz0 .i64 .i64 n n (Nat.le_refl _) (by rw [hz2]; omega) (by omega) W
  rw [hz1, Nat.mul_one] at hmk
  change ∀ W : World, _ = Result.ok _ (W.alloc (.cells (madeCells #[.int .i64 0] n) 3)) at hmk
  have H := ((Sep.start w).box 27 #[.int .i64 a, .slice (some ⟨w.heap.size + 1, 0, none⟩) n n]).rowBox 3 (madeCells #[.int .i64 0] n) 1 n (by rw [size_madeCells, Nat.mul_one]) (by unfold maxLen; omega)
  rw [made_intsP] at H
  simp only [World.size_alloc] at H
  go_enter Tryd.func51, Tryd.ntmps51
  go_wp2
  exact bodyPost_ret (v := .agg #[.int .i64 a, .slice (some ⟨w.heap.size + 1, 0, none⟩) n n]) (by simp [results, Tryd.results51, go_sem]) rfl ⟨_, rfl, H.drop2⟩
/-- what is left of cs -/
def leftC (cs : List Cell) (L : Reg) : List Cell := cs.filter fun c => L.has c.x c.y
/-- the remaining cells, ahead of the walk's place -/
structure LI (r : Reg) (L : Reg) (i q P : Nat) : Prop where
  vd : L.Valid
  w : L.w = r.w
  len : L.rows.length = r.rows.length
  sub : ∀ c : Cell, L.has c.x c.y = true → c ∈ r.cells
  done : ∀ (j : Nat) (c : Cell), j < i → r.cells[j]? = some c → L.has c.x c.y = false
  cnt : q + partsN (leftC r.cells L) = P
theorem LI.end_ {r L : Reg} {q P : Nat} (h : LI r L r.cells.length q P) : q = P := by
  have : leftC r.cells L = [] := by
    unfold leftC
    rw [List.filter_eq_nil_iff]
    intro c hc
    obtain ⟨j, hj, rfl⟩ := List.getElem_of_mem hc
    rw [h.done j _ hj (List.getElem?_eq_getElem hj)]
    decide
  have h2 := h.cnt
  rw [this, partsN_nil] at h2
  omega
theorem LI.skip {r L : Reg} {i q P : Nat} {c : Cell} (h : LI r L i q P) (hc : r.cells[i]? = some c) (hn : L.has c.x c.y = false) : LI r L (i + 1) q P :=
  ⟨h.vd, h.w, h.len, h.sub, fun j d hj hd => by
    by_cases e : j = i
    · subst e; rw [hc] at hd; injection hd with hd; subst hd; exact hn
    · exact h.done j d (by omega) hd, h.cnt⟩
theorem LI.head {r L : Reg} {i q P : Nat} {c : Cell} (h : LI r L i q P) (hc : r.cells[i]? = some c) (hy : L.has c.x c.y = true) : (leftC r.cells L)[0]? = some c := by
  obtain ⟨hi, hce⟩ := List.getElem?_eq_some_iff.1 hc
  have e1 : r.cells = r.cells.take i ++ (c :: r.cells.drop (i + 1)) := by
    rw [← hce, ← List.drop_eq_getElem_cons hi, List.take_append_drop]
  have e2 : (r.cells.take i).filter (fun c => L.has c.x c.y) = [] := by
    rw [List.filter_eq_nil_iff]
    intro d hd
    obtain ⟨j, hj, rfl⟩ := List.getElem_of_mem hd
    rw [List.length_take] at hj
    rw [List.getElem_take, h.done j _ (by omega) (List.getElem?_eq_getElem (by omega))]
    decide
  unfold leftC
  rw [e1, List.filter_append, e2, List.filter_cons, if_pos hy]
  rfl
/-- a part has been taken away -/
theorem LI.next {r L L2 : Reg} {i q P : Nat} {a : Cell} {T : List Cell} (h : LI r L i q P) (ha : r.cells[i]? = some a) (hy : L.has a.x a.y = true) (hv : L2.Valid) (hw : L2.w = r.w) (hl : L2.rows.length = r.rows.length)
    (hT : ∀ c, c ∈ T ↔ Hang (leftC r.cells L) a c) (hL : ∀ c : Cell, L2.has c.x c.y = true ↔ L.has c.x c.y = true ∧ ¬ c ∈ T) : LI r L2 (i + 1) (q + 1) P := by
  refine ⟨hv, hw, hl, fun c hc => h.sub c ((hL c).1 hc).1, fun j c hj hc => ?_, ?_⟩
  · cases hh : L2.has c.x c.y with
    | false => rfl
    | true =>
      have h2 := (hL c).1 hh
      by_cases e : j = i
      · subst e
        rw [ha] at hc
        injection hc with hc
        subst hc
        exact absurd ((hT a).2 Hang.base) h2.2
      · rw [h.done j c (by omega) hc] at h2
        exact absurd h2.1 (by decide)
  · have e1 : leftC r.cells L2 = restP (leftC r.cells L) a := by
      rw [restP_seen hT]
      unfold leftC
      rw [List.filter_filter]
      refine List.filter_congr fun c _ => ?_
      rw [Bool.eq_iff_iff, hL c]
      simp
      exact And.comm
    have h2 := h.cnt
    rw [partsN_step (h.head ha hy)] at h2
    rw [e1]
    omega
theorem mem_leftC {r L : Reg} {i q P : Nat} (h : LI r L i q P) {c : Cell} : c ∈ leftC r.cells L ↔ L.has c.x c.y = true := by
  unfold leftC
  rw [List.mem_filter]
  exact ⟨fun h => h.2, fun hc => ⟨h.sub c hc, hc⟩⟩
theorem flip_takes {L : Reg} {xn yn : Nat} (hx : (xn : Int) < L.w) (hy : yn < L.rows.length) (hh : L.has xn yn = true) (c : Cell) : (L.flip xn yn).has c.x c.y = true ↔ L.has c.x c.y = true ∧ ¬ c = ⟨(xn : Int), (yn : Int)⟩ := by
  rw [flip_has hx hy]
  obtain ⟨x, y⟩ := c
  simp only [Cell.mk.injEq]
  by_cases e : (xn : Int) = x ∧ (yn : Int) = y
  · obtain ⟨rfl, rfl⟩ := e
    rw [hh]
    simp
  · have e2 : (decide ((xn : Int) = x) && decide ((yn : Int) = y)) = false := by
      rw [Bool.and_eq_false_iff, decide_eq_false_iff_not, decide_eq_false_iff_not]
      omega
    have e3 : ¬ (x = xn ∧ y = yn) := fun h => e ⟨h.1.symm, h.2.symm⟩
    rw [e2, Bool.xor_false]
    simp [e3]
/-- the search inside a part -/
structure FI (r L0 L : Reg) (a : Cell) (T : List Cell) (n e : Nat) : Prop where
  sees : Sees (leftC r.cells L0) a T
  vd : L.Valid
  w : L.w = r.w
  len : L.rows.length = r.rows.length
  has : ∀ c : Cell, L.has c.x c.y = true ↔ L0.has c.x c.y = true ∧ ¬ c ∈ T
  cl : ∀ (j : Nat) (b : Cell), j < n → T[j]? = some b → ∀ c ∈ leftC r.cells L0, sideB b c = true → c ∈ T
  cur : ∀ b, T[n]? = some b → ∀ e', e' < e → nbP b e' ∈ leftC r.cells L0 → nbP b e' ∈ T
theorem has_small {r L : Reg} (hv : r.Valid) (hw : L.w = r.w) (hl : L.rows.length = r.rows.length) {c : Cell} (h : L.has c.x c.y = true) : 0 ≤ c.x ∧ c.x < 6 ∧ 0 ≤ c.y ∧ c.y < r.rows.length ∧ c.x < L.w := by
  have h1 := hasE_in h
  have h2 := hv.2.1
  rw [hl] at h1
  omega
theorem FI.start {r L : Reg} {i q P xn yn : Nat} (h : LI r L i q P) (ha : r.cells[i]? = some ⟨(xn : Int), (yn : Int)⟩) (hy : L.has xn yn = true) : FI r L (L.flip xn yn) ⟨(xn : Int), (yn : Int)⟩ [⟨(xn : Int), (yn : Int)⟩] 0 0 := by
  have hi := hasE_in hy
  have hyl : yn < L.rows.length := by omega
  refine ⟨Sees.start (h.head ha hy), Reg.flip_valid h.vd hi.2.1, h.w, by rw [Reg.flip_len]; exact h.len, fun c => ?_, fun j b hj => absurd hj (by omega), fun b hb e' he => absurd he (by omega)⟩
  rw [flip_takes hi.2.1 hyl hy, List.mem_singleton]
theorem FI.skip {r L0 L : Reg} {i q P : Nat} {a b : Cell} {T : List Cell} {n e : Nat} (h : FI r L0 L a T n e) (h0 : LI r L0 i q P) (hb : T[n]? = some b) (hn : L.has (nbP b e).x (nbP b e).y = false) : FI r L0 L a T n (e + 1) :=
  ⟨h.sees, h.vd, h.w, h.len, h.has, h.cl, fun b' hb' e' he hm => by
    rw [hb] at hb'
    injection hb' with hb'
    subst hb'
    by_cases h2 : e' = e
    · subst h2
      have h3 := (mem_leftC h0).1 hm
      rcases Classical.em (nbP b e' ∈ T) with h4 | h4
      · exact h4
      · have := (h.has _).2 ⟨h3, h4⟩
        rw [hn] at this
        cases this
    · exact h.cur b hb e' (by omega) hm⟩
theorem FI.add {r L0 L : Reg} {i q P xn yn : Nat} {a b : Cell} {T : List Cell} {n e : Nat} (h : FI r L0 L a T n e) (h0 : LI r L0 i q P) (hb : T[n]? = some b) (hd : nbP b e = ⟨(xn : Int), (yn : Int)⟩) (hy : L.has xn yn = true) : FI r L0 (L.flip xn yn) a (T ++ [⟨(xn : Int), (yn : Int)⟩]) n (e + 1) := by
  have hi := hasE_in hy
  have hyl : yn < L.rows.length := by omega
  have hh := (h.has ⟨(xn : Int), (yn : Int)⟩).1 hy
  have hbT := List.mem_of_getElem? hb
  refine ⟨h.sees.add hbT ((mem_leftC h0).2 hh.1) (by rw [← hd]; exact nbP_side e) hh.2, Reg.flip_valid h.vd hi.2.1, h.w, by rw [Reg.flip_len]; exact h.len, fun c => ?_, fun j b' hj hb' c hc hs => ?_, fun b' hb' e' he hm => ?_⟩
  · rw [flip_takes hi.2.1 hyl hy, h.has c, List.mem_append, List.mem_singleton, not_or, and_assoc]
  · have hjn : j < T.length := by have := (List.getElem?_eq_some_iff.1 hb).1; omega
    rw [List.getElem?_append_left hjn] at hb'
    exact List.mem_append.2 (.inl (h.cl j b' hj hb' c hc hs))
  · rw [List.getElem?_append_left (List.getElem?_eq_some_iff.1 hb).1, hb] at hb'
    injection hb' with hb'
    subst hb'
    by_cases h2 : e' = e
    · subst h2
      rw [hd]
      exact List.mem_append.2 (.inr (by simp))
    · exact List.mem_append.2 (.inl (h.cur b hb e' (by omega) hm))
theorem FI.next {r L0 L : Reg} {i q P : Nat} {a b : Cell} {T : List Cell} {n : Nat} (h : FI r L0 L a T n 4) (h0 : LI r L0 i q P) (hv : r.Valid) (hb : T[n]? = some b) : FI r L0 L a T (n + 1) 0 :=
  ⟨h.sees, h.vd, h.w, h.len, h.has, fun j b' hj hb' c hc hs => by
    by_cases e : j = n
    · subst e
      rw [hb] at hb'
      injection hb' with hb'
      subst hb'
      have o1 : On b := cells_on hv b (h0.sub b ((mem_leftC h0).1 (h.sees.sub b (List.mem_of_getElem? hb))))
      have o2 : On c := cells_on hv c (h0.sub c ((mem_leftC h0).1 hc))
      obtain ⟨e, he, rfl⟩ := side_nbP o1 o2 hs
      exact h.cur b hb e he hc
    · exact h.cl j b' (by omega) hb' c hc hs, fun b hb e' he => absurd he (by omega)⟩
theorem FI.end_ {r L0 L : Reg} {i q P : Nat} {a : Cell} {T : List Cell} {n : Nat} (h : FI r L0 L a T n 0) (h0 : LI r L0 i q P) (ha : r.cells[i]? = some a) (hy : L0.has a.x a.y = true) (hn : T.length ≤ n) : LI r L (i + 1) (q + 1) P :=
  h0.next ha hy h.vd h.w h.len (h.sees.is_hang fun j b hb => h.cl j b (by have := (List.getElem?_eq_some_iff.1 hb).1; omega) hb) h.has
end Go.Proofs.YtoccedebiacbiaaDoor

namespace Go.Proofs.YtoccedebiacbiaaDoor
open Go.RowKit

theorem LI.start {r : Reg} (hv : r.Valid) : LI r r 0 0 (partsN r.cells) :=
  ⟨hv, rfl, rfl, fun c hc => Reg.cells_mem.2 hc, fun j c hj => absurd hj (by omega), by
    have : leftC r.cells r = r.cells := by
      unfold leftC
      rw [List.filter_eq_self]
      exact fun c hc => Reg.cells_mem.1 hc
    rw [this, Nat.zero_add]⟩
theorem rowL_at {L : Reg} {yn : Nat} (hv : L.Valid) (hy : yn < L.rows.length) : L.rows[yn]? = some ((L.row yn : Nat) : Int) := by
  obtain ⟨u, hu⟩ : ∃ u, L.rows[yn]? = some u := ⟨L.rows[yn], List.getElem?_eq_getElem hy⟩
  rw [hu, (Reg.row_of hv hu).1]
/-- the numbers of a removal -/
theorem lf_nums {L : Reg} {xn yn : Nat} (hv : L.Valid) (hy : L.has xn yn = true) : xn < 6 ∧ yn < L.rows.length ∧ ∃ (m : Nat) (p : Int), L.rows[yn]? = some (m : Int) ∧ IntKind.i64.wrap (2 ^ xn) = p ∧ bits .andNot .i64 (m : Int) p = ((m ^^^ 2 ^ xn : Nat) : Int) ∧ (L.flip xn yn).rows = L.rows.set yn ((m ^^^ 2 ^ xn : Nat) : Int) := by
  have hi := hasE_in hy
  have h6 := hv.2.1
  have hx6 : xn < 6 := by omega
  have hyl : yn < L.rows.length := by omega
  have hp64 := Reg.two_pow_le hv
  have hm := Reg.row_lt hv yn
  have hbit : (L.row yn).testBit xn = true := by rw [← Reg.has_eq hi.2.1 hyl]; exact hy
  have h64 : 2 ^ xn ≤ 64 := Nat.le_trans (Nat.pow_le_pow_right (by decide) (show xn ≤ 6 by omega)) (by decide)
  refine ⟨hx6, hyl, L.row yn, ((2 ^ xn : Nat) : Int), rowL_at hv hyl, ?_, ?_, rfl⟩
  · have e2 : ((2 : Int) ^ xn) = ((2 ^ xn : Nat) : Int) := by simp
    rw [e2]
    clear e2
    generalize 2 ^ xn = p2 at *
    exact IntWalk.i64_in _ (by omega)
  · rw [i64_andNot_nat (L.row yn) (2 ^ xn) (by omega) (by omega)]
    have := andNot_small (L.row yn) (by omega) xn hx6 hbit
    rw [show (2 : Nat) ^ 64 = 18446744073709551616 from rfl, this]
theorem QI.of_rowP {w : World} {lo sz n g0 c0 : Nat} {e : TypeId} {xs : List Value} (h : w.ownsRow lo e sz (.slice (some ⟨g0, 0, none⟩) n c0) n xs) : QI w lo e sz (.slice (some ⟨g0, 0, none⟩) n c0) n xs := by
  refine ⟨h.1, ?_⟩
  rcases h.2 with ⟨h0, _⟩ | ⟨g, cap, cur, he, hbg, hgg, h1, h2, h3, h4⟩
  · cases h0
  · right
    refine ⟨g, 0, cap, cur, he, hbg, hgg, h1, h2, by omega, fun j u hu => ?_⟩
    rw [← h4, List.getElem?_take] at hu
    split at hu
    · rw [Nat.zero_add, ← Array.getElem?_toList]; exact hu
    · cases hu
theorem rd_left {w0 W : World} {Ls : List Res} {L r : Reg} {bL cL : Nat} (H : Sep w0 W (Res.row (.slice (some ⟨bL, 0, none⟩) r.rows.length cL) 3 1 r.rows.length (ic L.rows) :: Ls)) (hw : L.w = r.w) (hl : L.rows.length = r.rows.length) :
    RegRd W 0 W.heap.size (.agg #[.int .i64 r.w, .slice (some ⟨bL, 0, none⟩) r.rows.length cL]) L := by
  refine ⟨_, by rw [hw], ?_⟩
  rw [← hl] at H ⊢
  have h1 : IntsIn W w0.heap.size W.heap.size (.slice (some ⟨bL, 0, none⟩) L.rows.length cL) L.rows := H.oi
  exact (IntsIn.rd h1).more (Nat.zero_le _) (Nat.le_refl _)
set_option maxRecDepth 100000 in
set_option maxHeartbeats 6400000 in
theorem impl_parts_c {v : Value} {r : Reg} (w : World) (h : RegRd w 0 w.heap.size v r) (hv : r.Valid) :
    Calls Tryd.prog 26 #[v] w fun e w' => ∃ A c, e = .returned (.slice A (partsN r.cells) c) ∧ Below w.heap.size w w' := by
  obtain ⟨i0, hi, hz0, hz1, hz2⟩ := info_parts infoCellP
  obtain ⟨j0, hj, hy0, hy1, hy2⟩ := info_parts infoRegP
  have HRD : Hid (∀ w1, Below w.heap.size w w1 → RegRd w1 0 w1.heap.size v r) := Lib.hid fun w1 b1 => (h.keep (SameIn.of_below b1 (Nat.le_refl _))).more (Nat.le_refl _) b1.size
  have HV := Lib.hid hv
  obtain ⟨s, rfl, hs⟩ := h
  obtain ⟨A, c, rfl, _, _⟩ := hs
  have hC36 : r.cells.length ≤ 36 := by rw [← cells_maskN hv]; exact cellsTo_lenR 36
  have HYG : Hid (∀ c ∈ r.cells, 0 ≤ c.x ∧ c.x < 6 ∧ 0 ≤ c.y ∧ c.y < r.rows.length) := Lib.hid fun c hc => by
    have h1 := hasE_in (Reg.cells_mem.1 hc)
    have h2 := hv.2.1
    omega
  have hn6 : r.rows.length ≤ 6 := hv.2.2.2.1
  obtain ⟨P, hP⟩ : ∃ P, P = partsN r.cells := ⟨_, rfl⟩
  have HL0 : Hid (LI r r 0 0 P) := Lib.hid (by rw [hP]; exact LI.start hv)
  rw [← hP]
  have H0 := (Sep.start w).box 27 #[.int .i64 r.w, .slice A r.rows.length c]
  obtain ⟨g, hg⟩ : ∃ g, g = w.heap.size := ⟨_, rfl⟩
  rw [← hg] at H0
  clear hv hP
  go_enter Tryd.func26, Tryd.ntmps26
  go_upto_region 1 with fail
  rw [← hg]
  generalize (w.alloc (.cells #[.int .i64 r.w, .slice A r.rows.length c] 27)) = W at *
  clear hg
  have c0 : W.cell? ⟨g, 0, none⟩ = some (.int .i64 r.w) := H0.h0.cell 0
  have c1 : W.cell? ⟨g, 1, none⟩ = some (.slice A r.rows.length c) := H0.h0.cell 1
  have HIR := Lib.hid (impl_IsRegion_c W (HRD.out W H0.below))
  rw [Reg.valid_iff.2 HV.out] at HIR
  go_wp2_with fail
  refine (HIR.out).mono ?_
  rintro e w1 ⟨rfl, b1⟩
  have H1 := H0.step b1
  clear c0 c1 H0 b1 HIR
  have c0 : w1.cell? ⟨g, 0, none⟩ = some (.int .i64 r.w) := H1.h0.cell 0
  have c1 : w1.cell? ⟨g, 1, none⟩ = some (.slice A r.rows.length c) := H1.h0.cell 1
  have HCR := Lib.hid (impl_copyRegion_c w1 (HRD.out w1 H1.below) (by omega))
  go_wp2_with fail
  refine (HCR.out).mono ?_
  rintro e w2 ⟨vL, rfl, ⟨sL, rfl, oL⟩, b2⟩
  have H2 := H1.oiNew b2 oL
  clear c0 c1 H1 b2 HCR oL
  obtain ⟨AL, cL, rfl, _, _, _⟩ := Res.row_at H2.h0
  have hn1 : 1 ≤ r.rows.length := HV.out.2.2.1
  obtain ⟨bL, oL, cL', hs1, _, _, _⟩ := own_shape H2.h0 (by omega)
  injection hs1 with hs2 hs3 hs4
  subst hs2 hs4
  obtain ⟨rfl, _⟩ := own_blk H2.h0
  have H3 := H2.box 27 #[.int .i64 r.w, .slice (some ⟨bL, 0, none⟩) r.rows.length cL]
  clear H2
  go_upto_region 4 with fail
  obtain ⟨gL, hgL⟩ : ∃ k, k = w2.heap.size := ⟨_, rfl⟩
  rw [← hgL] at H3 ⊢
  generalize w2.alloc (.cells #[.int .i64 r.w, .slice (some ⟨bL, 0, none⟩) r.rows.length cL] 27) = W3 at *
  clear hgL
  have c0 : W3.cell? ⟨g, 0, none⟩ = some (.int .i64 r.w) := H3.h2.cell 0
  have c1 : W3.cell? ⟨g, 1, none⟩ = some (.slice A r.rows.length c) := H3.h2.cell 1
  have HCE := Lib.hid (impl_cells_cV W3 (HRD.out W3 H3.below) HV.out)
  go_wp2_with fail
  refine (HCE.out).mono ?_
  rintro e w4 ⟨vC, rfl, oC, b4⟩
  have H4 := ((H3.oiNew b4 oC).p2).nil 27 2
  clear H3 HCE oC b4 c0 c1
  obtain ⟨C, hC⟩ : ∃ C, C = r.cells := ⟨_, rfl⟩
  have HC := Lib.hid hC
  rw [← hC] at H4 hC36
  obtain ⟨n, hn⟩ : ∃ n, n = C.length := ⟨_, rfl⟩
  have HCN := Lib.hid hn
  rw [← hn] at H4 hC36
  obtain ⟨AC, cC, hvC, hnc, _, _⟩ := Res.row_at H4.h3
  subst hvC
  clear hC hn
  go_wp2
  go_loopw [4, 20] (fun ov iv wx => ∃ (i q : Nat) (xs : List Value) (L : Reg), i ≤ n ∧ iv = .int .i64 i ∧ q ≤ i ∧ Hid (LI r L i q P) ∧ Sep w wx [Res.row ov 27 2 q xs, Res.box gL 27 #[.int .i64 r.w, .slice (some ⟨bL, 0, none⟩) r.rows.length cL], Res.row (.slice (some ⟨bL, 0, none⟩) r.rows.length cL) 3 1 r.rows.length (ic L.rows), Res.row (.slice AC n cC) 52 2 n (cc C), Res.box g 27 #[.int .i64 r.w, .slice A r.rows.length c]]) (fun _ iv _ => n - (intOf iv).toNat)
  case atStart => exact ⟨0, 0, [], r, Nat.zero_le _, rfl, Nat.le_refl _, HL0, H4⟩
  case round =>
    clear H4 HL0
    obtain ⟨i, q, xs, L, hin, rfl, hqi, HLI, H⟩ := hrel
    by_cases hlt : i < n
    · have hlti : (i : Int) < (n : Int) := by omega
      obtain ⟨⟨cx, cy⟩, hck⟩ : ∃ ck, C[i]? = some ck := ⟨C[i]'(by rw [← HCN.out]; exact hlt), List.getElem?_eq_getElem _⟩
      obtain ⟨hx0, hx6, hy0', hyn⟩ := HYG.out _ (by rw [← HC.out]; exact List.mem_of_getElem? hck)
      simp only at hx0 hx6 hy0' hyn
      obtain ⟨xn, rfl⟩ := Int.eq_ofNat_of_zero_le hx0
      obtain ⟨yn, rfl⟩ := Int.eq_ofNat_of_zero_le hy0'
      have HCK : Hid (r.cells[i]? = some (⟨(xn : Int), (yn : Int)⟩ : Cell)) := Lib.hid (by rw [← HC.out]; exact hck)
      obtain ⟨gC, oC, cC', hs1, _, _, _⟩ := own_shape H.h3 (by omega)
      injection hs1 with hs2 hs3 hs4
      subst hs2 hs4
      obtain ⟨rfl, _⟩ := own_blk H.h3
      obtain ⟨q1, q2⟩ := own_cell2 H.h3 hck
      simp only [Nat.zero_add] at q1 q2
      have H1 := H.box 52 #[.int .i64 (xn : Int), .int .i64 (yn : Int)]
      clear hck hx0 hy0'
      go_upto_region 8 with fail
      obtain ⟨gc, hgc⟩ : ∃ k, k = wr.heap.size := ⟨_, rfl⟩
      rw [← hgc] at H1 ⊢
      generalize wr.alloc (.cells #[.int .i64 (xn : Int), .int .i64 (yn : Int)] 52) = W5 at *
      clear hgc q1 q2 H
      have HHS := Lib.hid (impl_has_c (xn : Int) (yn : Int) W5 (rd_left H1.g3 HLI.out.w HLI.out.len) HLI.out.vd)
      have d0 : W5.cell? ⟨gL, 0, none⟩ = some (.int .i64 r.w) := H1.h2.cell 0
      have d1 : W5.cell? ⟨gL, 1, none⟩ = some (.slice (some ⟨bL, 0, none⟩) r.rows.length cL) := H1.h2.cell 1
      have k0 : W5.cell? ⟨gc, 0, none⟩ = some (.int .i64 (xn : Int)) := H1.h0.cell 0
      have k1 : W5.cell? ⟨gc, 1, none⟩ = some (.int .i64 (yn : Int)) := H1.h0.cell 1
      go_wp2_with fail
      refine (HHS.out).mono ?_
      rintro e W6 ⟨rfl, b6⟩
      have H2 := H1.step b6
      clear HHS b6 H1 d0 d1 k0 k1
      cases hhs : L.has (xn : Int) (yn : Int)
      · have HL2 : Hid (LI r L (i + 1) q P) := Lib.hid (HLI.out.skip HCK.out hhs)
        have H3 := H2.drop
        clear H2 hhs
        go_wp2
        go_roundw
        case rel => exact ⟨i + 1, q, xs, L, by omega, by go_num, by omega, HL2, H3⟩
        case measure => simp [intOf]; omega
      · have HHY := Lib.hid hhs
        have HFI : Hid (FI r L (L.flip xn yn) ⟨(xn : Int), (yn : Int)⟩ [⟨(xn : Int), (yn : Int)⟩] 0 0) := Lib.hid (FI.start HLI.out HCK.out hhs)
        obtain ⟨hx6', hyl, m, p, hm, hp, hva, hfr⟩ := lf_nums HLI.out.vd hhs
        rw [HLI.out.len] at hyl
        have c0 : W6.cell? ⟨g, 0, none⟩ = some (.int .i64 r.w) := H2.h5.cell 0
        have c1 : W6.cell? ⟨g, 1, none⟩ = some (.slice A r.rows.length c) := H2.h5.cell 1
        go_wp2_with fail
        refine (emptyGridP_c r.w r.rows.length W6 (by omega)).mono ?_
        rintro e W7 ⟨gp, rfl, HF⟩
        have H3 := Sep.joinP (K := [Res.row (.slice (some ⟨gp, 0, none⟩) r.rows.length r.rows.length) 3 1 r.rows.length (ic (List.replicate r.rows.length 0))]) HF H2
        simp only [List.cons_append, List.nil_append] at H3
        have H4 := H3.box 27 #[.int .i64 r.w, .slice (some ⟨gp, 0, none⟩) r.rows.length r.rows.length]
        clear HF H2 c0 c1 H3 hhs
        go_upto_region 10 with fail
        obtain ⟨gP, hgP⟩ : ∃ k, k = W7.heap.size := ⟨_, rfl⟩
        rw [← hgP] at H4 ⊢
        generalize W7.alloc (.cells #[.int .i64 r.w, .slice (some ⟨gp, 0, none⟩) r.rows.length r.rows.length] 27) = W8 at *
        clear hgP
        obtain ⟨OV, hOV⟩ : ∃ OV, OV = u4 := ⟨_, rfl⟩
        rw [← hOV] at H4 ⊢
        clear hOV
        have d1 : W8.cell? ⟨gL, 1, none⟩ = some (.slice (some ⟨bL, 0, none⟩) r.rows.length cL) := H4.h4.cell 1
        have k0 : W8.cell? ⟨gc, 0, none⟩ = some (.int .i64 (xn : Int)) := H4.h2.cell 0
        have k1 : W8.cell? ⟨gc, 1, none⟩ = some (.int .i64 (yn : Int)) := H4.h2.cell 1
        have x1 := own_cell1 H4.h5 hm
        rw [Nat.zero_add] at x1
        have hxi : (xn : Int) < 64 := by omega
        have HM := Lib.hid hm
        have HFR := Lib.hid hfr
        clear hm hfr
        go_wp2_with fail
        go_still_tail 11, (by kernel_rfl)
        change wpList _ _ _ _ _ W8.drew
        have H8 := H4.g5.drew
        clear H4 d1 k0 k1 x1
        generalize W8.drew = w8 at *
        have fr : w8.frozen? ⟨bL, yn, none⟩ = false := by
          have := own_free H8.h0 yn
          simpa using this
        have x2 : w8.cell? ⟨bL, yn, none⟩ = some (.int .i64 (m : Int)) := by
          have := own_cell1 H8.h0 HM.out
          simpa using this
        have hyl2 : yn < L.rows.length := by rw [HLI.out.len]; exact hyl
        have H7 := H8.setRow (j := yn) (by rw [ic_length]; exact hyl2) (.int .i64 ((m ^^^ 2 ^ xn : Nat) : Int))
        rw [ic_set, Nat.zero_add, ← HFR.out] at H7
        clear H8
        have k0 : (w8.setCell ⟨bL, yn, none⟩ (.int .i64 ((m ^^^ 2 ^ xn : Nat) : Int))).cell? ⟨gc, 0, none⟩ = some (.int .i64 (xn : Int)) := H7.h3.cell 0
        have k1 : (w8.setCell ⟨bL, yn, none⟩ (.int .i64 ((m ^^^ 2 ^ xn : Nat) : Int))).cell? ⟨gc, 1, none⟩ = some (.int .i64 (yn : Int)) := H7.h3.cell 1
        generalize m ^^^ 2 ^ xn = m2 at *
        obtain ⟨L1, hL1⟩ : ∃ L1, L1 = L.flip xn yn := ⟨_, rfl⟩
        rw [← hL1] at H7 HFI
        go_upto_region 11 with fail
        generalize w8.setCell ⟨bL, yn, none⟩ (.int .i64 (m2 : Int)) = w9 at *
        clear fr x2 hp hva hL1 HFR HM
        have H5 := (H7.g3.drop.g4).rowBox 52 #[.int .i64 (xn : Int), .int .i64 (yn : Int)] 2 1 rfl (by decide)
        have H6 := H5.say (r' := Res.que (.slice (some ⟨w9.heap.size, 0, none⟩) 1 1) 52 2 1 (cc [(⟨(xn : Int), (yn : Int)⟩ : Cell)])) (fun h => QI.of_rowP h) (fun _ h => h)
        clear H5 H7
        go_wp2
        generalize w9.alloc (.cells #[.int .i64 (xn : Int), .int .i64 (yn : Int)] 52) = W1 at *
        clear k0 k1
        go_loopg [8] 37 (fun gk qv wx => ∃ (n1 : Nat) (T Q : List Cell) (L1 : Reg) (X : List Int), gk + n1 = 37 ∧ n1 ≤ T.length ∧ T.length ≤ 36 ∧ Hid (Q = T.drop n1) ∧ Hid (FI r L L1 ⟨(xn : Int), (yn : Int)⟩ T n1 0) ∧ Hid (X.length = r.rows.length) ∧ Sep w wx [Res.que qv 52 2 Q.length (cc Q), Res.box gL 27 #[.int .i64 r.w, .slice (some ⟨bL, 0, none⟩) r.rows.length cL], Res.row (.slice (some ⟨bL, 0, none⟩) r.rows.length cL) 3 1 r.rows.length (ic L1.rows), Res.box gP 27 #[.int .i64 r.w, .slice (some ⟨gp, 0, none⟩) r.rows.length r.rows.length], Res.row (.slice (some ⟨gp, 0, none⟩) r.rows.length r.rows.length) 3 1 r.rows.length (ic X), Res.row OV 27 2 q xs, Res.row (.slice (some ⟨gC, 0, none⟩) n cC) 52 2 n (cc C), Res.box g 27 #[.int .i64 r.w, .slice A r.rows.length c]])
        case atStart => exact ⟨0, [⟨(xn : Int), (yn : Int)⟩], [⟨(xn : Int), (yn : Int)⟩], L1, _, rfl, by simp, by simp, Lib.hid rfl, HFI, Lib.hid (List.length_replicate ..), H6⟩
        case round =>
          clear H6 HFI
          obtain ⟨n1, T, Q, L1, X, hgk, hnT, hT, HQ, HFI, HXL, H⟩ := hrel
          cases Q with
          | nil =>
            have hTn : T.length ≤ n1 := by
              have := congrArg List.length HQ.out
              rw [List.length_drop] at this
              simp at this
              omega
            have HL2 : Hid (LI r L1 (i + 1) (q + 1) P) := Lib.hid (HFI.out.end_ HLI.out HCK.out HHY.out hTn)
            obtain ⟨Aq, cq, rfl⟩ := QI.shape H.h0
            have H2 := H.drop.g4
            have d0 : wr.cell? ⟨gP, 0, none⟩ = some (.int .i64 r.w) := H2.h3.cell 0
            have d1 : wr.cell? ⟨gP, 1, none⟩ = some (.slice (some ⟨gp, 0, none⟩) r.rows.length r.rows.length) := H2.h3.cell 1
            clear H
            go_wp2_with (at_builtin; refine wpList_app rfl _ _ 35 rfl 27 j0 _ 2 32 Tryd.underlying35 hj hy0 hy1 hy2 rfl (by decide) _ _ _ rfl (H2.alloc _) _ _ _ [.int .i64 r.w, .slice (some ⟨gp, 0, none⟩) r.rows.length r.rows.length] rfl (Rd.fresh _ 27 #[.int .i64 r.w, .slice (some ⟨gp, 0, none⟩) r.rows.length r.rows.length] 2 1 rfl) (by intro u hu; simp at hu; rcases hu with rfl | rfl <;> rfl) (by unfold maxLen; omega) (by omega) ?_; intro v6 w6 H5; clear H2)
            have H6 := H5.g3.drop.g3.drop
            clear H5 d0 d1
            go_wp2
            go_roundw
            case rel => exact ⟨i + 1, q + 1, _, L1, by omega, by go_num, by omega, HL2, H6⟩
            case measure => simp [intOf]; omega
          | cons dq Q =>
            have hTc : T[n1]? = some dq := by
              have := congrArg (fun l => l[0]?) HQ.out
              simp only [List.getElem?_cons_zero, List.getElem?_drop, Nat.add_zero] at this
              exact this.symm
            have hnT2 : n1 < T.length := (List.getElem?_eq_some_iff.1 hTc).1
            have HQ2 : Hid (Q = T.drop (n1 + 1)) := Lib.hid (by
              have := congrArg List.tail HQ.out
              rw [List.tail_cons, List.tail_drop] at this
              exact this)
            obtain ⟨dx, dy⟩ := dq
            obtain ⟨hdx0, hdx6, hdy0, hdyn⟩ := HYG.out _ (HLI.out.sub _ ((mem_leftC HLI.out).1 (HFI.out.sees.sub _ (List.mem_of_getElem? hTc))))
            simp only at hdx0 hdx6 hdy0 hdyn
            obtain ⟨un, rfl⟩ := Int.eq_ofNat_of_zero_le hdx0
            obtain ⟨vn, rfl⟩ := Int.eq_ofNat_of_zero_le hdy0
            have HTC := Lib.hid hTc
            obtain ⟨cd, hcd⟩ : ∃ cd : Cell, cd = ⟨(un : Int), (vn : Int)⟩ := ⟨_, rfl⟩
            have HCD := Lib.hid hcd
            have hql : ((⟨(un : Int), (vn : Int)⟩ : Cell) :: Q).length = Q.length + 1 := rfl
            rw [hql] at H
            have hQ36 : Q.length ≤ 36 := by rw [HQ2.out, List.length_drop]; omega
            obtain ⟨gq, oq, capq, csq, hqv, _, hbq, hnc', hcm, _, hcells⟩ := QI.at_ H.h0 (by omega)
            subst hqv
            have k0 : wr.cell? ⟨gq, oq, none⟩ = some (.int .i64 (un : Int)) := hcells 0 _ rfl
            have k1 : wr.cell? ⟨gq, oq + 1, none⟩ = some (.int .i64 (vn : Int)) := hcells 1 _ rfl
            have H1 := H.box 52 #[.int .i64 (un : Int), .int .i64 (vn : Int)]
            obtain ⟨gd, hgd⟩ : ∃ gd, gd = wr.heap.size := ⟨_, rfl⟩
            rw [← hgd] at H1
            have HQX : Hid (QI (wr.alloc (.cells #[.int .i64 (un : Int), .int .i64 (vn : Int)] 52)) 0 52 2 (.slice (some ⟨gq, oq, none⟩) (Q.length + 1) capq) (Q.length + 1) (cc ((⟨(un : Int), (vn : Int)⟩ : Cell) :: Q))) := Lib.hid H1.h1
            have hd0 : decide ((0 : Int) < ((Q.length + 1 : Nat) : Int)) = true := decide_eq_true (by omega)
            have hd1 : decide ((0 : Int) < (Q.length : Int) + 1) = true := decide_eq_true (by omega)
            clear hTc hql hcells hbq H hcd hdx0 hdy0 HQ
            go_wp2_with (refine wpList_tail_q _ rfl _ 49 rfl 0 52 i0 2 Tryd.underlying49 hi hz1 (by decide) gq oq Q.length capq _ rfl hnc' HQX.out ?_; clear HQX; intro tv hq2 htv)
            clear k0 k1 hd0 hd1
            have H2 := H1.g1.say (r' := Res.que tv 52 2 Q.length (cc Q)) (fun _ => hq2) (fun b hb => by
              have hb : tv.ownBlock = some b := hb
              rw [htv] at hb
              exact hb)
            clear H1 hq2 htv
            generalize wr.alloc (.cells #[.int .i64 (un : Int), .int .i64 (vn : Int)] 52) = W2 at *
            rw [← hgd]
            clear hgd
            have hvl : vn < X.length := by rw [HXL.out]; omega
            obtain ⟨u, hu⟩ : ∃ u, X[vn]? = some u := ⟨X[vn], List.getElem?_eq_getElem hvl⟩
            have HU := Lib.hid hu
            have d1 : W2.cell? ⟨gP, 1, none⟩ = some (.slice (some ⟨gp, 0, none⟩) r.rows.length r.rows.length) := H2.h4.cell 1
            have k0 : W2.cell? ⟨gd, 0, none⟩ = some (.int .i64 (un : Int)) := H2.h1.cell 0
            have k1 : W2.cell? ⟨gd, 1, none⟩ = some (.int .i64 (vn : Int)) := H2.h1.cell 1
            have x1 := own_cell1 H2.h5 hu
            rw [Nat.zero_add] at x1
            obtain ⟨p, hp⟩ : ∃ p : Int, IntKind.i64.wrap (2 ^ un) = p := ⟨_, rfl⟩
            have hui : (un : Int) < 64 := by omega
            clear hu
            go_wp2_with fail
            go_still_tail 11, (by kernel_rfl)
            change wpList _ _ _ _ _ W2.drew
            have H8 := H2.g5.drew
            clear H2 d1 k0 k1 x1
            generalize W2.drew = w8 at *
            have fr : w8.frozen? ⟨gp, vn, none⟩ = false := by
              have := own_free H8.h0 vn
              simpa using this
            have x2 : w8.cell? ⟨gp, vn, none⟩ = some (.int .i64 u) := by
              have := own_cell1 H8.h0 HU.out
              simpa using this
            have H7 := (H8.setRow (j := vn) (by rw [ic_length]; exact hvl) (.int .i64 (bits .or .i64 u p))).p5
            rw [ic_set, Nat.zero_add] at H7
            obtain ⟨X2, hX2⟩ : ∃ X2, X2 = X.set vn (bits .or .i64 u p) := ⟨_, rfl⟩
            rw [← hX2] at H7
            have HXL2 : Hid (X2.length = r.rows.length) := Lib.hid (by rw [hX2, List.length_set]; exact HXL.out)
            have k0 : (w8.setCell ⟨gp, vn, none⟩ (.int .i64 (bits .or .i64 u p))).cell? ⟨gd, 0, none⟩ = some (.int .i64 (un : Int)) := H7.h1.cell 0
            have k1 : (w8.setCell ⟨gp, vn, none⟩ (.int .i64 (bits .or .i64 u p))).cell? ⟨gd, 1, none⟩ = some (.int .i64 (vn : Int)) := H7.h1.cell 1
            clear H8 hX2
            go_wp2_with fail
            generalize w8.setCell ⟨gp, vn, none⟩ (.int .i64 (bits .or .i64 u p)) = W4 at *
            clear fr x2 hp k0 k1
            have hcs := sidesP_c cd W4 (by rw [HCD.out]; simp only; omega) (by rw [HCD.out]; simp only; omega)
            rw [show (Value.agg #[.int .i64 cd.x, .int .i64 cd.y]) = .agg #[.int .i64 (un : Int), .int .i64 (vn : Int)] by rw [HCD.out]] at hcs
            refine (hcs).mono ?_
            rintro e W5' ⟨gs, rfl, HF⟩
            have H3 := (Sep.joinP (K := [Res.row (.slice (some ⟨gs, 0, none⟩) 4 4) 52 2 4 (cc [nbP cd 0, nbP cd 1, nbP cd 2, nbP cd 3])]) HF H7)
            simp only [List.cons_append, List.nil_append] at H3
            have H3 := H3.p1.g2.drop
            have HTC2 : Hid (T[n1]? = some cd) := Lib.hid (by rw [HCD.out]; exact HTC.out)
            have HFI0 : Hid (FI r L L1 ⟨(xn : Int), (yn : Int)⟩ T n1 0) := HFI
            have HCB : Hid (0 ≤ cd.x ∧ cd.x < 6 ∧ 0 ≤ cd.y ∧ cd.y < 6) := Lib.hid (by rw [HCD.out]; simp only; omega)
            clear hcs HF H7 HCD HTC HFI hdx6 hdyn hvl HU hui
            go_wp2
            go_loopw [8, 72] (fun qv ev wx => ∃ (e : Nat) (T Q : List Cell) (L1 : Reg), e ≤ 4 ∧ ev = .int .i64 e ∧ n1 < T.length ∧ T.length ≤ 36 ∧ Hid (T[n1]? = some cd) ∧ Hid (Q = T.drop (n1 + 1)) ∧ Q.length ≤ 36 ∧ Hid (FI r L L1 ⟨(xn : Int), (yn : Int)⟩ T n1 e) ∧ Sep w wx [Res.que qv 52 2 Q.length (cc Q), Res.row (.slice (some ⟨gs, 0, none⟩) 4 4) 52 2 4 (cc [nbP cd 0, nbP cd 1, nbP cd 2, nbP cd 3]), Res.box gL 27 #[.int .i64 r.w, .slice (some ⟨bL, 0, none⟩) r.rows.length cL], Res.row (.slice (some ⟨bL, 0, none⟩) r.rows.length cL) 3 1 r.rows.length (ic L1.rows), Res.box gP 27 #[.int .i64 r.w, .slice (some ⟨gp, 0, none⟩) r.rows.length r.rows.length], Res.row (.slice (some ⟨gp, 0, none⟩) r.rows.length r.rows.length) 3 1 r.rows.length (ic X2), Res.row OV 27 2 q xs, Res.row (.slice (some ⟨gC, 0, none⟩) n cC) 52 2 n (cc C), Res.box g 27 #[.int .i64 r.w, .slice A r.rows.length c]]) (fun _ ev _ => 4 - (intOf ev).toNat)
            case atStart => exact ⟨0, T, Q, L1, by omega, rfl, hnT2, hT, HTC2, HQ2, hQ36, HFI0, H3⟩
            case round =>
              clear H3 hnT2 hT HTC2 HQ2 hQ36 HFI0 hnT
              obtain ⟨e, T, Q, L1, he4, rfl, hnT, hT, HTC, HQ, hQ36, HFI, H⟩ := hrel
              by_cases hlt : e < 4
              · obtain ⟨⟨X, Y⟩, hnb⟩ : ∃ nb, nb = nbP cd e := ⟨_, rfl⟩
                have hat : [nbP cd 0, nbP cd 1, nbP cd 2, nbP cd 3][e]? = some (⟨X, Y⟩ : Cell) := by
                  rw [hnb]
                  have h4 : e = 0 ∨ e = 1 ∨ e = 2 ∨ e = 3 := by omega
                  rcases h4 with rfl | rfl | rfl | rfl <;> rfl
                have HNB := Lib.hid hnb
                obtain ⟨q1, q2⟩ := own_cell2 H.h1 hat
                simp only [Nat.zero_add] at q1 q2
                have H1 := H.box 52 #[.int .i64 X, .int .i64 Y]
                obtain ⟨ge, hge⟩ : ∃ ge, ge = wr.heap.size := ⟨_, rfl⟩
                rw [← hge] at H1
                obtain ⟨Aq, cq, rfl⟩ := QI.shape H.h0
                clear hnb hat H
                go_upto_region 19 with fail
                generalize wr.alloc (.cells #[.int .i64 X, .int .i64 Y] 52) = W6' at *
                rw [← hge]
                clear q1 q2 hge
                have HHS := Lib.hid (impl_has_c X Y W6' (rd_left H1.g4 HFI.out.w HFI.out.len) HFI.out.vd)
                have d0 : W6'.cell? ⟨gL, 0, none⟩ = some (.int .i64 r.w) := H1.h3.cell 0
                have d1 : W6'.cell? ⟨gL, 1, none⟩ = some (.slice (some ⟨bL, 0, none⟩) r.rows.length cL) := H1.h3.cell 1
                have k0 : W6'.cell? ⟨ge, 0, none⟩ = some (.int .i64 X) := H1.h0.cell 0
                have k1 : W6'.cell? ⟨ge, 1, none⟩ = some (.int .i64 Y) := H1.h0.cell 1
                go_wp2_with fail
                refine (HHS.out).mono ?_
                rintro e' W7' ⟨rfl, b7⟩
                have H2 := H1.step b7
                clear HHS b7 H1 d0 d1 k0 k1
                cases hhs : L1.has X Y
                · have HF2 : Hid (FI r L L1 ⟨(xn : Int), (yn : Int)⟩ T n1 (e + 1)) := Lib.hid (HFI.out.skip HLI.out HTC.out (by rw [← HNB.out]; exact hhs))
                  have H3 := H2.drop
                  clear H2 hhs
                  go_wp2
                  go_roundw
                  case rel => exact ⟨e + 1, T, Q, L1, by omega, by go_num, hnT, hT, HTC, HQ, hQ36, HF2, H3⟩
                  case measure => simp [intOf]; omega
                · obtain ⟨z1, z2, z3, z4⟩ := hasE_in hhs
                  obtain ⟨u, rfl⟩ := Int.eq_ofNat_of_zero_le z1
                  obtain ⟨v, rfl⟩ := Int.eq_ofNat_of_zero_le z3
                  obtain ⟨hu6, hvl, m, p, hm, hp, hva, hfr⟩ := lf_nums HFI.out.vd hhs
                  have HADD := Lib.hid (HFI.out.add HLI.out HTC.out HNB.out.symm hhs)
                  rw [HFI.out.len] at z4
                  clear z1 z2 z3 hhs
                  have d1 : W7'.cell? ⟨gL, 1, none⟩ = some (.slice (some ⟨bL, 0, none⟩) r.rows.length cL) := H2.h3.cell 1
                  have k0 : W7'.cell? ⟨ge, 0, none⟩ = some (.int .i64 (u : Int)) := H2.h0.cell 0
                  have k1 : W7'.cell? ⟨ge, 1, none⟩ = some (.int .i64 (v : Int)) := H2.h0.cell 1
                  have x1 := own_cell1 H2.h4 hm
                  rw [Nat.zero_add] at x1
                  have hui : (u : Int) < 64 := by omega
                  have HM := Lib.hid hm
                  have HFR := Lib.hid hfr
                  have hvr : v < r.rows.length := by omega
                  clear hm hfr
                  go_wp2_with fail
                  go_still_tail 11, (by kernel_rfl)
                  change wpList _ _ _ _ _ W7'.drew
                  have H8 := H2.g4.drew
                  clear H2 d1 k0 k1 x1
                  generalize W7'.drew = w8 at *
                  have fr : w8.frozen? ⟨bL, v, none⟩ = false := by
                    have := own_free H8.h0 v
                    simpa using this
                  have x2 : w8.cell? ⟨bL, v, none⟩ = some (.int .i64 (m : Int)) := by
                    have := own_cell1 H8.h0 HM.out
                    simpa using this
                  have H7 := (H8.setRow (j := v) (by rw [ic_length]; exact hvl) (.int .i64 ((m ^^^ 2 ^ u : Nat) : Int))).p4
                  rw [ic_set, Nat.zero_add, ← HFR.out] at H7
                  clear H8
                  have k0 : (w8.setCell ⟨bL, v, none⟩ (.int .i64 ((m ^^^ 2 ^ u : Nat) : Int))).cell? ⟨ge, 0, none⟩ = some (.int .i64 (u : Int)) := H7.h0.cell 0
                  have k1 : (w8.setCell ⟨bL, v, none⟩ (.int .i64 ((m ^^^ 2 ^ u : Nat) : Int))).cell? ⟨ge, 1, none⟩ = some (.int .i64 (v : Int)) := H7.h0.cell 1
                  generalize m ^^^ 2 ^ u = m2 at *
                  obtain ⟨L2, hL2⟩ : ∃ L2, L2 = L1.flip u v := ⟨_, rfl⟩
                  rw [← hL2] at H7 HADD
                  go_upto_region 21 with fail
                  generalize w8.setCell ⟨bL, v, none⟩ (.int .i64 (m2 : Int)) = w9 at *
                  clear fr x2 hp hva hL2 HFR HM hui
                  have H4 := H7.drop
                  have hq4 : QI w9 0 52 2 (.slice Aq Q.length cq) Q.length (cc Q) := H4.h0
                  clear H7
                  go_wp2_with (at_builtin; refine wpList_append_q _ rfl _ _ 49 rfl 0 52 i0 _ 2 16 Tryd.underlying49 hi hz0 hz1 hz2 rfl (by decide) _ _ _ rfl (hq4.alloc _) ⟨w9.heap.size, 0, none⟩ 1 [.int .i64 (u : Int), .int .i64 (v : Int)] rfl rfl (news_alloc w9 #[.int .i64 (u : Int), .int .i64 (v : Int)] _) (by intro u hu; simp at hu; rcases hu with rfl | rfl <;> rfl) (by unfold maxLen; omega) (by omega) (Nat.zero_le _) ?_; intro v' w7 hq7 hgrow hat)
                  have H5 := (H4.alloc (.cells #[.int .i64 (u : Int), .int .i64 (v : Int)] 52)).appQ hq7 hgrow hat
                  clear H4 hq4 hq7 hgrow hat k0 k1
                  obtain ⟨T2, hT2⟩ : ∃ T2, T2 = T ++ [(⟨(u : Int), (v : Int)⟩ : Cell)] := ⟨_, rfl⟩
                  obtain ⟨Q2, hQ2⟩ : ∃ Q2, Q2 = Q ++ [(⟨(u : Int), (v : Int)⟩ : Cell)] := ⟨_, rfl⟩
                  rw [← hT2] at HADD
                  have hT36 : T2.length ≤ 36 := by
                    have h1 := HADD.out.sees.len
                    have h2 : (leftC r.cells L).length ≤ r.cells.length := List.length_filter_le _ _
                    have h3 : r.cells.length = n := by rw [← HC.out, HCN.out]
                    omega
                  have hlen : T2.length = T.length + 1 := by rw [hT2]; simp
                  have HTC2 : Hid (T2[n1]? = some cd) := Lib.hid (by rw [hT2, List.getElem?_append_left hnT]; exact HTC.out)
                  have HQQ : Hid (Q2 = T2.drop (n1 + 1)) := Lib.hid (by rw [hQ2, hT2, HQ.out, List.drop_append_of_le_length (by omega)])
                  have hQ236 : Q2.length ≤ 36 := by rw [HQQ.out, List.length_drop]; omega
                  have hcq : cc Q ++ [.int .i64 (u : Int), .int .i64 (v : Int)] = cc Q2 := by rw [hQ2, cc_append]; rfl
                  have hlq : Q.length + 1 = Q2.length := by rw [hQ2, List.length_append]; rfl
                  rw [hcq, hlq] at H5
                  clear hcq hlq hT2 hQ2
                  go_wp2
                  go_roundw
                  case rel => exact ⟨e + 1, T2, Q2, L2, by omega, by go_num, by omega, hT36, HTC2, HQQ, hQ236, HADD, H5⟩
                  case measure => simp [intOf]; omega
              · obtain rfl : e = 4 := by omega
                have HF2 := Lib.hid (HFI.out.next HLI.out HV.out HTC.out)
                obtain ⟨Aq, cq, rfl⟩ := QI.shape H.h0
                have H2 := H.drop2
                clear H
                go_wp2
                go_roundg (gk - 1)
                case rel => exact ⟨n1 + 1, T, Q, L1, X2, by omega, by omega, hT, HQ, HF2, HXL2, H2⟩
                case measure => omega
    · obtain rfl : i = n := by omega
      have hq : q = P := by
        have := HLI.out
        rw [HCN.out, HC.out] at this
        exact this.end_
      subst hq
      obtain ⟨Ao, co, rfl, _, _, _⟩ := Res.row_at H.h0
      have hb := H.below
      clear H
      go_wp2
      go_ret
      exact ⟨_, _, rfl, hb⟩
end Go.Proofs.YtoccedebiacbiaaDoor
