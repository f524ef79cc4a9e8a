
/-
  Shapes: the walk of the reference's 'IsConnectedShape'.
-/
import Derived.Test.YtdbneilhgckhjaaDoorShpD
namespace Go.Proofs.YtdbneilhgckhjaaDoor
open Go.RowKit

noncomputable def connS (s : List Cell) : Bool := isShape s && hangs s
set_option maxRecDepth 100000 in
theorem infoCellS : (Tryd.prog.info? 73).map (fun i => (i.zero, i.size, i.bytes)) = some (some (.agg #[.int .i64 0, .int .i64 0]), 2, 16) := by kernel_rfl
theorem row_at2 {w : World} {e : TypeId} {b off c n : Nat} {l : List Cell} (h : w.ownsRow 0 e 2 (.slice (some ⟨b, off, none⟩) n c) n (cc l)) {k : Nat} {u : Cell} (hk : l[k]? = some u) :
    w.cell? ⟨b, off + k * 2, none⟩ = some (.int .i64 u.x) ∧ w.cell? ⟨b, off + k * 2 + 1, none⟩ = some (.int .i64 u.y) := own_cell2 h hk
theorem Sep.cellsRd {w0 w : World} {L : List Res} {v : Value} {e : TypeId} {l : List Cell} (h : Sep w0 w (Res.row v e 2 l.length (cc l) :: L)) (hm : l.length ≤ 1000000) : CellsRd w 0 w.heap.size v l := by
  obtain ⟨A, c, rfl, h1, h2, hr⟩ := h.oi.rd
  exact ⟨A, c, rfl, by unfold maxLen; omega, hr.more (Nat.zero_le _) (Nat.le_refl _)⟩

set_option maxRecDepth 100000 in
set_option maxHeartbeats 3200000 in
theorem spec_conn_c {v : Value} {s : List Cell} (w : World) (h : CellsRd w 0 w.heap.size v s) (hn : s.length ≤ 1048576) :
    Calls Tryd.prog 48 #[v] w fun e w' => e = .returned (.bool (connS s)) ∧ Below w.heap.size w w' := by
  obtain ⟨i0, hi, hz0, hz1, hz2⟩ := info_parts infoCellS
  have HS0 := Lib.hid (spec_isShape_c w h hn)
  obtain ⟨A, c, rfl, hm, hr⟩ := id h
  obtain ⟨R, hR⟩ : ∃ R, R = connS s := ⟨_, rfl⟩
  rw [← hR]
  have HR := Lib.hid hR
  have HRS := Lib.hid hr
  clear hR h hr hm
  go_enter Tryd.func48, Tryd.ntmps48
  go_wp2_with fail
  refine (HS0.out).mono ?_
  rintro e w1 ⟨rfl, b1⟩
  clear HS0
  cases hsh : isShape s
  · obtain rfl : R = false := by rw [HR.out, connS, hsh, Bool.false_and]
    clear hsh
    go_wp2
    go_ret
    exact ⟨rfl, b1⟩
  obtain ⟨hl1, hl8⟩ := shp_len hsh
  have HSH := Lib.hid hsh
  clear hsh
  obtain ⟨b, off, hA, _, hb, hc⟩ := HRS.out.2 (by omega)
  subst hA
  have HCE := Lib.hid hc
  obtain ⟨a, ha⟩ : ∃ a, s[0]? = some a := ⟨s[0], List.getElem?_eq_getElem (by omega)⟩
  have q1 : w1.cell? ⟨b, off, none⟩ = some (.int .i64 a.x) := (b1.cell (p := ⟨b, off, none⟩) hb).trans (hc _ _ (cc_at ha).1)
  have q2 : w1.cell? ⟨b, off + 1, none⟩ = some (.int .i64 a.y) := (b1.cell (p := ⟨b, off + 1, none⟩) hb).trans (hc _ _ (cc_at ha).2)
  have HA := Lib.hid ha
  have H0 := ((Sep.start w).step b1).rowBox 73 #[.int .i64 a.x, .int .i64 a.y] 2 1 rfl (by decide)
  clear ha hc b1
  go_wp2
  clear q1 q2
  go_loopw [3, 4] (fun sv i wr => ∃ (n : Nat) (S : List Cell), n ≤ S.length ∧ i = .int .i64 n ∧ Hid (Sees s a S) ∧ Hid (∀ (j : Nat) (b : Cell), j < n → S[j]? = some b → ∀ c ∈ s, sideB b c = true → c ∈ S) ∧ S.length ≤ 8 ∧ Sep w wr [Res.row sv 73 2 S.length (cc S)]) (fun _ i _ => 9 - (intOf i).toNat)
  case atStart => exact ⟨0, [a], by simp, rfl, Lib.hid (Sees.start HA.out), Lib.hid (fun j b hj => absurd hj (by omega)), by simp, H0⟩
  case round =>
    clear H0
    obtain ⟨n, S, hn', rfl, HSS, HC1, HLE, H⟩ := hrel
    by_cases hlt : n < S.length
    · obtain ⟨bi, hbi⟩ : ∃ bi, S[n]? = some bi := ⟨S[n], List.getElem?_eq_getElem hlt⟩
      have HBI := Lib.hid hbi
      obtain ⟨As, cs, rfl, hsn, hsm, _⟩ := Res.row_at H.h0
      clear hbi hsn hsm
      obtain ⟨wo, hwo⟩ : ∃ wo : World, wo = wr := ⟨_, rfl⟩
      subst hwo
      go_wp2
      go_loopw [3, 5] (fun sv i wr => ∃ (k : Nat) (S : List Cell), k ≤ s.length ∧ i = .int .i64 k ∧ Hid (Sees s a S) ∧ Hid (S[n]? = some bi) ∧ Hid (∀ (j : Nat) (b : Cell), j < n → S[j]? = some b → ∀ c ∈ s, sideB b c = true → c ∈ S) ∧ Hid (∀ c ∈ s.take k, sideB bi c = true → c ∈ S) ∧ S.length ≤ 8 ∧ Sep w wr [Res.row sv 73 2 S.length (cc S)]) (fun _ i _ => s.length - (intOf i).toNat)
      case atStart => exact ⟨0, S, Nat.zero_le _, rfl, HSS, HBI, HC1, Lib.hid (fun c hc => by simp at hc), HLE, H⟩
      case round =>
        clear H HLE hlt hn' HSS HC1 HBI
        obtain ⟨k, S, hk, rfl, HSS, HBI, HC1, HC2, HLE, H⟩ := hrel
        have hnl : n < S.length := (List.getElem?_eq_some_iff.1 HBI.out).1
        by_cases hlk : k < s.length
        · obtain ⟨ck, hck⟩ : ∃ ck, s[k]? = some ck := ⟨s[k], List.getElem?_eq_getElem hlk⟩
          have HCK := Lib.hid hck
          obtain ⟨bs, os, cs2, rfl, hsn, hsm, hbs⟩ := own_shape H.h0 (by omega)
          have hbw := H.below
          have hbr : b < wr.heap.size := by have := hbw.size; omega
          have l1 := Later.cell (row_at2 H.h0 HBI.out).1 hbs
          have l2 := Later.cell (row_at2 H.h0 HBI.out).2 hbs
          have l3 := Later.cell ((hbw.cell (p := ⟨b, off + k * 2, none⟩) hb).trans (HCE.out _ _ (cc_at hck).1)) hbr
          have l4 := Later.cell ((hbw.cell (p := ⟨b, off + k * 2 + 1, none⟩) hb).trans (by rw [Nat.add_assoc]; exact HCE.out _ _ (cc_at hck).2)) hbr
          have ON1 := Lib.hid (shp_on HSH.out (HSS.out.sub bi (List.mem_of_getElem? HBI.out)))
          have ON2 := Lib.hid (shp_on HSH.out (List.mem_of_getElem? hck))
          clear hck hbw hsn hsm
          cases hnb : sideB bi ck
          · have HNB := Lib.hid hnb
            have HNQ : Hid (∀ w : World, Calls Tryd.prog 71 #[.agg #[.int .i64 bi.x, .int .i64 bi.y], .agg #[.int .i64 ck.x, .int .i64 ck.y]] w fun e w' => e = .returned (.bool false) ∧ Below w.heap.size w w') := Lib.hid fun w => by
              have := near_sq_c bi ck w ON1.out ON2.out
              rw [hnb] at this
              exact this
            clear hnb
            have hcl2 : ∀ c ∈ s.take (k + 1), sideB bi c = true → c ∈ S := fun c hc hn => by
              rw [List.take_succ_eq_append_getElem hlk, (List.getElem?_eq_some_iff.1 HCK.out).2] at hc
              rcases List.mem_append.1 hc with hc | hc
              · exact HC2.out c hc hn
              · simp at hc; subst hc; exact (absurd hn (by rw [HNB.out]; exact Bool.false_ne_true))
            have HCL2 := Lib.hid hcl2
            clear hcl2
            go_wp2_with fail
            refine wp_region_later (by kernel_rfl) (by kernel_rfl) ?_
            repeat (go_big_quiet_step (first | (go_at_call 71; exact Later.call (HNQ.out _)) | (go_at_call 72; exact Later.same (HHQ.out _))))
            refine wpQuiet_nil ?_
            intro w3 hw3
            obtain ⟨u3, hu3⟩ := hw3
            subst hu3
            have H3 := H.later u3
            clear l1 l2 l3 l4 H HNQ
            generalize u3.w = w3 at *
            go_wp2
            go_roundw
            case rel => exact ⟨k + 1, S, by omega, by go_num, HSS, HBI, HC1, HCL2, HLE, H3⟩
            case measure => simp [intOf]; omega
          have HNQ : Hid (∀ w : World, Calls Tryd.prog 71 #[.agg #[.int .i64 bi.x, .int .i64 bi.y], .agg #[.int .i64 ck.x, .int .i64 ck.y]] w fun e w' => e = .returned (.bool true) ∧ Below w.heap.size w w') := Lib.hid fun w => by
            have := near_sq_c bi ck w ON1.out ON2.out
            rw [hnb] at this
            exact this
          cases hhs : decide ((⟨ck.x, ck.y⟩ : Cell) ∈ S)
          rotate_left
          · have HHS := Lib.hid (of_decide_eq_true hhs)
            have HHQ : Hid (∀ u : Later wr, Calls Tryd.prog 72 #[.slice (some ⟨bs, os, none⟩) S.length cs2, .int .i64 ck.x, .int .i64 ck.y] u.w fun e w' => e = .returned (.bool true) ∧ u.w = w') := Lib.hid fun u => by
              have := spec_has2_c ck.x ck.y u.w ((H.later u).cellsRd (by omega)) (by omega)
              rw [hhs] at this
              exact this
            clear hnb hhs
            have hcl2 : ∀ c ∈ s.take (k + 1), sideB bi c = true → c ∈ S := fun c hc hn => by
              rw [List.take_succ_eq_append_getElem hlk, (List.getElem?_eq_some_iff.1 HCK.out).2] at hc
              rcases List.mem_append.1 hc with hc | hc
              · exact HC2.out c hc hn
              · simp at hc; subst hc; exact (HHS.out)
            have HCL2 := Lib.hid hcl2
            clear hcl2
            go_wp2_with fail
            refine wp_region_later (by kernel_rfl) (by kernel_rfl) ?_
            repeat (go_big_quiet_step (first | (go_at_call 71; exact Later.call (HNQ.out _)) | (go_at_call 72; exact Later.same (HHQ.out _))))
            refine wpQuiet_nil ?_
            intro w3 hw3
            obtain ⟨u3, hu3⟩ := hw3
            subst hu3
            have H3 := H.later u3
            clear l1 l2 l3 l4 H HNQ
            generalize u3.w = w3 at *
            go_wp2
            go_roundw
            case rel => exact ⟨k + 1, S, by omega, by go_num, HSS, HBI, HC1, HCL2, HLE, H3⟩
            case measure => simp [intOf]; omega
          · have hne : ¬ ck ∈ S := of_decide_eq_false hhs
            have hss2 := HSS.out.add (List.mem_of_getElem? HBI.out) (List.mem_of_getElem? HCK.out) hnb hne
            have HS2 := Lib.hid hss2
            have hle2 : (S ++ [ck]).length ≤ 8 := Nat.le_trans hss2.len hl8
            have hbi2 : (S ++ [ck])[n]? = some bi := by rw [List.getElem?_append_left hnl]; exact HBI.out
            have HBI2 := Lib.hid hbi2
            have hcl1 : ∀ (j : Nat) (b : Cell), j < n → (S ++ [ck])[j]? = some b → ∀ c ∈ s, sideB b c = true → c ∈ S ++ [ck] := fun j b hj hb c hc hs => by
              rw [List.getElem?_append_left (by omega)] at hb
              exact List.mem_append.2 (.inl (HC1.out j b hj hb c hc hs))
            have HCL1 := Lib.hid hcl1
            have hcl2 : ∀ c ∈ s.take (k + 1), sideB bi c = true → c ∈ S ++ [ck] := fun c hc hs => by
              rw [List.take_succ_eq_append_getElem hlk, (List.getElem?_eq_some_iff.1 HCK.out).2] at hc
              rcases List.mem_append.1 hc with hc | hc
              · exact List.mem_append.2 (.inl (HC2.out c hc hs))
              · exact List.mem_append.2 (.inr hc)
            have HCL2 := Lib.hid hcl2
            have HHQ : Hid (∀ u : Later wr, Calls Tryd.prog 72 #[.slice (some ⟨bs, os, none⟩) S.length cs2, .int .i64 ck.x, .int .i64 ck.y] u.w fun e w' => e = .returned (.bool false) ∧ u.w = w') := Lib.hid fun u => by
              have := spec_has2_c ck.x ck.y u.w ((H.later u).cellsRd (by omega)) (by omega)
              rw [hhs] at this
              exact this
            clear hne hss2 hbi2 hcl1 hcl2 hnb hhs
            go_wp2_with fail
            refine wp_region_later (by kernel_rfl) (by kernel_rfl) ?_
            repeat (go_big_quiet_step (first | (go_at_call 71; exact Later.call (HNQ.out _)) | (go_at_call 72; exact Later.same (HHQ.out _))))
            refine wpQuiet_nil ?_
            intro w3 hw3
            obtain ⟨u3, hu3⟩ := hw3
            subst hu3
            have H3 := H.later u3
            clear l1 l2 l3 l4 H HNQ
            generalize u3.w = w3 at *
            clear HHQ
            have q3 : w3.cell? ⟨b, off + k * 2, none⟩ = some (.int .i64 ck.x) := (H3.below.cell (p := ⟨b, off + k * 2, none⟩) hb).trans (HCE.out _ _ (cc_at HCK.out).1)
            have q4 : w3.cell? ⟨b, off + k * 2 + 1, none⟩ = some (.int .i64 ck.y) := (H3.below.cell (p := ⟨b, off + k * 2 + 1, none⟩) hb).trans (by rw [Nat.add_assoc]; exact HCE.out _ _ (cc_at HCK.out).2)
            have hle8 : S.length ≤ 8 := HLE
            go_wp2_with (at_builtin; refine wpList_app rfl _ _ 53 rfl 73 i0 _ 2 16 Tryd.underlying53 hi hz0 hz1 hz2 rfl (by decide) _ _ _ rfl (H3.alloc _) _ _ _ [.int .i64 ck.x, .int .i64 ck.y] rfl (Rd.fresh w3 _ #[.int .i64 ck.x, .int .i64 ck.y] 2 1 rfl) oc2 (by unfold maxLen; omega) (by omega) ?_; intro v2 w2 H4; clear H3)
            clear q3 q4
            have H5 : Sep w w2 [Res.row v2 73 2 (S ++ [ck]).length (cc (S ++ [ck]))] := by rw [cc_append, List.length_append]; exact H4
            clear H4
            go_roundw
            case rel => exact ⟨k + 1, S ++ [ck], by omega, by go_num, HS2, HBI2, HCL1, HCL2, hle2, H5⟩
            case measure => simp [intOf]; omega
        · obtain rfl : k = s.length := by omega
          have hc1 : ∀ (j : Nat) (b : Cell), j < n + 1 → S[j]? = some b → ∀ c ∈ s, sideB b c = true → c ∈ S := fun j b hj hb c hc hs => by
            by_cases e : j = n
            · subst e
              rw [HBI.out] at hb
              injection hb with hb
              subst hb
              exact HC2.out c (by rw [List.take_length]; exact hc) hs
            · exact HC1.out j b (by omega) hb c hc hs
          have HC3 := Lib.hid hc1
          clear hc1
          go_wp2
          go_roundw
          case rel => exact ⟨n + 1, S, by omega, by go_num, HSS, HC3, HLE, H⟩
          case measure => simp [intOf]; omega
    · obtain rfl : n = S.length := by omega
      have hend := HSS.out.end_ (shp_nodup HSH.out) HA.out (fun j b hj => HC1.out j b (List.getElem?_eq_some_iff.1 hj).1 hj)
      have hRe : R = decide (S.length = s.length) := by rw [HR.out, connS, HSH.out, Bool.true_and, hend]
      have HRE := Lib.hid hRe
      obtain ⟨As, cs, rfl, _, _, _⟩ := Res.row_at H.h0
      have hbel := H.below
      clear hend hRe H
      by_cases he : S.length = s.length
      · have e1 : ((S.length : Int) == (s.length : Int)) = true := by simp; omega
        obtain rfl : R = true := by rw [HRE.out]; exact decide_eq_true he
        clear he
        go_wp2
        go_ret
        exact ⟨rfl, hbel⟩
      · have e1 : ((S.length : Int) == (s.length : Int)) = false := by simp; omega
        obtain rfl : R = false := by rw [HRE.out]; exact decide_eq_false he
        clear he
        go_wp2
        go_ret
        exact ⟨rfl, hbel⟩
end Go.Proofs.YtdbneilhgckhjaaDoor
