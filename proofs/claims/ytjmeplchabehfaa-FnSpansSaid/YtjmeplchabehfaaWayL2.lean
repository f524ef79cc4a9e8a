
/-
  The law's own search across the board: from the first row to the last one
-/
import Derived.Test.YtjmeplchabehfaaWayL
namespace Go.Proofs.Ytjmeplchabehfaa
open Go.RowKit

set_option maxRecDepth 100000 in
set_option maxHeartbeats 6400000 in
theorem l30_block {v : Value} {r : Reg} (w : World) (h : RegRd w 0 w.heap.size v r) (hv : r.Valid) :
    Calls Try.prog 92 #[v, .bool false, .bool true, .bool true] w fun e w' => ∃ v', e = .returned (.tuple #[v', .bool (wayC r false true true).isSome]) ∧ CellsIn w' w.heap.size w'.heap.size v' ((wayC r false true true).getD []) ∧ Below w.heap.size w w' := by
  obtain ⟨s, rfl, hs⟩ := h
  obtain ⟨A, c, rfl, hm, hr⟩ := id hs
  obtain ⟨i0, hi, hz0, hz1, hz2⟩ := info_parts infoCell
  obtain ⟨j0, hj0, hy0, hy1', hy2'⟩ := info_parts infoInt
  obtain ⟨R, hR⟩ : ∃ R, R = wayC r false true true := ⟨_, rfl⟩
  rw [← hR]
  have hbel : Below w.heap.size w (w.alloc (.cells #[.int .i64 r.w, .slice A r.rows.length c] 31)) := (Below.refl _ _).alloc (Nat.le_refl _) _
  have BX : Blk (w.alloc (.cells #[.int .i64 r.w, .slice A r.rows.length c] 31)) w.heap.size 31 #[.int .i64 r.w, .slice A r.rows.length c] := Blk.new _ _ _
  have HZ : w.heap.size + 1 ≤ (w.alloc (.cells #[.int .i64 r.w, .slice A r.rows.length c] 31)).heap.size := by simp
  have HR := Lib.hid hR
  have HV := Lib.hid hv
  have v1 := hv.1
  have v2 := hv.2.1
  have v3 := hv.2.2.1
  have v4 := hv.2.2.2.1
  have hw0 : decide ((0 : Int) < r.w) = true := by simp; omega
  have hh0 : decide ((0 : Int) < (r.rows.length : Int)) = true := by simp; omega
  clear hR hv hr
  go_enter Try.func92, Try.ntmps92
  go_wp2
  have HW0 := ((((Sep.start w).box 31 #[.int .i64 r.w, .slice A r.rows.length c]).rowBox 62 #[] 2 0 rfl (by decide)).rowBox 3 #[] 1 0 rfl (by decide)).g1
  simp only [World.size_alloc] at HW0
  clear hbel BX HZ
  generalize ((w.alloc (.cells #[.int .i64 r.w, .slice A r.rows.length c] 31)).alloc (.cells #[] 62)).alloc (.cells #[] 3) = W at *
  obtain ⟨n, hn⟩ : ∃ n, n = sideC r true := ⟨_, rfl⟩
  have hn6 : 1 ≤ n ∧ n ≤ 6 := by rw [hn]; simp [sideC]; omega
  have HN := Lib.hid hn
  clear hn
  obtain ⟨opn, hopn⟩ : ∃ opn, opn = opnC r false := ⟨_, rfl⟩
  have HO := Lib.hid hopn
  have HG : Hid (∀ c, opn c = true → c ∈ gridC r) := Lib.hid (by intro c hc; rw [hopn, opnC] at hc; simp only [Bool.and_eq_true] at hc; exact gridC_mem hc.1)
  have HGL := Lib.hid (gridC_length HV.out)
  clear hopn
  go_loopw [10, 11, 13] (fun s f i wr => ∃ (k : Nat) (S : List (Cell × Cell)), k ≤ 6 ∧ i = .int .i64 k ∧ Hid (S = roots opn (startC true (min k n))) ∧ S.length ≤ 6 ∧
    Sep w wr [Res.row s 62 2 S.length (cc (keys S)), Res.row f 3 1 S.length (ic (rootsF S)), Res.box w.heap.size 31 #[.int .i64 r.w, .slice A r.rows.length c]]) (fun _ _ i _ => 7 - (intOf i).toNat)
  case atStart => exact ⟨0, [], by omega, rfl, Lib.hid (by simp [startC, roots]), by simp, HW0⟩
  case round =>
    clear HW0
    obtain ⟨k, S, hk, rfl, HS, hS6, H⟩ := hrel
    have c0 := H.h2.cell 0
    have c1 := H.h2.cell 1
    simp at c0 c1
    have hlt0 : w.heap.size < wr.heap.size := H.h2.lt
    by_cases hwh : r.w < (r.rows.length : Int) <;> by_cases hkw : (k : Int) < r.w <;> by_cases hkh : (k : Int) < (r.rows.length : Int)
    all_goals
      first
        | exact absurd hkw (by omega)
        | exact absurd hkh (by omega)
        | skip
    all_goals
      have dk1 : decide ((k : Int) < r.w) = _ := (by first | exact decide_eq_true hkw | exact decide_eq_false hkw)
      have dk2 : decide ((k : Int) < (r.rows.length : Int)) = _ := (by first | exact decide_eq_true hkh | exact decide_eq_false hkh)
    · have hkn' : k < n := by rw [HN.out]; simp [sideC]; omega
      have hst : roots opn (startC true (min (k + 1) n)) = S ++ if opn ⟨(k : Int), 0⟩ = true then [(⟨(k : Int), 0⟩, ⟨(k : Int), 0⟩)] else [] := by
        rw [show min (k + 1) n = min k n + 1 by omega, startC_succ, roots_append, ← HS.out, show min k n = k by omega]
        exact congrArg (S ++ ·) roots_one
      have hop : opn ⟨(k : Int), 0⟩ = (r.has (k : Int) 0 == false) := by rw [HO.out, opnC, inB]; simp; omega
      have HST := Lib.hid hst
      have HOP := Lib.hid hop
      have hk5 : k ≤ 5 := by omega
      have H1 := H.box 62 #[.int .i64 (k : Int), .int .i64 0]
      clear hst hop H
      go_wp2_with fail
      generalize wr.alloc (.cells #[.int .i64 (k : Int), .int .i64 0] 62) = wa at *
      refine (spec_has_c (r := r) _ _ _ ⟨_, rfl, ((hs.keep (SameIn.of_below H1.below (Nat.le_refl _))).more (Nat.le_refl _) H1.size)⟩ HV.out).mono ?_
      rintro e w2 ⟨rfl, hb2⟩
      have H2 := H1.step hb2
      clear H1 c0 c1 hb2
      cases ho : opn ⟨(k : Int), 0⟩
      · have hh : r.has (k : Int) 0 = true := by have := HOP.out; rw [ho] at this; simpa using this.symm
        rw [hh]
        have hst := HST.out
        rw [ho] at hst
        simp only [Bool.false_eq_true, if_false, List.append_nil] at hst
        have HS2 := Lib.hid hst.symm
        have H3 := H2.drop
        clear hst ho hh H2
        go_wp2
        go_roundw
        case rel => exact ⟨k + 1, S, by omega, by go_num, HS2, hS6, H3⟩
        case measure => simp [intOf]; omega
      · have hh : r.has (k : Int) 0 = false := by have := HOP.out; rw [ho] at this; simpa using this.symm
        rw [hh]
        have hst := HST.out
        rw [ho, if_pos rfl] at hst
        have HS2 := Lib.hid hst.symm
        have hS6' : (S ++ [((⟨(k : Int), 0⟩ : Cell), (⟨(k : Int), 0⟩ : Cell))]).length ≤ 6 := by
          rw [← hst]
          refine Nat.le_trans roots_le ?_
          rw [startC_length]; omega
        simp only [List.length_append, List.length_cons, List.length_nil] at hS6'
        have k0 := H2.h0.cell 0
        have k1 := H2.h0.cell 1
        simp at k0 k1
        clear hst ho hh
        go_wp2_with (at_builtin; first
          | (refine wpList_append_own_at _ rfl _ _ 42 rfl 0 62 i0 _ 2 16 Try.underlying42 hi hz0 hz1 hz2 rfl (by decide) _ _ _ rfl (H2.alloc _).h1 ⟨w2.heap.size, 0, none⟩ 1 1 [.int .i64 (k : Int), .int .i64 0] rfl rfl (news_alloc w2 #[.int .i64 (k : Int), .int .i64 0] _) (by intro u hu; simp at hu; rcases hu with rfl | rfl <;> rfl) (by unfold maxLen; omega) (by omega) (Nat.zero_le _) ?_
             intro s' w3 how hgrow _ hat
             have H3 := ((H2.alloc (.cells #[.int .i64 (k : Int), .int .i64 0] 62)).drop.app how hgrow hat)
             clear hat hgrow how H2 k0 k1)
          | (refine wpList_append_own_at _ rfl _ _ 22 rfl 0 3 j0 _ 1 8 Try.underlying22 hj0 hy0 hy1' hy2' rfl (by decide) _ _ _ rfl (H3.alloc _).h1 ⟨w3.heap.size, 0, none⟩ 1 1 [.int .i64 (-1)] rfl rfl (news_alloc w3 #[.int .i64 (-1)] _) (by intro u hu; simp at hu; subst hu; rfl) (by unfold maxLen; omega) (by omega) (Nat.zero_le _) ?_
             intro f' w4 how hgrow _ hat
             have H4 := ((H3.alloc (.cells #[.int .i64 (-1)] 3)).g1.app how hgrow hat).p1
             clear hat hgrow how H3))
        have H5 : Sep w w4 [Res.row s' 62 2 (S ++ [((⟨(k : Int), 0⟩ : Cell), (⟨(k : Int), 0⟩ : Cell))]).length (cc (keys (S ++ [((⟨(k : Int), 0⟩ : Cell), (⟨(k : Int), 0⟩ : Cell))]))), Res.row f' 3 1 (S ++ [((⟨(k : Int), 0⟩ : Cell), (⟨(k : Int), 0⟩ : Cell))]).length (ic (rootsF (S ++ [((⟨(k : Int), 0⟩ : Cell), (⟨(k : Int), 0⟩ : Cell))]))), Res.box w.heap.size 31 #[.int .i64 r.w, .slice A r.rows.length c]] := by
          rw [keys_append, cc_append, List.length_append, rootsF_append, ic_append]; exact H4
        clear H4
        go_roundw
        case rel => exact ⟨k + 1, _, by omega, by go_num, HS2, by simp; omega, H5⟩
        case measure => simp [intOf]; omega
    · have hkn' : n ≤ k := by rw [HN.out]; simp [sideC]; omega
      have HS2 : Hid (S = roots opn (startC true (min (k + 1) n))) := by rw [show min (k + 1) n = min k n by omega]; exact HS
      have H1 := H.alloc (.cells #[.int .i64 (k : Int), .int .i64 0] 62)
      clear H
      go_wp2
      go_roundw
      case rel => exact ⟨k + 1, S, by omega, by go_num, HS2, hS6, H1⟩
      case measure => simp [intOf]; omega
    · have hkn' : n ≤ k := by rw [HN.out]; simp [sideC]; omega
      have hSe : S = roots opn (startC true n) := by rw [HS.out, show min k n = n by omega]
      have hpar : Par S (rootsF S) := by rw [hSe]; exact Par.roots
      have hinv : BInv opn S := by
        rw [hSe]
        have := roots_inv (opn := opn) (startC_nodup (rows := true) (n := n)) n (by rw [startC_length]; exact Nat.le_refl _)
        rwa [List.take_of_length_le (by rw [startC_length]; exact Nat.le_refl _)] at this
      go_wp2
      go_loopg [10, 11, 15] 36 (fun gk s f iv wr => ∃ (i : Nat) (S : List (Cell × Cell)) (F : List Int), gk + i = 36 ∧ iv = .int .i64 i ∧ i ≤ S.length ∧ BInv opn S ∧ Par S F ∧
        Sep w wr [Res.row s 62 2 S.length (cc (keys S)), Res.row f 3 1 S.length (ic F), Res.box w.heap.size 31 #[.int .i64 r.w, .slice A r.rows.length c]] ∧ Hid (bfs (aroundC true) opn (doneC r true) (gk + 1) S i = R))
      case atStart => exact ⟨0, S, rootsF S, rfl, rfl, Nat.zero_le _, hinv, hpar, H, Lib.hid (by rw [HR.out, wayC, ← HO.out, ← HN.out, hSe])⟩
      case round =>
        obtain ⟨wo, hwo⟩ : ∃ wo : World, wo = wr := ⟨_, rfl⟩
        subst hwo
        clear hinv hpar H hSe
        obtain ⟨i, S, F, hgi, rfl, hiS, hinv, hpar, H, HB⟩ := hrel
        have hSl := hinv.len HG.out
        have hGl : (gridC r).length ≤ 36 := HGL.out
        by_cases hlt : i < S.length
        · obtain ⟨⟨cl, pp⟩, p⟩ : ∃ cl : Cell × Cell, S[i]? = some cl := ⟨S[i], List.getElem?_eq_getElem hlt⟩
          have HP := Lib.hid p
          have hkc : (keys S)[i]? = some cl := by simp [keys, p]
          have hS0 : 0 < S.length := by omega
          obtain ⟨bs, os, cs, rfl, hsn, hsm, hbs⟩ := own_shape H.h0 hS0
          obtain ⟨bf, of, cf, rfl, hfn, hfm, hbf⟩ := own_shape H.h1 hS0
          obtain ⟨q0, q1⟩ := own_cell2 H.h0 hkc
          obtain ⟨d, hd⟩ : ∃ d, d = cl := ⟨_, rfl⟩
          subst hd
          have hin := inB_near HV.out (show inB r d = true by have := hinv.opens _ (List.mem_of_getElem? p); rw [HO.out, opnC] at this; simp only [Bool.and_eq_true] at this; exact this.1)
          obtain ⟨n1, n2, n3, n4⟩ := hin
          have c0 := H.h2.cell 0
          simp at c0
          clear p hkc
          cases hdn : doneC r true d
          · have hbs' : bfs (aroundC true) opn (doneC r true) gk (expand (aroundC true) opn S d) (i + 1) = R := by
              have := HB.out
              rw [bfs, HP.out] at this
              simpa [hdn] using this
            have HB2 := Lib.hid hbs'
            have dd : (d.y == (r.rows.length : Int) - 1) = false := by simpa [doneC] using hdn
            clear hbs' hdn
            go_wp2_with fail
            go_quiet (fail)
            have H2 := H.drewN nq
            obtain ⟨q0, q1⟩ := own_cell2 (l := keys S) (j := i) (u := d) H2.h0 (by simp [keys, HP.out])
            clear c0 dd H hbs hbf
            generalize wo.drewN nq = wq at *
            go_wp2
            obtain ⟨wo1, hwo1⟩ : ∃ wo1 : World, wo1 = wq := ⟨_, rfl⟩
            subst hwo1
            clear q0 q1
            go_loopw [10, 11, 18] (fun s f yv wr => ∃ (k : Nat) (Y : Int) (T : List (Cell × Cell)) (F : List Int), k ≤ 3 ∧ yv = .int .i64 Y ∧ Hid (Y = d.y + ((k : Int) - 1)) ∧ d.y - 1 ≤ Y ∧ Y ≤ d.y + 2 ∧ Hid (T = ((roundsTo d k).filter (nr true d)).foldl (addN opn d) S) ∧ BInv opn T ∧ Par T F ∧ i < T.length ∧ Hid (T[i]? = some (d, pp)) ∧
              Sep w wr [Res.row s 62 2 T.length (cc (keys T)), Res.row f 3 1 T.length (ic F), Res.box w.heap.size 31 #[.int .i64 r.w, .slice A r.rows.length c]]) (fun _ _ yv _ => (d.y + 2 - intOf yv).toNat)
            case atStart => exact ⟨0, d.y - 1, S, F, by omega, by go_num, Lib.hid (by omega), by omega, by omega, Lib.hid (by simp [roundsTo]), hinv, hpar, hlt, HP, H2⟩
            case round =>
              clear hinv hpar H2 hiS hSl hlt hsn hsm hfn hfm
              obtain ⟨k, Y, T, FT, hk, rfl, HY, hy1, hy2, HT, hinv, hpar, hiT, HTI, H⟩ := hrel
              have hTl := hinv.len HG.out
              have hT0 : 0 < T.length := by omega
              obtain ⟨bs, os, cs, rfl, hsn, hsm, hbs⟩ := own_shape H.h0 hT0
              obtain ⟨bf, of, cf, rfl, hfn, hfm, hbf⟩ := own_shape H.h1 hT0
              obtain ⟨q0, q1⟩ := own_cell2 (l := keys T) (j := i) (u := d) H.h0 (by simp [keys, HTI.out])
              obtain ⟨wo2, hwo2⟩ : ∃ wo2 : World, wo2 = wr := ⟨_, rfl⟩
              subst hwo2
              by_cases hlk : k < 3
              · have hY3 : Y ≤ d.y + 1 := by have := HY.out; omega
                go_wp2
                clear q0 q1
                go_loopw [10, 11, 19] (fun s f xv wr => ∃ (j : Nat) (X : Int) (T : List (Cell × Cell)) (F : List Int), j ≤ 3 ∧ xv = .int .i64 X ∧ Hid (X = d.x + ((j : Int) - 1)) ∧ d.x - 1 ≤ X ∧ X ≤ d.x + 2 ∧ Hid (T = ((roundsTo d k ++ rowR d k j).filter (nr true d)).foldl (addN opn d) S) ∧ BInv opn T ∧ Par T F ∧ i < T.length ∧ Hid (T[i]? = some (d, pp)) ∧
                  Sep w wr [Res.row s 62 2 T.length (cc (keys T)), Res.row f 3 1 T.length (ic F), Res.box w.heap.size 31 #[.int .i64 r.w, .slice A r.rows.length c]]) (fun _ _ xv _ => (d.x + 2 - intOf xv).toNat)
                case atStart => exact ⟨0, d.x - 1, T, FT, by omega, by go_num, Lib.hid (by omega), by omega, by omega, Lib.hid (by rw [HT.out]; simp [rowR]), hinv, hpar, hiT, HTI, H⟩
                case round =>
                  clear hinv hpar H hiT hTl hT0 hsn hsm hbs hfn hfm hbf HTI
                  obtain ⟨j, X, T2, F2, hj, rfl, HX, hx1, hx2, HT2, hinv, hpar, hiT, HTI, H⟩ := hrel
                  have hTl := hinv.len HG.out
                  have hT0 : 0 < T2.length := by omega
                  obtain ⟨bs, os, cs, rfl, hsn, hsm, hbs⟩ := own_shape H.h0 hT0
                  obtain ⟨bf, of, cf, rfl, hfn, hfm, hbf⟩ := own_shape H.h1 hT0
                  obtain ⟨q0, q1⟩ := own_cell2 (l := keys T2) (j := i) (u := d) H.h0 (by simp [keys, HTI.out])
                  by_cases hlj : j < 3
                  · have hX3 : X ≤ d.x + 1 := by have := HX.out; omega
                    obtain ⟨dd, hdd⟩ : ∃ dd : Cell, dd = ⟨X, Y⟩ := ⟨_, rfl⟩
                    have hkeep : (mapAt T2 ⟨X, Y⟩ ≠ none ∨ opn ⟨X, Y⟩ = false ∨ nr true d ⟨X, Y⟩ = false) → T2 = ((roundsTo d k ++ rowR d k (j + 1)).filter (nr true d)).foldl (addN opn d) S := by
                      intro h
                      rw [rowR_succ, ← List.append_assoc, ← HX.out, ← HY.out, HT2.out]
                      exact (fold_keep ⟨X, Y⟩ (by rw [← HT2.out]; exact h)).symm
                    have hadd : mapAt T2 ⟨X, Y⟩ = none → opn ⟨X, Y⟩ = true → nr true d ⟨X, Y⟩ = true → T2 ++ [(⟨X, Y⟩, d)] = ((roundsTo d k ++ rowR d k (j + 1)).filter (nr true d)).foldl (addN opn d) S := by
                      intro h1 h2 h3
                      rw [rowR_succ, ← List.append_assoc, ← HX.out, ← HY.out, HT2.out]
                      have hne : (j == 1 && k == 1) = false := by
                        rw [Bool.eq_false_iff]
                        intro hc
                        simp at hc
                        have e1 := HX.out
                        have e2 := HY.out
                        rw [hc.1] at e1
                        rw [hc.2] at e2
                        have : (⟨X, Y⟩ : Cell) = d := Cell.ext (by simp; omega) (by simp; omega)
                        rw [this, mapAt_some hinv.nodup HTI.out] at h1
                        cases h1
                      exact (fold_add ⟨X, Y⟩ hne (by rw [← HT2.out]; exact h1) h2 h3).symm
                    have HK := Lib.hid hkeep
                    have HADD := Lib.hid hadd
                    clear hkeep hadd
                    clear dd hdd
                    have hout : ¬ (0 ≤ X ∧ X < r.w ∧ 0 ≤ Y ∧ Y < r.rows.length) → opn ⟨X, Y⟩ = false := fun h => by rw [HO.out, opnC, inB]; simp only [h, decide_false, Bool.false_and]
                    have HOUT := Lib.hid hout
                    have c0 := H.h2.cell 0
                    have c1 := H.h2.cell 1
                    simp at c0 c1
                    clear hout
                    by_cases hX0 : X < 0
                    · skip
                      go_wp2
                      go_roundw
                      case rel => exact ⟨j + 1, X + 1, T2, F2, by omega, by go_num, Lib.hid (by have := HX.out; omega), by omega, by omega, Lib.hid (HK.out (.inr (.inl (HOUT.out (by omega))))), hinv, hpar, hiT, HTI, H⟩
                      case measure => simp [intOf]; omega
                    by_cases hY0 : Y < 0
                    · skip
                      go_wp2
                      go_roundw
                      case rel => exact ⟨j + 1, X + 1, T2, F2, by omega, by go_num, Lib.hid (by have := HX.out; omega), by omega, by omega, Lib.hid (HK.out (.inr (.inl (HOUT.out (by omega))))), hinv, hpar, hiT, HTI, H⟩
                      case measure => simp [intOf]; omega
                    by_cases hXw : r.w ≤ X
                    · skip
                      go_wp2
                      go_roundw
                      case rel => exact ⟨j + 1, X + 1, T2, F2, by omega, by go_num, Lib.hid (by have := HX.out; omega), by omega, by omega, Lib.hid (HK.out (.inr (.inl (HOUT.out (by omega))))), hinv, hpar, hiT, HTI, H⟩
                      case measure => simp [intOf]; omega
                    by_cases hYh : (r.rows.length : Int) ≤ Y
                    · skip
                      go_wp2
                      go_roundw
                      case rel => exact ⟨j + 1, X + 1, T2, F2, by omega, by go_num, Lib.hid (by have := HX.out; omega), by omega, by omega, Lib.hid (HK.out (.inr (.inl (HOUT.out (by omega))))), hinv, hpar, hiT, HTI, H⟩
                      case measure => simp [intOf]; omega
                    go_wp2_with fail
                    clear q0 q1 c0 c1
                    refine (hasCell_c (l := keys T2) X Y wr (by have := H.oi.sr.more (Nat.zero_le _) (Nat.le_refl _); rw [← keys_length] at this; rw [← keys_length]; exact this) (by rw [keys_length]; omega)).mono ?_
                    rintro e w2 ⟨rfl, hb2⟩
                    have H2 := H.step hb2
                    clear hb2 H
                    cases hmm : decide ((⟨X, Y⟩ : Cell) ∈ keys T2)
                    · have hmn : mapAt T2 ⟨X, Y⟩ = none := mapAt_none.2 (of_decide_eq_false hmm)
                      have c0 := H2.h2.cell 0
                      have c1 := H2.h2.cell 1
                      simp at c0 c1
                      have HMN := Lib.hid hmn
                      clear hmm hmn
                      go_wp2_with fail
                      clear c0 c1
                      refine (spec_has_c (r := r) X Y w2 ⟨_, rfl, ((hs.keep (SameIn.of_below H2.below (Nat.le_refl _))).more (Nat.le_refl _) H2.size)⟩ HV.out).mono ?_
                      rintro e w3 ⟨rfl, hb3⟩
                      have H3 := H2.step hb3
                      clear hb3 H2
                      have hop : opn ⟨X, Y⟩ = (r.has X Y == false) := by rw [HO.out, opnC, inB]; simp; omega
                      cases ho : opn ⟨X, Y⟩
                      · have hh : r.has X Y = true := by rw [ho] at hop; simpa using hop.symm
                        rw [hh]
                        have HOF := Lib.hid ho
                        clear hh ho hop
                        go_wp2
                        go_roundw
                        case rel => exact ⟨j + 1, X + 1, T2, F2, by omega, by go_num, Lib.hid (by have := HX.out; omega), by omega, by omega, Lib.hid (HK.out (.inr (.inl HOF.out))), hinv, hpar, hiT, HTI, H3⟩
                        case measure => simp [intOf]; omega
                      · have hh : r.has X Y = false := by rw [ho] at hop; simpa using hop.symm
                        have hmn := HMN.out
                        rw [hh]
                        clear hop
                        have hnr : nr true d ⟨X, Y⟩ = true := by simp [nr]
                        have hnw := HADD.out hmn ho hnr
                        have hinv2 := hinv.snoc hmn ho (.inr ⟨i, pp, HTI.out⟩)
                        have hpar2 := hpar.snoc (c := ⟨X, Y⟩) (p := d) (f := (i : Int)) (.inr ⟨i, pp, rfl, hiT, HTI.out, fun e => by subst e; rw [mapAt_some hinv.nodup HTI.out] at hmn; cases hmn⟩)
                        have hTl2 := hinv2.len HG.out
                        simp only [List.length_append, List.length_cons, List.length_nil] at hTl2
                        have hti2 : (T2 ++ [((⟨X, Y⟩ : Cell), d)])[i]? = some (d, pp) := by rw [List.getElem?_append_left hiT]; exact HTI.out
                        have hFl : F2.length = T2.length := hpar.1
                        have HNW := Lib.hid hnw
                        have HTI2 := Lib.hid hti2
                        have HI2 := Lib.hid hinv2
                        have HP2 := Lib.hid hpar2
                        clear hnw hinv2 hpar2 hti2 hFl hmn ho hnr hh
                        go_wp2_with (at_builtin; first
                          | (refine wpList_append_own_at _ rfl _ _ 42 rfl 0 62 i0 _ 2 16 Try.underlying42 hi hz0 hz1 hz2 rfl (by decide) _ _ _ rfl (H3.alloc _).h0 ⟨w3.heap.size, 0, none⟩ 1 1 [.int .i64 X, .int .i64 Y] rfl rfl (news_alloc w3 #[.int .i64 X, .int .i64 Y] _) (by intro u hu; simp at hu; rcases hu with rfl | rfl <;> rfl) (by unfold maxLen; omega) (by omega) (Nat.zero_le _) ?_
                             intro s' w5 how hgrow _ hat
                             have H5 := (H3.alloc (.cells #[.int .i64 X, .int .i64 Y] 62)).app how hgrow hat
                             clear how hgrow hat H3)
                          | (refine wpList_append_own_at _ rfl _ _ 22 rfl 0 3 j0 _ 1 8 Try.underlying22 hj0 hy0 hy1' hy2' rfl (by decide) _ _ _ rfl (H5.alloc _).h1 ⟨w5.heap.size, 0, none⟩ 1 1 [.int .i64 (i : Int)] rfl rfl (news_alloc w5 #[.int .i64 (i : Int)] _) (by intro u hu; simp at hu; subst hu; rfl) (by unfold maxLen; omega) (by omega) (Nat.zero_le _) ?_
                             intro f' w6 how hgrow _ hat
                             have H6 := ((H5.alloc (.cells #[.int .i64 (i : Int)] 3)).g1.app how hgrow hat).p1
                             clear how hgrow hat H5))
                        have H7 : Sep w w6 [Res.row s' 62 2 (T2 ++ [((⟨X, Y⟩ : Cell), d)]).length (cc (keys (T2 ++ [((⟨X, Y⟩ : Cell), d)]))), Res.row f' 3 1 (T2 ++ [((⟨X, Y⟩ : Cell), d)]).length (ic (F2 ++ [(i : Int)])), Res.box w.heap.size 31 #[.int .i64 r.w, .slice A r.rows.length c]] := by
                          rw [keys_append, cc_append, ic_append, List.length_append]; exact H6
                        clear H6
                        go_roundw
                        case rel => exact ⟨j + 1, X + 1, _, _, by omega, by go_num, Lib.hid (by have := HX.out; omega), by omega, by omega, HNW, HI2.out, HP2.out, by simp; omega, HTI2, H7⟩
                        case measure => simp [intOf]; omega
                    · have hmn : mapAt T2 ⟨X, Y⟩ ≠ none := fun h => by have := mapAt_none.1 h; exact this (of_decide_eq_true hmm)
                      have HMN := Lib.hid hmn
                      clear hmm hmn
                      go_wp2
                      go_roundw
                      case rel => exact ⟨j + 1, X + 1, T2, F2, by omega, by go_num, Lib.hid (by have := HX.out; omega), by omega, by omega, Lib.hid (HK.out (.inl HMN.out)), hinv, hpar, hiT, HTI, H2⟩
                      case measure => simp [intOf]; omega
                  · have hX3 : ¬ X ≤ d.x + 1 := by have := HX.out; omega
                    go_wp2
                    go_roundw
                    case rel =>
                      obtain rfl : j = 3 := by omega
                      exact ⟨k + 1, Y + 1, T2, F2, by omega, by go_num, Lib.hid (by rw [HY.out]; omega), by omega, by omega, Lib.hid (by rw [HT2.out, roundsTo_succ]), hinv, hpar, hiT, HTI, H⟩
                    case measure => simp [intOf]; omega
              · have hY3 : ¬ Y ≤ d.y + 1 := by have := HY.out; omega
                go_wp2
                go_roundg (gk - 1)
                case measure => omega
                case rel =>
                  obtain rfl : k = 3 := by omega
                  exact ⟨i + 1, T, FT, by omega, by go_num, by omega, hinv, hpar, H, Lib.hid (by rw [show gk - 1 + 1 = gk by omega, HT.out]; exact HB2.out)⟩
          · have hRs : R = some (wayGo S S.length d [d]) := by
              have := HB.out
              rw [bfs, HP.out] at this
              simpa [hdn] using this.symm
            obtain ⟨way, hway⟩ : ∃ way, way = wayGo S S.length d [d] := ⟨_, rfl⟩
            rw [← hway] at hRs
            subst hRs
            have HW := Lib.hid hway
            have dd : (d.y == (r.rows.length : Int) - 1) = true := by simpa [doneC] using hdn
            have HINV := Lib.hid hinv
            have HPAR := Lib.hid hpar
            clear hway hdn HB hinv hpar
            go_wp2_with fail
            go_quiet (fail)
            have H2 := (H.drewN nq).rowBox 62 #[] 2 0 rfl (by decide)
            clear q0 q1 c0 dd H
            go_wp2
            generalize (wo.drewN nq).alloc (.cells #[] 62) = wB at *
            go_loopg [16, 17] S.length (fun gk2 ov kv wr => ∃ (out : List Cell) (gw cw : Nat), ov = .slice (some ⟨gw, 0, none⟩) out.length cw ∧ out.length + gk2 ≤ S.length ∧
              Sep w wr [Res.row ov 62 2 out.length (cc out), Res.row (.slice (some ⟨bs, os, none⟩) S.length cs) 62 2 S.length (cc (keys S)), Res.row (.slice (some ⟨bf, of, none⟩) S.length cf) 3 1 S.length (ic F), Res.box w.heap.size 31 #[.int .i64 r.w, .slice A r.rows.length c]] ∧
              ((kv = .int .i64 (-1) ∧ out = way) ∨ ∃ (j : Nat) (ci pj : Cell), kv = .int .i64 j ∧ S[j]? = some (ci, pj) ∧ j < gk2 ∧ wayGo S gk2 ci (ci :: out) = way))
            case atStart => exact ⟨[], _, _, rfl, by simp, H2, .inr ⟨i, d, pp, rfl, HP.out, hlt, HW.out.symm⟩⟩
            case round =>
              clear H2
              obtain ⟨out, gw, cw, rfl, hol, H, hk⟩ := hrel
              rcases hk with ⟨rfl, hway⟩ | ⟨j, ci, pj, rfl, hj, hjg, hwg⟩
              · subst hway
                go_wp2
                go_ret2
                exact ⟨_, rfl, CellsIn.mk H.oi.1 rfl rfl, H.below⟩
              · have hkj : (keys S)[j]? = some ci := by simp [keys, hj]
                obtain ⟨k0, k1⟩ := own_cell2 H.h1 hkj
                have hjS : j < S.length := (List.getElem?_eq_some_iff.1 hj).1
                obtain ⟨fj, hfj⟩ : ∃ fj, F[j]? = some fj := ⟨F[j]'(by rw [HPAR.out.1]; exact hjS), List.getElem?_eq_getElem _⟩
                have hma := mapAt_some HINV.out.nodup hj
                have hnext : (fj = -1 ∧ ci :: out = way) ∨ ∃ (j' : Nat) (pj' q : Cell), fj = (j' : Int) ∧ S[j']? = some (pj', q) ∧ j' < gk - 1 ∧ wayGo S (gk - 1) pj' (pj' :: ci :: out) = way := by
                  rw [show gk = (gk - 1) + 1 by omega, wayGo, hma] at hwg
                  rcases HPAR.out.2 j ci pj hj with ⟨h1, h2⟩ | ⟨k', q, h1, h2, h3, h4⟩
                  · rw [hfj] at h1
                    injection h1 with h1
                    exact .inl ⟨h1, by simpa [h2] using hwg⟩
                  · rw [hfj] at h1
                    injection h1 with h1
                    exact .inr ⟨k', pj, q, h1, h3, by omega, by simpa [h4] using hwg⟩
                have HN2 := Lib.hid hnext
                have ho1 : out.length + 1 ≤ 40 := by omega
                clear hkj hj hwg hma hnext
                have Hn := H.rowBox 62 #[.int .i64 ci.x, .int .i64 ci.y] 2 1 rfl (by decide)
                have hl2 := H.h0.1
                have hce := (H.alloc (.cells #[.int .i64 ci.x, .int .i64 ci.y] 62)).h0.cells (g := gw) rfl
                have HCE := Lib.hid hce
                have HFJ := Lib.hid hfj
                clear hce hfj
                go_wp2_with (at_builtin; refine wpList_append_own_at _ rfl _ _ 42 rfl 0 62 i0 _ 2 16 Try.underlying42 hi hz0 hz1 hz2 rfl (by decide) _ _ _ rfl Hn.h0 ⟨gw, 0, none⟩ out.length cw (cc out) rfl hl2 HCE.out cc_one (by unfold maxLen; omega) (by omega) (Nat.zero_le _) ?_; intro v' w3 how hgrow _ hat; have H3 := (Hn.app how hgrow hat).drop2; clear Hn how hgrow hat H; have kf := own_cell1 H3.h2 HFJ.out)
                have ho2 : (ci :: out).length = 1 + out.length := by simp; omega
                obtain ⟨gv, cv1, rfl, _, _, _⟩ := own_at H3.h0 (by omega)
                rcases HN2.out with ⟨rfl, hway⟩ | ⟨j', pj', q', rfl, hj', hj'g, hwg'⟩
                all_goals
                  go_wp2
                  go_roundg (gk - 1)
                  case measure => omega
                case rel => exact ⟨ci :: out, gv, cv1, by rw [ho2], by simp; omega, by rw [ho2]; exact H3, .inl ⟨rfl, hway⟩⟩
                case rel => exact ⟨ci :: out, gv, cv1, by rw [ho2], by simp; omega, by rw [ho2]; exact H3, .inr ⟨j', pj', q', rfl, hj', hj'g, hwg'⟩⟩
        · have hbn : R = none := by rw [← HB.out]; exact bfs_end (by omega)
          subst hbn
          obtain ⟨As, cs, rfl, hsn, hsm, hsr⟩ := Res.row_at H.h0
          clear hsr
          have H2 := H.rowBox 62 #[] 2 0 rfl (by decide)
          go_wp2
          go_ret2
          exact ⟨_, rfl, CellsIn.mk H2.oi.1 rfl rfl, H2.below⟩
    · have hkn' : k < n := by rw [HN.out]; simp [sideC]; omega
      have hst : roots opn (startC true (min (k + 1) n)) = S ++ if opn ⟨(k : Int), 0⟩ = true then [(⟨(k : Int), 0⟩, ⟨(k : Int), 0⟩)] else [] := by
        rw [show min (k + 1) n = min k n + 1 by omega, startC_succ, roots_append, ← HS.out, show min k n = k by omega]
        exact congrArg (S ++ ·) roots_one
      have hop : opn ⟨(k : Int), 0⟩ = (r.has (k : Int) 0 == false) := by rw [HO.out, opnC, inB]; simp; omega
      have HST := Lib.hid hst
      have HOP := Lib.hid hop
      have hk5 : k ≤ 5 := by omega
      have H1 := H.box 62 #[.int .i64 (k : Int), .int .i64 0]
      clear hst hop H
      go_wp2_with fail
      generalize wr.alloc (.cells #[.int .i64 (k : Int), .int .i64 0] 62) = wa at *
      refine (spec_has_c (r := r) _ _ _ ⟨_, rfl, ((hs.keep (SameIn.of_below H1.below (Nat.le_refl _))).more (Nat.le_refl _) H1.size)⟩ HV.out).mono ?_
      rintro e w2 ⟨rfl, hb2⟩
      have H2 := H1.step hb2
      clear H1 c0 c1 hb2
      cases ho : opn ⟨(k : Int), 0⟩
      · have hh : r.has (k : Int) 0 = true := by have := HOP.out; rw [ho] at this; simpa using this.symm
        rw [hh]
        have hst := HST.out
        rw [ho] at hst
        simp only [Bool.false_eq_true, if_false, List.append_nil] at hst
        have HS2 := Lib.hid hst.symm
        have H3 := H2.drop
        clear hst ho hh H2
        go_wp2
        go_roundw
        case rel => exact ⟨k + 1, S, by omega, by go_num, HS2, hS6, H3⟩
        case measure => simp [intOf]; omega
      · have hh : r.has (k : Int) 0 = false := by have := HOP.out; rw [ho] at this; simpa using this.symm
        rw [hh]
        have hst := HST.out
        rw [ho, if_pos rfl] at hst
        have HS2 := Lib.hid hst.symm
        have hS6' : (S ++ [((⟨(k : Int), 0⟩ : Cell), (⟨(k : Int), 0⟩ : Cell))]).length ≤ 6 := by
          rw [← hst]
          refine Nat.le_trans roots_le ?_
          rw [startC_length]; omega
        simp only [List.length_append, List.length_cons, List.length_nil] at hS6'
        have k0 := H2.h0.cell 0
        have k1 := H2.h0.cell 1
        simp at k0 k1
        clear hst ho hh
        go_wp2_with (at_builtin; first
          | (refine wpList_append_own_at _ rfl _ _ 42 rfl 0 62 i0 _ 2 16 Try.underlying42 hi hz0 hz1 hz2 rfl (by decide) _ _ _ rfl (H2.alloc _).h1 ⟨w2.heap.size, 0, none⟩ 1 1 [.int .i64 (k : Int), .int .i64 0] rfl rfl (news_alloc w2 #[.int .i64 (k : Int), .int .i64 0] _) (by intro u hu; simp at hu; rcases hu with rfl | rfl <;> rfl) (by unfold maxLen; omega) (by omega) (Nat.zero_le _) ?_
             intro s' w3 how hgrow _ hat
             have H3 := ((H2.alloc (.cells #[.int .i64 (k : Int), .int .i64 0] 62)).drop.app how hgrow hat)
             clear hat hgrow how H2 k0 k1)
          | (refine wpList_append_own_at _ rfl _ _ 22 rfl 0 3 j0 _ 1 8 Try.underlying22 hj0 hy0 hy1' hy2' rfl (by decide) _ _ _ rfl (H3.alloc _).h1 ⟨w3.heap.size, 0, none⟩ 1 1 [.int .i64 (-1)] rfl rfl (news_alloc w3 #[.int .i64 (-1)] _) (by intro u hu; simp at hu; subst hu; rfl) (by unfold maxLen; omega) (by omega) (Nat.zero_le _) ?_
             intro f' w4 how hgrow _ hat
             have H4 := ((H3.alloc (.cells #[.int .i64 (-1)] 3)).g1.app how hgrow hat).p1
             clear hat hgrow how H3))
        have H5 : Sep w w4 [Res.row s' 62 2 (S ++ [((⟨(k : Int), 0⟩ : Cell), (⟨(k : Int), 0⟩ : Cell))]).length (cc (keys (S ++ [((⟨(k : Int), 0⟩ : Cell), (⟨(k : Int), 0⟩ : Cell))]))), Res.row f' 3 1 (S ++ [((⟨(k : Int), 0⟩ : Cell), (⟨(k : Int), 0⟩ : Cell))]).length (ic (rootsF (S ++ [((⟨(k : Int), 0⟩ : Cell), (⟨(k : Int), 0⟩ : Cell))]))), Res.box w.heap.size 31 #[.int .i64 r.w, .slice A r.rows.length c]] := by
          rw [keys_append, cc_append, List.length_append, rootsF_append, ic_append]; exact H4
        clear H4
        go_roundw
        case rel => exact ⟨k + 1, _, by omega, by go_num, HS2, by simp; omega, H5⟩
        case measure => simp [intOf]; omega
    · have hkn' : k < n := by rw [HN.out]; simp [sideC]; omega
      have hst : roots opn (startC true (min (k + 1) n)) = S ++ if opn ⟨(k : Int), 0⟩ = true then [(⟨(k : Int), 0⟩, ⟨(k : Int), 0⟩)] else [] := by
        rw [show min (k + 1) n = min k n + 1 by omega, startC_succ, roots_append, ← HS.out, show min k n = k by omega]
        exact congrArg (S ++ ·) roots_one
      have hop : opn ⟨(k : Int), 0⟩ = (r.has (k : Int) 0 == false) := by rw [HO.out, opnC, inB]; simp; omega
      have HST := Lib.hid hst
      have HOP := Lib.hid hop
      have hk5 : k ≤ 5 := by omega
      have H1 := H.box 62 #[.int .i64 (k : Int), .int .i64 0]
      clear hst hop H
      go_wp2_with fail
      generalize wr.alloc (.cells #[.int .i64 (k : Int), .int .i64 0] 62) = wa at *
      refine (spec_has_c (r := r) _ _ _ ⟨_, rfl, ((hs.keep (SameIn.of_below H1.below (Nat.le_refl _))).more (Nat.le_refl _) H1.size)⟩ HV.out).mono ?_
      rintro e w2 ⟨rfl, hb2⟩
      have H2 := H1.step hb2
      clear H1 c0 c1 hb2
      cases ho : opn ⟨(k : Int), 0⟩
      · have hh : r.has (k : Int) 0 = true := by have := HOP.out; rw [ho] at this; simpa using this.symm
        rw [hh]
        have hst := HST.out
        rw [ho] at hst
        simp only [Bool.false_eq_true, if_false, List.append_nil] at hst
        have HS2 := Lib.hid hst.symm
        have H3 := H2.drop
        clear hst ho hh H2
        go_wp2
        go_roundw
        case rel => exact ⟨k + 1, S, by omega, by go_num, HS2, hS6, H3⟩
        case measure => simp [intOf]; omega
      · have hh : r.has (k : Int) 0 = false := by have := HOP.out; rw [ho] at this; simpa using this.symm
        rw [hh]
        have hst := HST.out
        rw [ho, if_pos rfl] at hst
        have HS2 := Lib.hid hst.symm
        have hS6' : (S ++ [((⟨(k : Int), 0⟩ : Cell), (⟨(k : Int), 0⟩ : Cell))]).length ≤ 6 := by
          rw [← hst]
          refine Nat.le_trans roots_le ?_
          rw [startC_length]; omega
        simp only [List.length_append, List.length_cons, List.length_nil] at hS6'
        have k0 := H2.h0.cell 0
        have k1 := H2.h0.cell 1
        simp at k0 k1
        clear hst ho hh
        go_wp2_with (at_builtin; first
          | (refine wpList_append_own_at _ rfl _ _ 42 rfl 0 62 i0 _ 2 16 Try.underlying42 hi hz0 hz1 hz2 rfl (by decide) _ _ _ rfl (H2.alloc _).h1 ⟨w2.heap.size, 0, none⟩ 1 1 [.int .i64 (k : Int), .int .i64 0] rfl rfl (news_alloc w2 #[.int .i64 (k : Int), .int .i64 0] _) (by intro u hu; simp at hu; rcases hu with rfl | rfl <;> rfl) (by unfold maxLen; omega) (by omega) (Nat.zero_le _) ?_
             intro s' w3 how hgrow _ hat
             have H3 := ((H2.alloc (.cells #[.int .i64 (k : Int), .int .i64 0] 62)).drop.app how hgrow hat)
             clear hat hgrow how H2 k0 k1)
          | (refine wpList_append_own_at _ rfl _ _ 22 rfl 0 3 j0 _ 1 8 Try.underlying22 hj0 hy0 hy1' hy2' rfl (by decide) _ _ _ rfl (H3.alloc _).h1 ⟨w3.heap.size, 0, none⟩ 1 1 [.int .i64 (-1)] rfl rfl (news_alloc w3 #[.int .i64 (-1)] _) (by intro u hu; simp at hu; subst hu; rfl) (by unfold maxLen; omega) (by omega) (Nat.zero_le _) ?_
             intro f' w4 how hgrow _ hat
             have H4 := ((H3.alloc (.cells #[.int .i64 (-1)] 3)).g1.app how hgrow hat).p1
             clear hat hgrow how H3))
        have H5 : Sep w w4 [Res.row s' 62 2 (S ++ [((⟨(k : Int), 0⟩ : Cell), (⟨(k : Int), 0⟩ : Cell))]).length (cc (keys (S ++ [((⟨(k : Int), 0⟩ : Cell), (⟨(k : Int), 0⟩ : Cell))]))), Res.row f' 3 1 (S ++ [((⟨(k : Int), 0⟩ : Cell), (⟨(k : Int), 0⟩ : Cell))]).length (ic (rootsF (S ++ [((⟨(k : Int), 0⟩ : Cell), (⟨(k : Int), 0⟩ : Cell))]))), Res.box w.heap.size 31 #[.int .i64 r.w, .slice A r.rows.length c]] := by
          rw [keys_append, cc_append, List.length_append, rootsF_append, ic_append]; exact H4
        clear H4
        go_roundw
        case rel => exact ⟨k + 1, _, by omega, by go_num, HS2, by simp; omega, H5⟩
        case measure => simp [intOf]; omega
    · have hkn' : n ≤ k := by rw [HN.out]; simp [sideC]; omega
      have hSe : S = roots opn (startC true n) := by rw [HS.out, show min k n = n by omega]
      have hpar : Par S (rootsF S) := by rw [hSe]; exact Par.roots
      have hinv : BInv opn S := by
        rw [hSe]
        have := roots_inv (opn := opn) (startC_nodup (rows := true) (n := n)) n (by rw [startC_length]; exact Nat.le_refl _)
        rwa [List.take_of_length_le (by rw [startC_length]; exact Nat.le_refl _)] at this
      go_wp2
      go_loopg [10, 11, 15] 36 (fun gk s f iv wr => ∃ (i : Nat) (S : List (Cell × Cell)) (F : List Int), gk + i = 36 ∧ iv = .int .i64 i ∧ i ≤ S.length ∧ BInv opn S ∧ Par S F ∧
        Sep w wr [Res.row s 62 2 S.length (cc (keys S)), Res.row f 3 1 S.length (ic F), Res.box w.heap.size 31 #[.int .i64 r.w, .slice A r.rows.length c]] ∧ Hid (bfs (aroundC true) opn (doneC r true) (gk + 1) S i = R))
      case atStart => exact ⟨0, S, rootsF S, rfl, rfl, Nat.zero_le _, hinv, hpar, H, Lib.hid (by rw [HR.out, wayC, ← HO.out, ← HN.out, hSe])⟩
      case round =>
        obtain ⟨wo, hwo⟩ : ∃ wo : World, wo = wr := ⟨_, rfl⟩
        subst hwo
        clear hinv hpar H hSe
        obtain ⟨i, S, F, hgi, rfl, hiS, hinv, hpar, H, HB⟩ := hrel
        have hSl := hinv.len HG.out
        have hGl : (gridC r).length ≤ 36 := HGL.out
        by_cases hlt : i < S.length
        · obtain ⟨⟨cl, pp⟩, p⟩ : ∃ cl : Cell × Cell, S[i]? = some cl := ⟨S[i], List.getElem?_eq_getElem hlt⟩
          have HP := Lib.hid p
          have hkc : (keys S)[i]? = some cl := by simp [keys, p]
          have hS0 : 0 < S.length := by omega
          obtain ⟨bs, os, cs, rfl, hsn, hsm, hbs⟩ := own_shape H.h0 hS0
          obtain ⟨bf, of, cf, rfl, hfn, hfm, hbf⟩ := own_shape H.h1 hS0
          obtain ⟨q0, q1⟩ := own_cell2 H.h0 hkc
          obtain ⟨d, hd⟩ : ∃ d, d = cl := ⟨_, rfl⟩
          subst hd
          have hin := inB_near HV.out (show inB r d = true by have := hinv.opens _ (List.mem_of_getElem? p); rw [HO.out, opnC] at this; simp only [Bool.and_eq_true] at this; exact this.1)
          obtain ⟨n1, n2, n3, n4⟩ := hin
          have c0 := H.h2.cell 0
          simp at c0
          clear p hkc
          cases hdn : doneC r true d
          · have hbs' : bfs (aroundC true) opn (doneC r true) gk (expand (aroundC true) opn S d) (i + 1) = R := by
              have := HB.out
              rw [bfs, HP.out] at this
              simpa [hdn] using this
            have HB2 := Lib.hid hbs'
            have dd : (d.y == (r.rows.length : Int) - 1) = false := by simpa [doneC] using hdn
            clear hbs' hdn
            go_wp2_with fail
            go_quiet (fail)
            have H2 := H.drewN nq
            obtain ⟨q0, q1⟩ := own_cell2 (l := keys S) (j := i) (u := d) H2.h0 (by simp [keys, HP.out])
            clear c0 dd H hbs hbf
            generalize wo.drewN nq = wq at *
            go_wp2
            obtain ⟨wo1, hwo1⟩ : ∃ wo1 : World, wo1 = wq := ⟨_, rfl⟩
            subst hwo1
            clear q0 q1
            go_loopw [10, 11, 18] (fun s f yv wr => ∃ (k : Nat) (Y : Int) (T : List (Cell × Cell)) (F : List Int), k ≤ 3 ∧ yv = .int .i64 Y ∧ Hid (Y = d.y + ((k : Int) - 1)) ∧ d.y - 1 ≤ Y ∧ Y ≤ d.y + 2 ∧ Hid (T = ((roundsTo d k).filter (nr true d)).foldl (addN opn d) S) ∧ BInv opn T ∧ Par T F ∧ i < T.length ∧ Hid (T[i]? = some (d, pp)) ∧
              Sep w wr [Res.row s 62 2 T.length (cc (keys T)), Res.row f 3 1 T.length (ic F), Res.box w.heap.size 31 #[.int .i64 r.w, .slice A r.rows.length c]]) (fun _ _ yv _ => (d.y + 2 - intOf yv).toNat)
            case atStart => exact ⟨0, d.y - 1, S, F, by omega, by go_num, Lib.hid (by omega), by omega, by omega, Lib.hid (by simp [roundsTo]), hinv, hpar, hlt, HP, H2⟩
            case round =>
              clear hinv hpar H2 hiS hSl hlt hsn hsm hfn hfm
              obtain ⟨k, Y, T, FT, hk, rfl, HY, hy1, hy2, HT, hinv, hpar, hiT, HTI, H⟩ := hrel
              have hTl := hinv.len HG.out
              have hT0 : 0 < T.length := by omega
              obtain ⟨bs, os, cs, rfl, hsn, hsm, hbs⟩ := own_shape H.h0 hT0
              obtain ⟨bf, of, cf, rfl, hfn, hfm, hbf⟩ := own_shape H.h1 hT0
              obtain ⟨q0, q1⟩ := own_cell2 (l := keys T) (j := i) (u := d) H.h0 (by simp [keys, HTI.out])
              obtain ⟨wo2, hwo2⟩ : ∃ wo2 : World, wo2 = wr := ⟨_, rfl⟩
              subst hwo2
              by_cases hlk : k < 3
              · have hY3 : Y ≤ d.y + 1 := by have := HY.out; omega
                go_wp2
                clear q0 q1
                go_loopw [10, 11, 19] (fun s f xv wr => ∃ (j : Nat) (X : Int) (T : List (Cell × Cell)) (F : List Int), j ≤ 3 ∧ xv = .int .i64 X ∧ Hid (X = d.x + ((j : Int) - 1)) ∧ d.x - 1 ≤ X ∧ X ≤ d.x + 2 ∧ Hid (T = ((roundsTo d k ++ rowR d k j).filter (nr true d)).foldl (addN opn d) S) ∧ BInv opn T ∧ Par T F ∧ i < T.length ∧ Hid (T[i]? = some (d, pp)) ∧
                  Sep w wr [Res.row s 62 2 T.length (cc (keys T)), Res.row f 3 1 T.length (ic F), Res.box w.heap.size 31 #[.int .i64 r.w, .slice A r.rows.length c]]) (fun _ _ xv _ => (d.x + 2 - intOf xv).toNat)
                case atStart => exact ⟨0, d.x - 1, T, FT, by omega, by go_num, Lib.hid (by omega), by omega, by omega, Lib.hid (by rw [HT.out]; simp [rowR]), hinv, hpar, hiT, HTI, H⟩
                case round =>
                  clear hinv hpar H hiT hTl hT0 hsn hsm hbs hfn hfm hbf HTI
                  obtain ⟨j, X, T2, F2, hj, rfl, HX, hx1, hx2, HT2, hinv, hpar, hiT, HTI, H⟩ := hrel
                  have hTl := hinv.len HG.out
                  have hT0 : 0 < T2.length := by omega
                  obtain ⟨bs, os, cs, rfl, hsn, hsm, hbs⟩ := own_shape H.h0 hT0
                  obtain ⟨bf, of, cf, rfl, hfn, hfm, hbf⟩ := own_shape H.h1 hT0
                  obtain ⟨q0, q1⟩ := own_cell2 (l := keys T2) (j := i) (u := d) H.h0 (by simp [keys, HTI.out])
                  by_cases hlj : j < 3
                  · have hX3 : X ≤ d.x + 1 := by have := HX.out; omega
                    obtain ⟨dd, hdd⟩ : ∃ dd : Cell, dd = ⟨X, Y⟩ := ⟨_, rfl⟩
                    have hkeep : (mapAt T2 ⟨X, Y⟩ ≠ none ∨ opn ⟨X, Y⟩ = false ∨ nr true d ⟨X, Y⟩ = false) → T2 = ((roundsTo d k ++ rowR d k (j + 1)).filter (nr true d)).foldl (addN opn d) S := by
                      intro h
                      rw [rowR_succ, ← List.append_assoc, ← HX.out, ← HY.out, HT2.out]
                      exact (fold_keep ⟨X, Y⟩ (by rw [← HT2.out]; exact h)).symm
                    have hadd : mapAt T2 ⟨X, Y⟩ = none → opn ⟨X, Y⟩ = true → nr true d ⟨X, Y⟩ = true → T2 ++ [(⟨X, Y⟩, d)] = ((roundsTo d k ++ rowR d k (j + 1)).filter (nr true d)).foldl (addN opn d) S := by
                      intro h1 h2 h3
                      rw [rowR_succ, ← List.append_assoc, ← HX.out, ← HY.out, HT2.out]
                      have hne : (j == 1 && k == 1) = false := by
                        rw [Bool.eq_false_iff]
                        intro hc
                        simp at hc
                        have e1 := HX.out
                        have e2 := HY.out
                        rw [hc.1] at e1
                        rw [hc.2] at e2
                        have : (⟨X, Y⟩ : Cell) = d := Cell.ext (by simp; omega) (by simp; omega)
                        rw [this, mapAt_some hinv.nodup HTI.out] at h1
                        cases h1
                      exact (fold_add ⟨X, Y⟩ hne (by rw [← HT2.out]; exact h1) h2 h3).symm
                    have HK := Lib.hid hkeep
                    have HADD := Lib.hid hadd
                    clear hkeep hadd
                    clear dd hdd
                    have hout : ¬ (0 ≤ X ∧ X < r.w ∧ 0 ≤ Y ∧ Y < r.rows.length) → opn ⟨X, Y⟩ = false := fun h => by rw [HO.out, opnC, inB]; simp only [h, decide_false, Bool.false_and]
                    have HOUT := Lib.hid hout
                    have c0 := H.h2.cell 0
                    have c1 := H.h2.cell 1
                    simp at c0 c1
                    clear hout
                    by_cases hX0 : X < 0
                    · skip
                      go_wp2
                      go_roundw
                      case rel => exact ⟨j + 1, X + 1, T2, F2, by omega, by go_num, Lib.hid (by have := HX.out; omega), by omega, by omega, Lib.hid (HK.out (.inr (.inl (HOUT.out (by omega))))), hinv, hpar, hiT, HTI, H⟩
                      case measure => simp [intOf]; omega
                    by_cases hY0 : Y < 0
                    · skip
                      go_wp2
                      go_roundw
                      case rel => exact ⟨j + 1, X + 1, T2, F2, by omega, by go_num, Lib.hid (by have := HX.out; omega), by omega, by omega, Lib.hid (HK.out (.inr (.inl (HOUT.out (by omega))))), hinv, hpar, hiT, HTI, H⟩
                      case measure => simp [intOf]; omega
                    by_cases hXw : r.w ≤ X
                    · skip
                      go_wp2
                      go_roundw
                      case rel => exact ⟨j + 1, X + 1, T2, F2, by omega, by go_num, Lib.hid (by have := HX.out; omega), by omega, by omega, Lib.hid (HK.out (.inr (.inl (HOUT.out (by omega))))), hinv, hpar, hiT, HTI, H⟩
                      case measure => simp [intOf]; omega
                    by_cases hYh : (r.rows.length : Int) ≤ Y
                    · skip
                      go_wp2
                      go_roundw
                      case rel => exact ⟨j + 1, X + 1, T2, F2, by omega, by go_num, Lib.hid (by have := HX.out; omega), by omega, by omega, Lib.hid (HK.out (.inr (.inl (HOUT.out (by omega))))), hinv, hpar, hiT, HTI, H⟩
                      case measure => simp [intOf]; omega
                    go_wp2_with fail
                    clear q0 q1 c0 c1
                    refine (hasCell_c (l := keys T2) X Y wr (by have := H.oi.sr.more (Nat.zero_le _) (Nat.le_refl _); rw [← keys_length] at this; rw [← keys_length]; exact this) (by rw [keys_length]; omega)).mono ?_
                    rintro e w2 ⟨rfl, hb2⟩
                    have H2 := H.step hb2
                    clear hb2 H
                    cases hmm : decide ((⟨X, Y⟩ : Cell) ∈ keys T2)
                    · have hmn : mapAt T2 ⟨X, Y⟩ = none := mapAt_none.2 (of_decide_eq_false hmm)
                      have c0 := H2.h2.cell 0
                      have c1 := H2.h2.cell 1
                      simp at c0 c1
                      have HMN := Lib.hid hmn
                      clear hmm hmn
                      go_wp2_with fail
                      clear c0 c1
                      refine (spec_has_c (r := r) X Y w2 ⟨_, rfl, ((hs.keep (SameIn.of_below H2.below (Nat.le_refl _))).more (Nat.le_refl _) H2.size)⟩ HV.out).mono ?_
                      rintro e w3 ⟨rfl, hb3⟩
                      have H3 := H2.step hb3
                      clear hb3 H2
                      have hop : opn ⟨X, Y⟩ = (r.has X Y == false) := by rw [HO.out, opnC, inB]; simp; omega
                      cases ho : opn ⟨X, Y⟩
                      · have hh : r.has X Y = true := by rw [ho] at hop; simpa using hop.symm
                        rw [hh]
                        have HOF := Lib.hid ho
                        clear hh ho hop
                        go_wp2
                        go_roundw
                        case rel => exact ⟨j + 1, X + 1, T2, F2, by omega, by go_num, Lib.hid (by have := HX.out; omega), by omega, by omega, Lib.hid (HK.out (.inr (.inl HOF.out))), hinv, hpar, hiT, HTI, H3⟩
                        case measure => simp [intOf]; omega
                      · have hh : r.has X Y = false := by rw [ho] at hop; simpa using hop.symm
                        have hmn := HMN.out
                        rw [hh]
                        clear hop
                        have hnr : nr true d ⟨X, Y⟩ = true := by simp [nr]
                        have hnw := HADD.out hmn ho hnr
                        have hinv2 := hinv.snoc hmn ho (.inr ⟨i, pp, HTI.out⟩)
                        have hpar2 := hpar.snoc (c := ⟨X, Y⟩) (p := d) (f := (i : Int)) (.inr ⟨i, pp, rfl, hiT, HTI.out, fun e => by subst e; rw [mapAt_some hinv.nodup HTI.out] at hmn; cases hmn⟩)
                        have hTl2 := hinv2.len HG.out
                        simp only [List.length_append, List.length_cons, List.length_nil] at hTl2
                        have hti2 : (T2 ++ [((⟨X, Y⟩ : Cell), d)])[i]? = some (d, pp) := by rw [List.getElem?_append_left hiT]; exact HTI.out
                        have hFl : F2.length = T2.length := hpar.1
                        have HNW := Lib.hid hnw
                        have HTI2 := Lib.hid hti2
                        have HI2 := Lib.hid hinv2
                        have HP2 := Lib.hid hpar2
                        clear hnw hinv2 hpar2 hti2 hFl hmn ho hnr hh
                        go_wp2_with (at_builtin; first
                          | (refine wpList_append_own_at _ rfl _ _ 42 rfl 0 62 i0 _ 2 16 Try.underlying42 hi hz0 hz1 hz2 rfl (by decide) _ _ _ rfl (H3.alloc _).h0 ⟨w3.heap.size, 0, none⟩ 1 1 [.int .i64 X, .int .i64 Y] rfl rfl (news_alloc w3 #[.int .i64 X, .int .i64 Y] _) (by intro u hu; simp at hu; rcases hu with rfl | rfl <;> rfl) (by unfold maxLen; omega) (by omega) (Nat.zero_le _) ?_
                             intro s' w5 how hgrow _ hat
                             have H5 := (H3.alloc (.cells #[.int .i64 X, .int .i64 Y] 62)).app how hgrow hat
                             clear how hgrow hat H3)
                          | (refine wpList_append_own_at _ rfl _ _ 22 rfl 0 3 j0 _ 1 8 Try.underlying22 hj0 hy0 hy1' hy2' rfl (by decide) _ _ _ rfl (H5.alloc _).h1 ⟨w5.heap.size, 0, none⟩ 1 1 [.int .i64 (i : Int)] rfl rfl (news_alloc w5 #[.int .i64 (i : Int)] _) (by intro u hu; simp at hu; subst hu; rfl) (by unfold maxLen; omega) (by omega) (Nat.zero_le _) ?_
                             intro f' w6 how hgrow _ hat
                             have H6 := ((H5.alloc (.cells #[.int .i64 (i : Int)] 3)).g1.app how hgrow hat).p1
                             clear how hgrow hat H5))
                        have H7 : Sep w w6 [Res.row s' 62 2 (T2 ++ [((⟨X, Y⟩ : Cell), d)]).length (cc (keys (T2 ++ [((⟨X, Y⟩ : Cell), d)]))), Res.row f' 3 1 (T2 ++ [((⟨X, Y⟩ : Cell), d)]).length (ic (F2 ++ [(i : Int)])), Res.box w.heap.size 31 #[.int .i64 r.w, .slice A r.rows.length c]] := by
                          rw [keys_append, cc_append, ic_append, List.length_append]; exact H6
                        clear H6
                        go_roundw
                        case rel => exact ⟨j + 1, X + 1, _, _, by omega, by go_num, Lib.hid (by have := HX.out; omega), by omega, by omega, HNW, HI2.out, HP2.out, by simp; omega, HTI2, H7⟩
                        case measure => simp [intOf]; omega
                    · have hmn : mapAt T2 ⟨X, Y⟩ ≠ none := fun h => by have := mapAt_none.1 h; exact this (of_decide_eq_true hmm)
                      have HMN := Lib.hid hmn
                      clear hmm hmn
                      go_wp2
                      go_roundw
                      case rel => exact ⟨j + 1, X + 1, T2, F2, by omega, by go_num, Lib.hid (by have := HX.out; omega), by omega, by omega, Lib.hid (HK.out (.inl HMN.out)), hinv, hpar, hiT, HTI, H2⟩
                      case measure => simp [intOf]; omega
                  · have hX3 : ¬ X ≤ d.x + 1 := by have := HX.out; omega
                    go_wp2
                    go_roundw
                    case rel =>
                      obtain rfl : j = 3 := by omega
                      exact ⟨k + 1, Y + 1, T2, F2, by omega, by go_num, Lib.hid (by rw [HY.out]; omega), by omega, by omega, Lib.hid (by rw [HT2.out, roundsTo_succ]), hinv, hpar, hiT, HTI, H⟩
                    case measure => simp [intOf]; omega
              · have hY3 : ¬ Y ≤ d.y + 1 := by have := HY.out; omega
                go_wp2
                go_roundg (gk - 1)
                case measure => omega
                case rel =>
                  obtain rfl : k = 3 := by omega
                  exact ⟨i + 1, T, FT, by omega, by go_num, by omega, hinv, hpar, H, Lib.hid (by rw [show gk - 1 + 1 = gk by omega, HT.out]; exact HB2.out)⟩
          · have hRs : R = some (wayGo S S.length d [d]) := by
              have := HB.out
              rw [bfs, HP.out] at this
              simpa [hdn] using this.symm
            obtain ⟨way, hway⟩ : ∃ way, way = wayGo S S.length d [d] := ⟨_, rfl⟩
            rw [← hway] at hRs
            subst hRs
            have HW := Lib.hid hway
            have dd : (d.y == (r.rows.length : Int) - 1) = true := by simpa [doneC] using hdn
            have HINV := Lib.hid hinv
            have HPAR := Lib.hid hpar
            clear hway hdn HB hinv hpar
            go_wp2_with fail
            go_quiet (fail)
            have H2 := (H.drewN nq).rowBox 62 #[] 2 0 rfl (by decide)
            clear q0 q1 c0 dd H
            go_wp2
            generalize (wo.drewN nq).alloc (.cells #[] 62) = wB at *
            go_loopg [16, 17] S.length (fun gk2 ov kv wr => ∃ (out : List Cell) (gw cw : Nat), ov = .slice (some ⟨gw, 0, none⟩) out.length cw ∧ out.length + gk2 ≤ S.length ∧
              Sep w wr [Res.row ov 62 2 out.length (cc out), Res.row (.slice (some ⟨bs, os, none⟩) S.length cs) 62 2 S.length (cc (keys S)), Res.row (.slice (some ⟨bf, of, none⟩) S.length cf) 3 1 S.length (ic F), Res.box w.heap.size 31 #[.int .i64 r.w, .slice A r.rows.length c]] ∧
              ((kv = .int .i64 (-1) ∧ out = way) ∨ ∃ (j : Nat) (ci pj : Cell), kv = .int .i64 j ∧ S[j]? = some (ci, pj) ∧ j < gk2 ∧ wayGo S gk2 ci (ci :: out) = way))
            case atStart => exact ⟨[], _, _, rfl, by simp, H2, .inr ⟨i, d, pp, rfl, HP.out, hlt, HW.out.symm⟩⟩
            case round =>
              clear H2
              obtain ⟨out, gw, cw, rfl, hol, H, hk⟩ := hrel
              rcases hk with ⟨rfl, hway⟩ | ⟨j, ci, pj, rfl, hj, hjg, hwg⟩
              · subst hway
                go_wp2
                go_ret2
                exact ⟨_, rfl, CellsIn.mk H.oi.1 rfl rfl, H.below⟩
              · have hkj : (keys S)[j]? = some ci := by simp [keys, hj]
                obtain ⟨k0, k1⟩ := own_cell2 H.h1 hkj
                have hjS : j < S.length := (List.getElem?_eq_some_iff.1 hj).1
                obtain ⟨fj, hfj⟩ : ∃ fj, F[j]? = some fj := ⟨F[j]'(by rw [HPAR.out.1]; exact hjS), List.getElem?_eq_getElem _⟩
                have hma := mapAt_some HINV.out.nodup hj
                have hnext : (fj = -1 ∧ ci :: out = way) ∨ ∃ (j' : Nat) (pj' q : Cell), fj = (j' : Int) ∧ S[j']? = some (pj', q) ∧ j' < gk - 1 ∧ wayGo S (gk - 1) pj' (pj' :: ci :: out) = way := by
                  rw [show gk = (gk - 1) + 1 by omega, wayGo, hma] at hwg
                  rcases HPAR.out.2 j ci pj hj with ⟨h1, h2⟩ | ⟨k', q, h1, h2, h3, h4⟩
                  · rw [hfj] at h1
                    injection h1 with h1
                    exact .inl ⟨h1, by simpa [h2] using hwg⟩
                  · rw [hfj] at h1
                    injection h1 with h1
                    exact .inr ⟨k', pj, q, h1, h3, by omega, by simpa [h4] using hwg⟩
                have HN2 := Lib.hid hnext
                have ho1 : out.length + 1 ≤ 40 := by omega
                clear hkj hj hwg hma hnext
                have Hn := H.rowBox 62 #[.int .i64 ci.x, .int .i64 ci.y] 2 1 rfl (by decide)
                have hl2 := H.h0.1
                have hce := (H.alloc (.cells #[.int .i64 ci.x, .int .i64 ci.y] 62)).h0.cells (g := gw) rfl
                have HCE := Lib.hid hce
                have HFJ := Lib.hid hfj
                clear hce hfj
                go_wp2_with (at_builtin; refine wpList_append_own_at _ rfl _ _ 42 rfl 0 62 i0 _ 2 16 Try.underlying42 hi hz0 hz1 hz2 rfl (by decide) _ _ _ rfl Hn.h0 ⟨gw, 0, none⟩ out.length cw (cc out) rfl hl2 HCE.out cc_one (by unfold maxLen; omega) (by omega) (Nat.zero_le _) ?_; intro v' w3 how hgrow _ hat; have H3 := (Hn.app how hgrow hat).drop2; clear Hn how hgrow hat H; have kf := own_cell1 H3.h2 HFJ.out)
                have ho2 : (ci :: out).length = 1 + out.length := by simp; omega
                obtain ⟨gv, cv1, rfl, _, _, _⟩ := own_at H3.h0 (by omega)
                rcases HN2.out with ⟨rfl, hway⟩ | ⟨j', pj', q', rfl, hj', hj'g, hwg'⟩
                all_goals
                  go_wp2
                  go_roundg (gk - 1)
                  case measure => omega
                case rel => exact ⟨ci :: out, gv, cv1, by rw [ho2], by simp; omega, by rw [ho2]; exact H3, .inl ⟨rfl, hway⟩⟩
                case rel => exact ⟨ci :: out, gv, cv1, by rw [ho2], by simp; omega, by rw [ho2]; exact H3, .inr ⟨j', pj', q', rfl, hj', hj'g, hwg'⟩⟩
        · have hbn : R = none := by rw [← HB.out]; exact bfs_end (by omega)
          subst hbn
          obtain ⟨As, cs, rfl, hsn, hsm, hsr⟩ := Res.row_at H.h0
          clear hsr
          have H2 := H.rowBox 62 #[] 2 0 rfl (by decide)
          go_wp2
          go_ret2
          exact ⟨_, rfl, CellsIn.mk H2.oi.1 rfl rfl, H2.below⟩
end Go.Proofs.Ytjmeplchabehfaa
