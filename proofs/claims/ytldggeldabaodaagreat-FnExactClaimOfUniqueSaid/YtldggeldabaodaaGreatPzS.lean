
/-
  Puzzles, the reference's search.
-/
import Derived.Test.YtldggeldabaodaaGreatPzP
import Derived.Test.YtldggeldabaodaaGreatRowX
import Derived.Test.YtldggeldabaodaaGreatCwWalks
import Derived.IntWalk
import Derived.Deep.DeepCutAuto
namespace Go.Proofs.YtldggeldabaodaaGreat
open Go.RowKit

set_option maxRecDepth 100000 in
theorem infoIntY : (Tryz.prog.info? 3).map (fun i => (i.zero, i.size, i.bytes)) = some (some (.int .i64 0), 1, 8) := by kernel_rfl
set_option maxRecDepth 100000 in
theorem infoRowY : (Tryz.prog.info? 22).map (fun i => (i.zero, i.size, i.bytes)) = some (some (.slice none 0 0), 1, 24) := by kernel_rfl
theorem ocY {v : Value} (h : v.oneCell' = true) : ∀ u ∈ [v], u.oneCell' = true := by intro u hu; simp at hu; subst hu; exact h
theorem ssrd_at {w : World} {A : Option Addr} {n c i : Nat} {M : List (List Int)} {r : List Int} (h : IntSSRd w 0 w.heap.size (.slice A n c) M) (hi : M[i]? = some r) : ∃ b off A' c', A = some ⟨b, off, none⟩ ∧ b < w.heap.size ∧ w.cell? ⟨b, off + i, none⟩ = some (.slice A' r.length c') ∧ IntsRd w 0 w.heap.size (.slice A' r.length c') r := by
  obtain ⟨vs, ⟨A0, c0, e, _, hr⟩, hs⟩ := h
  injection e with e1 e2 e3
  subst e1
  obtain ⟨b, off, e4, _, hb, hc⟩ := hr.2 (by have := (List.getElem?_eq_some_iff.1 hi).1; omega)
  obtain ⟨x, hx, hrx⟩ := hs.2 i r hi
  obtain ⟨A', c', rfl, h1, h2⟩ := id hrx
  exact ⟨b, off, A', c', e4, hb, hc i _ hx, ⟨A', c', rfl, h1, h2⟩⟩
theorem ints_atY {w : World} {A : Option Addr} {n c i : Nat} {l : List Int} {y : Int} (h : IntsRd w 0 w.heap.size (.slice A n c) l) (hy : l[i]? = some y) : ∃ b off, A = some ⟨b, off, none⟩ ∧ b < w.heap.size ∧ w.cell? ⟨b, off + i, none⟩ = some (.int .i64 y) := by
  obtain ⟨A', c', e, _, hr⟩ := h
  injection e with e1 e2 e3
  subst e1
  obtain ⟨b, off, e4, _, hb, hc⟩ := hr.2 (by have := (List.getElem?_eq_some_iff.1 hy).1; omega)
  exact ⟨b, off, e4, hb, hc i _ (by simp [ic, hy])⟩
set_option maxRecDepth 100000 in
/-- no hints -/
theorem none_c {w0 w : World} {n : Nat} {L : List Res} (hn : n ≤ 1000) (H : Sep w0 w L) :
    Calls Tryz.prog 53 #[.int .i64 n] w (fun e w' => ∃ v, e = .returned v ∧ Sep w0 w' (Res.row v 3 1 n (ic (List.replicate n (-1))) :: L)) := by
  obtain ⟨i0, hi, hz0, hz1, hz2⟩ := info_parts infoIntY
  have H0 := H.rowBox 3 #[] 1 0 rfl (by decide)
  clear H
  go_enter Tryz.func53, Tryz.ntmps53
  go_wp2
  go_loopw [3, 4] (fun ov kv wx => ∃ k : Nat, k ≤ n ∧ kv = .int .i64 k ∧ Sep w0 wx (Res.row ov 3 1 k (ic (List.replicate k (-1))) :: L)) (fun _ kv _ => n - (intOf kv).toNat)
  case atStart => exact ⟨0, Nat.zero_le _, rfl, H0⟩
  case round =>
    clear H0
    obtain ⟨k, hk, rfl, H⟩ := hrel
    by_cases hlt : k < n
    · have hlti : (k : Int) < (n : Int) := by omega
      have HST : Hid (ic (List.replicate (k + 1) (-1 : Int)) = ic (List.replicate k (-1)) ++ [.int .i64 (-1)]) := Lib.hid (by rw [List.replicate_succ', ic_append]; rfl)
      go_wp2_with (at_builtin; refine wpList_app rfl _ _ 22 rfl 3 i0 _ 1 8 Tryz.underlying22 hi hz0 hz1 hz2 rfl (by decide) _ _ _ rfl (H.alloc _) _ _ _ [.int .i64 (-1)] rfl (Rd.fresh _ 3 #[.int .i64 (-1)] 1 1 rfl) oc1 (by unfold maxLen; omega) (by omega) ?_; intro v4 w4 H4)
      rw [← HST.out] at H4
      clear H
      go_wp2
      go_roundw
      case rel => exact ⟨k + 1, by omega, by go_num, H4⟩
      case measure => simp [intOf]; omega
    · obtain rfl : k = n := by omega
      go_wp2
      go_ret
      exact ⟨_, rfl, H⟩
def SrPost (S : List (List Nat)) (w : World) (e : Ending) (w' : World) : Prop := ∃ g n c vs, e = .returned (.slice (some ⟨g, 0, none⟩) n c) ∧ n = S.length ∧ Sep w w' [Res.row (.slice (some ⟨g, 0, none⟩) n c) 22 1 n vs, Res.rows vs (S.map nl)]
theorem SrPost.mk {S T : List (List Nat)} {w w' : World} {g n c : Nat} {vs : List Value} (hS : S = T) (hn : n = S.length) (H : Sep w w' [Res.row (.slice (some ⟨g, 0, none⟩) n c) 22 1 n vs, Res.rows vs (S.map nl)]) : SrPost T w (.returned (.slice (some ⟨g, 0, none⟩) n c)) w' := by
  subst hS
  exact ⟨g, n, c, vs, rfl, hn, H⟩
def SrC (k : Nat) (pv hv : Value) (at' : List (List Nat)) (d : Nat) : Prop := ∀ (w : World) (free most i : Nat), i + d = k → k = at'.length → k ≤ 1000 → (∀ P ∈ at', P.length ≤ 1000000 ∧ ∀ m ∈ P, m < 2 ^ 36) → free < 2 ^ 36 → 1 ≤ most → most ≤ 300 →
  IntSSRd w 0 w.heap.size pv (at'.map nl) → IntsRd w 0 w.heap.size hv (List.replicate k (-1)) → Calls Tryz.prog 91 #[pv, hv, .int .i64 free, .int .i64 i, .int .i64 most] w (SrPost ((pzS (at'.drop i) free).take most) w)
set_option maxRecDepth 100000 in
set_option maxHeartbeats 1600000 in
theorem sr_zero (k : Nat) (pv hv : Value) (at' : List (List Nat)) : SrC k pv hv at' 0 := by
  intro w free most i hd hk hk5 _ hf h1 h3 hp hh
  obtain rfl : i = k := by omega
  obtain ⟨vs, ⟨A, c, rfl, _, _⟩, _⟩ := hp
  obtain ⟨Ah, ch, rfl, _, _⟩ := hh
  have hlen : (at'.map nl).length = i := by rw [List.length_map]; exact hk.symm
  rw [hlen]
  have hlr : (List.replicate i (-1 : Int)).length = i := List.length_replicate
  rw [hlr]
  have HD : Hid (pzS (at'.drop i) free = if free = 0 then [[]] else []) := Lib.hid (by rw [hk, List.drop_length]; rfl)
  clear hlen hlr hk
  by_cases h0 : free = 0
  · subst h0
    have Ha := (Sep.start w).rowBox 3 #[] 1 0 rfl (by decide)
    have Hb := Sep.rowsSnoc (r := []) Ha.rowsNil rfl
    have H0 := Hb.rowBox 22 #[.slice (some ⟨w.heap.size, 0, none⟩) 0 0] 1 1 rfl (by decide)
    simp only [World.size_alloc] at H0
    clear Ha Hb
    have HT : Hid ((if (0 : Nat) = 0 then [[]] else [] : List (List Nat)).take most = [[]]) := Lib.hid (by
      obtain ⟨q, rfl⟩ : ∃ q, most = q + 1 := ⟨most - 1, by omega⟩
      simp)
    go_enter Tryz.func91, Tryz.ntmps91
    go_wp2
    go_ret
    exact SrPost.mk (S := [[]]) (by rw [HD.out, HT.out]) rfl H0
  · have hz : ((free : Int) == 0) = false := by simp; omega
    have H0 := (Sep.start w).rowsNil.rowBox 22 #[] 1 0 rfl (by decide)
    have HZ := Lib.hid h0
    clear h0
    go_enter Tryz.func91, Tryz.ntmps91
    go_wp2
    go_ret
    exact SrPost.mk (S := []) (by rw [HD.out, if_neg HZ.out, List.take_nil]) rfl H0
/-- what is found with the first q placements -/
def srQ (at' : List (List Nat)) (free most i : Nat) (P : List Nat) (q : Nat) : List (List Nat) := ((P.take q).flatMap (pzAt (pzS (at'.drop (i + 1))) free)).take most
theorem srQ_len {at' : List (List Nat)} {free most i q : Nat} {P : List Nat} : (srQ at' free most i P q).length ≤ most := by unfold srQ; rw [List.length_take]; omega
theorem srQ_skip {at' : List (List Nat)} {free most i q m : Nat} {P : List Nat} (hm : P[q]? = some m) (hn : ¬ m &&& free = m) : srQ at' free most i P (q + 1) = srQ at' free most i P q := by
  unfold srQ
  rw [pz_take hm, show pzAt (pzS (at'.drop (i + 1))) free m = [] by unfold pzAt; rw [if_neg hn], List.append_nil]
theorem srQ_yes {at' : List (List Nat)} {free most i q m : Nat} {P : List Nat} (hm : P[q]? = some m) (hy : m &&& free = m) (hl : (srQ at' free most i P q).length < most) :
    srQ at' free most i P (q + 1) = srQ at' free most i P q ++ ((pzS (at'.drop (i + 1)) (free - m)).take (most - (srQ at' free most i P q).length)).map (m :: ·) := by
  have hX : (srQ at' free most i P q).length = ((P.take q).flatMap (pzAt (pzS (at'.drop (i + 1))) free)).length := by
    unfold srQ at hl ⊢
    rw [List.length_take] at hl ⊢
    omega
  rw [hX] at hl ⊢
  unfold srQ
  rw [pz_take hm]
  generalize (P.take q).flatMap (pzAt (pzS (at'.drop (i + 1))) free) = X at *
  rw [List.take_append, show pzAt (pzS (at'.drop (i + 1))) free m = (pzS (at'.drop (i + 1)) (free - m)).map (m :: ·) by unfold pzAt; rw [if_pos hy], List.map_take]
theorem srQ_full {at' : List (List Nat)} {free most i q : Nat} {P : List Nat} (hP : at'[i]? = some P) (h : most ≤ (srQ at' free most i P q).length) : srQ at' free most i P q = (pzS (at'.drop i) free).take most := by
  unfold srQ at h ⊢
  rw [List.length_take] at h
  rw [pzS_drop hP, pz_split (P := P) q, List.take_append, show most - ((P.take q).flatMap (pzAt (pzS (at'.drop (i + 1))) free)).length = 0 by omega, List.take_zero, List.append_nil]
theorem srQ_end {at' : List (List Nat)} {free most i q : Nat} {P : List Nat} (hP : at'[i]? = some P) (hq : q = P.length) : srQ at' free most i P q = (pzS (at'.drop i) free).take most := by
  unfold srQ
  rw [pzS_drop hP, hq, List.take_length]
set_option maxRecDepth 100000 in
set_option maxHeartbeats 3200000 in
theorem sr_step (k : Nat) (pv hv : Value) (at' : List (List Nat)) (d : Nat) (ih : SrC k pv hv at' d) : SrC k pv hv at' (d + 1) := by
  intro w free most i hd hk hk5 hmsk hf hm1 hm3 hp hh
  obtain ⟨i0, hi, hz0, hz1, hz2⟩ := info_parts infoRowY
  obtain ⟨j0, hj, hy0, hy1, hy2⟩ := info_parts infoIntY
  have HIH := Lib.hid ih
  have HMSK := Lib.hid hmsk
  have HD := Lib.hid hd
  have HK := Lib.hid hk
  have HF := Lib.hid hf
  have HPR : Hid (∀ w1, Below w.heap.size w w1 → IntSSRd w1 0 w1.heap.size pv (at'.map nl)) := Lib.hid fun w1 b1 => (hp.keep (SameIn.of_below b1 (Nat.le_refl _))).more (Nat.le_refl _) b1.size
  have HHR : Hid (∀ w1, Below w.heap.size w w1 → IntsRd w1 0 w1.heap.size hv (List.replicate k (-1))) := Lib.hid fun w1 b1 => (hh.keep (SameIn.of_below b1 (Nat.le_refl _))).more (Nat.le_refl _) b1.size
  have hik : i < k := by omega
  obtain ⟨P, hP⟩ : ∃ P, at'[i]? = some P := ⟨at'[i]'(by rw [← hk]; exact hik), List.getElem?_eq_getElem _⟩
  obtain ⟨vs0, ⟨Av, cv, rfl, _, _⟩, _⟩ := id hp
  obtain ⟨Ah, ch, rfl, _, _⟩ := id hh
  have hlen : (at'.map nl).length = k := by rw [List.length_map]; exact hk.symm
  have hlr : (List.replicate k (-1 : Int)).length = k := List.length_replicate
  rw [hlen] at hp HPR HIH ⊢
  rw [hlr] at hh HHR HIH ⊢
  obtain ⟨bv, ov, Ap, cp, rfl, hbv, x0, hrp⟩ := ssrd_at hp (show (at'.map nl)[i]? = some (nl P) by rw [List.getElem?_map, hP]; rfl)
  obtain ⟨bh, oh, rfl, hbh, z0⟩ := ints_atY hh (show (List.replicate k (-1 : Int))[i]? = some (-1) by simp [hik])
  have hnl : (nl P).length = P.length := by simp [nl]
  obtain ⟨m, hm⟩ : ∃ m, m = P.length := ⟨_, rfl⟩
  rw [hnl, ← hm] at x0 hrp
  have HMP := Lib.hid (hmsk P (List.mem_of_getElem? hP))
  have hm6 : m ≤ 1000000 := by rw [hm]; exact HMP.out.1
  have HM := Lib.hid hm
  have HP := Lib.hid hP
  have HX0 := Lib.hid x0
  have HRP := Lib.hid hrp
  have HZ0 := Lib.hid z0
  have hik2 : ((i : Int) == (k : Int)) = false := by simp; omega
  have H1 := ((Sep.start w).rowsNil).rowBox 22 #[] 1 0 rfl (by decide)
  clear hd hk hmsk hf hp hh hlen hlr hnl hm hP hrp ih x0 z0
  go_enter Tryz.func91, Tryz.ntmps91
  go_wp2
  go_loopw [11, 12] (fun ov iv wx => ∃ (q n g c : Nat) (vs : List Value) (S : List (List Nat)), q ≤ m ∧ iv = .int .i64 q ∧ ov = .slice (some ⟨g, 0, none⟩) n c ∧ Hid (S = srQ at' free most i P q) ∧ Hid (n = S.length) ∧ Sep w wx [Res.row (.slice (some ⟨g, 0, none⟩) n c) 22 1 n vs, Res.rows vs (S.map nl)]) (fun _ iv _ => m - (intOf iv).toNat)
  case atStart => exact ⟨0, 0, _, _, [], [], Nat.zero_le _, rfl, rfl, Lib.hid (by simp [srQ]), Lib.hid rfl, H1⟩
  case round =>
    clear H1
    obtain ⟨q, n, g, c, vs, S, hqm, rfl, rfl, HS, HN, H⟩ := hrel
    have hnm : n ≤ most := by rw [HN.out, HS.out]; exact srQ_len
    have x0 := (H.below.cell (p := ⟨bv, ov + i, none⟩) hbv).trans HX0.out
    by_cases hlt : q < m
    · have hlti : (q : Int) < (m : Int) := by omega
      by_cases hnl : n < most
      · have hnli : (n : Int) < (most : Int) := by omega
        obtain ⟨x, hx⟩ : ∃ x, P[q]? = some x := ⟨P[q]'(by rw [← HM.out]; exact hlt), List.getElem?_eq_getElem _⟩
        obtain ⟨bx, ox, rfl, hbx, y00⟩ := ints_atY HRP.out (show (nl P)[q]? = some (x : Int) by simp [nl, hx])
        have y0 := (H.below.cell (p := ⟨bx, ox + q, none⟩) hbx).trans y00
        have z0 := (H.below.cell (p := ⟨bh, oh + i, none⟩) hbh).trans HZ0.out
        have hx36 := HMP.out.2 x (List.mem_of_getElem? hx)
        have HX := Lib.hid hx
        have HY00 := Lib.hid y00
        have hand := i64_and_nat x free (by omega) (by have := HF.out; omega)
        by_cases hsub : x &&& free = x
        · have hne : (bits .and .i64 (x : Int) (free : Int) != (x : Int)) = false := by rw [hand, hsub]; simp
          have hmf := pz_le hsub
          obtain ⟨f2, hf2⟩ : ∃ f2, f2 = free - x := ⟨_, rfl⟩
          obtain ⟨k2, hk2⟩ : ∃ k2, k2 = most - n := ⟨_, rfl⟩
          have e1 : (free : Int) - (x : Int) = (f2 : Int) := by omega
          have e2 : IntKind.i64.wrap ((free : Int) - (x : Int)) = (f2 : Int) := by rw [e1]; exact IntWalk.i64_in _ (by have := HF.out; omega)
          have e3 : (most : Int) - (n : Int) = (k2 : Int) := by omega
          have e4 : IntKind.i64.wrap ((most : Int) - (n : Int)) = (k2 : Int) := by rw [e3]; exact IntWalk.i64_in _ (by omega)
          have HF2 : Hid (f2 < 2 ^ 36) := Lib.hid (by have := HF.out; omega)
          have hf2b : f2 < 68719476736 := HF2.out
          have hk22 : k2 ≤ 300 := by omega
          have HSY : Hid (srQ at' free most i P (q + 1) = S ++ ((pzS (at'.drop (i + 1)) f2).take k2).map (x :: ·)) := Lib.hid (by
            have := srQ_yes HX.out hsub (by rw [← HS.out, ← HN.out]; exact hnl)
            rw [← HS.out, ← HN.out, ← hf2, ← hk2] at this
            exact this)
          obtain ⟨i2, hi2⟩ : ∃ i2, i2 = i + 1 := ⟨_, rfl⟩
          have e5 : (i : Int) + 1 = (i2 : Int) := by omega
          have e6 : IntKind.i64.wrap ((i : Int) + 1) = (i2 : Int) := by rw [e5]; exact IntWalk.i64_in _ (by omega)
          have HI2 := Lib.hid hi2
          have HCL := Lib.hid (HIH.out wr f2 k2 i2 (by have := HD.out; omega) HK.out hk5 HMSK.out HF2.out (by omega) (by omega) (HPR.out wr H.below) (HHR.out wr H.below))
          clear hx y00 hand hsub hmf hf2 hk2 hi2
          go_wp2_with fail
          refine (HCL.out).mono ?_
          rintro e w3 ⟨g2, n2, c2, vs2, rfl, hn2, H3⟩
          have H4 := H3.join H
          have HN2 := Lib.hid hn2
          rw [← HI2.out] at HSY
          obtain ⟨M2, hM2⟩ : ∃ M2, M2 = (pzS (at'.drop i2) f2).take k2 := ⟨_, rfl⟩
          rw [← hM2] at HN2 H4 HSY
          have hn2k : n2 ≤ k2 := by rw [HN2.out, hM2, List.length_take]; omega
          have H5 : Sep w w3 [Res.row (.slice (some ⟨g, 0, none⟩) n c) 22 1 n vs, Res.rows vs (S.map nl), Res.row (.slice (some ⟨g2, 0, none⟩) n2 c2) 22 1 n2 vs2, Res.rows vs2 (M2.map nl)] := H4.g3.g3
          have HML : Hid (∀ t ∈ M2, t.length ≤ 1000) := Lib.hid (fun t ht => by
            rw [hM2] at ht
            have := pzS_len (List.mem_of_mem_take ht)
            rw [this, List.length_drop, ← HK.out]
            omega)
          clear H3 H4 H y0 z0 x0 HCL hn2 hM2 e1 e2 e3 e4 e5 e6
          go_wp2
          go_loopw [11, 15] (fun ov kv wx => ∃ (j n g c : Nat) (vs : List Value) (S' : List (List Nat)), j ≤ n2 ∧ kv = .int .i64 j ∧ ov = .slice (some ⟨g, 0, none⟩) n c ∧ Hid (S' = S ++ (M2.take j).map (x :: ·)) ∧ Hid (n = S'.length) ∧ Sep w wx [Res.row (.slice (some ⟨g, 0, none⟩) n c) 22 1 n vs, Res.rows vs (S'.map nl), Res.row (.slice (some ⟨g2, 0, none⟩) n2 c2) 22 1 n2 vs2, Res.rows vs2 (M2.map nl)]) (fun _ kv _ => n2 - (intOf kv).toNat)
          case atStart => exact ⟨0, n, g, c, vs, S, Nat.zero_le _, rfl, rfl, Lib.hid (by simp), HN, H5⟩
          case round =>
            clear H5
            have HN0 := HN
            clear HN
            obtain ⟨j, n', g, c, vs, S', hjn, rfl, rfl, HMM, HN, H⟩ := hrel
            by_cases hltk : j < n2
            · have hltki : (j : Int) < (n2 : Int) := by omega
              have hnb : n' ≤ 2000000 := by
                rw [HN.out, HMM.out, List.length_append, List.length_map, List.length_take]
                have := HN0.out
                omega
              obtain ⟨rk, hrk⟩ : ∃ rk, M2[j]? = some rk := ⟨M2[j]'(by rw [← HN2.out]; exact hltk), List.getElem?_eq_getElem _⟩
              have hl2 : vs2.length = (M2.map nl).length := RowsAt.len H.h3
              obtain ⟨u, hu⟩ : ∃ u, vs2[j]? = some u := ⟨vs2[j]'(by rw [hl2, List.length_map, ← HN2.out]; exact hltk), List.getElem?_eq_getElem _⟩
              have hrl : rk.length ≤ 1000 := HML.out rk (List.mem_of_getElem? hrk)
              have hnlr : (nl rk).length = rk.length := by simp [nl]
              have HA1 := H.rowBox 3 #[.int .i64 (x : Int)] 1 1 rfl (by decide)
              have hown : (wr.alloc (.cells #[.int .i64 (x : Int)] 3)).ownsRow 0 3 1 u (nl rk).length (ic (nl rk)) := RowsAt.own HA1.h4 j u (nl rk) hu (by rw [List.getElem?_map, hrk]; rfl)
              rw [hnlr] at hown
              obtain ⟨Au, cu, hue, _, _, HT1⟩ := own_rd hown
              subst hue
              have y3 : (wr.alloc (.cells #[.int .i64 (x : Int)] 3)).cell? ⟨g2, j, none⟩ = some (.slice Au rk.length cu) := by have := own_cell HA1.h3 hu; rwa [Nat.zero_add] at this
              have hg2 : g2 < (wr.alloc (.cells #[.int .i64 (x : Int)] 3)).heap.size := own_lt HA1.h3 g2 rfl
              have HRK := Lib.hid hrk
              clear hl2 hrk hu hown H hnlr
              go_wp2_with (first
                | (at_builtin; (refine wpList_app rfl _ _ 22 rfl 3 j0 _ 1 8 Tryz.underlying22 hj hy0 hy1 hy2 rfl (by decide) _ _ _ rfl HA1 _ _ _ (ic (nl rk)) rfl HT1 ic_one (by unfold maxLen; omega) (by omega) ?_; intro v5 w5 H5; clear HA1 y3 HT1 hg2; obtain ⟨A5, c5, rfl, _, _, _⟩ := Res.row_at H5.h0))
                | (at_builtin; refine wpList_app rfl _ _ 47 rfl 22 i0 _ 1 24 Tryz.underlying47 hi hz0 hz1 hz2 rfl (by decide) _ _ _ rfl (H5.g1.alloc _) _ _ _ [.slice A5 (1 + rk.length) c5] rfl (Rd.fresh w5 22 #[.slice A5 (1 + rk.length) c5] 1 1 rfl) (ocY rfl) (by unfold maxLen; omega) (by omega) ?_; intro v6 w6 H6; obtain ⟨g6, o6, c6, hv6, _, _, _⟩ := own_shape H6.h0 (by omega); subst hv6; obtain ⟨rfl, _⟩ := own_blk H6.h0; clear H5))
              have H7 := (Sep.rowsSnoc (r := (x : Int) :: nl rk) H6.g1.g2 (by simp [nl]; omega)).g1
              have HMM2 : Hid (S' ++ [x :: rk] = S ++ (M2.take (j + 1)).map (x :: ·)) := Lib.hid (by rw [HMM.out, List.take_add_one, HRK.out, List.map_append, List.append_assoc]; rfl)
              have HN3 : Hid (n' + 1 = (S' ++ [x :: rk]).length) := Lib.hid (by rw [List.length_append, ← HN.out]; rfl)
              have HEQ : Hid ((S' ++ [x :: rk]).map nl = S'.map nl ++ [(x : Int) :: nl rk]) := Lib.hid (by rw [List.map_append]; rfl)
              rw [← HEQ.out] at H7
              clear H6
              go_roundw
              case rel => exact ⟨j + 1, n' + 1, g6, c6, _, S' ++ [x :: rk], by omega, by go_num, rfl, HMM2, HN3, H7⟩
              case measure => simp [intOf]; omega
            · obtain rfl : j = n2 := by omega
              have HM3 : Hid (S' = srQ at' free most i P (q + 1)) := Lib.hid (by rw [HMM.out, HSY.out, HN2.out, List.take_length])
              have H6 := H.g3.drop.g2.drop
              clear H
              go_wp2
              go_roundw
              case rel => exact ⟨q + 1, n', g, c, vs, S', by omega, by go_num, rfl, HM3, HN, H6⟩
              case measure => simp [intOf]; omega
        · have hne : (bits .and .i64 (x : Int) (free : Int) != (x : Int)) = true := by rw [hand]; simp only [bne_iff_ne, ne_eq]; omega
          have HS2 : Hid (S = srQ at' free most i P (q + 1)) := Lib.hid (by rw [HS.out]; exact (srQ_skip HX.out hsub).symm)
          clear hx y00 hand hsub
          go_wp2
          go_roundw
          case rel => exact ⟨q + 1, n, g, c, vs, S, by omega, by go_num, rfl, HS2, HN, H⟩
          case measure => simp [intOf]; omega
      · have hnli : ¬ (n : Int) < (most : Int) := by omega
        have HSF : Hid (S = (pzS (at'.drop i) free).take most) := Lib.hid (by
          rw [HS.out]
          exact srQ_full HP.out (by rw [← HS.out, ← HN.out]; omega))
        go_wp2
        go_ret
        exact SrPost.mk HSF.out HN.out H
    · have hqe : q = P.length := by have := HM.out; omega
      have HSF : Hid (S = (pzS (at'.drop i) free).take most) := Lib.hid (by
        rw [HS.out]
        exact srQ_end HP.out hqe)
      clear hqe
      go_wp2
      go_ret
      exact SrPost.mk HSF.out HN.out H
theorem sr_c (k : Nat) (pv hv : Value) (at' : List (List Nat)) : ∀ d, SrC k pv hv at' d
  | 0 => sr_zero k pv hv at'
  | d + 1 => sr_step k pv hv at' d (sr_c k pv hv at' d)
end Go.Proofs.YtldggeldabaodaaGreat
