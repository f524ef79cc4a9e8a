
/-
  The orientations of a shape, and congruence: the program's walks.
-/
import Derived.Test.YtdbneilhgckhjaaDoorPutI
import Derived.Test.YtdbneilhgckhjaaDoorTurI
namespace Go.Proofs.YtdbneilhgckhjaaDoor
open Go.RowKit

theorem shp_sml5 {s : List Cell} (h : isShape s = true) : ∀ c ∈ s, Sml 50 c := fun c hc => by
  obtain ⟨⟨h1, h2⟩, h3, h4⟩ := shp_on h hc
  exact ⟨⟨by omega, by omega⟩, ⟨by omega, by omega⟩⟩
set_option maxRecDepth 100000 in
set_option maxHeartbeats 1600000 in
theorem impl_orients_c {v : Value} {s : List Cell} (w : World) (h : CellsRd w 0 w.heap.size v s) (hsh : isShape s = true) :
    Calls Tryd.prog 122 #[v] w fun e w' => ∃ v' P, e = .returned v' ∧ P.map Prod.snd = orients s ∧ Sep w w' [Res.row v' 53 1 P.length (P.map Prod.fst), Res.shps P] := by
  have hl := shp_len hsh
  have HSH : Hid (Calls Tryd.prog 92 #[v] w fun e w' => e = .returned (.bool true) ∧ Below w.heap.size w w') := Lib.hid (by
    rw [← hsh]
    exact impl_isShape_c w h (by omega))
  have HTU : Hid (∀ (m : Nat) w1, m < 8 → Below w.heap.size w w1 → Calls Tryd.prog 129 #[v, .int .i64 m] w1 fun e w' => ∃ v', e = .returned v' ∧ CellsIn w' w1.heap.size w'.heap.size v' (turnS m s) ∧ Below w1.heap.size w1 w') := Lib.hid fun m w1 hm b1 =>
    impl_turned_c m w1 ((h.keep (SameIn.of_below b1 (Nat.le_refl _))).more (Nat.le_refl _) b1.size) hm hl.1 (by omega) (shp_sml5 hsh)
  obtain ⟨A, c, rfl, _, _⟩ := id h
  have HL := Lib.hid hl
  clear h hsh hl
  go_enter Tryd.func122, Tryd.ntmps122
  go_wp2_with fail
  refine (HSH.out).mono ?_
  rintro e w1 ⟨rfl, b1⟩
  have H0 := (((Sep.start w).step b1).nil 53 1).shpsNil.p1
  clear HSH b1
  go_wp2
  go_loopw [3, 8] (fun ov kv wx => ∃ (k n : Nat) (P : List (Value × List Cell)), k ≤ 8 ∧ kv = .int .i64 k ∧ n ≤ k ∧ Hid (n = P.length) ∧ Hid (P.map Prod.snd = orientsTo s k) ∧ Sep w wx [Res.row ov 53 1 n (P.map Prod.fst), Res.shps P]) (fun _ kv _ => 8 - (intOf kv).toNat)
  case atStart => exact ⟨0, 0, [], by omega, rfl, Nat.le_refl _, Lib.hid rfl, Lib.hid rfl, H0⟩
  case round =>
    clear H0
    obtain ⟨k, n, P, hk8, rfl, hnk, HN, HO, H⟩ := hrel
    by_cases hlt : k < 8
    · have HT := Lib.hid (HTU.out k wr hlt H.below)
      have hdk : decide ((k : Int) < 8) = true := decide_eq_true (by omega)
      go_wp2_with fail
      refine (HT.out).mono ?_
      rintro e w2 ⟨u, rfl, o2, b2⟩
      have H2 := (H.oiNew b2 o2)
      obtain ⟨Au, cu, hu, _, _⟩ := o2.rd
      subst hu
      have HPUT := Lib.hid (impl_put_c (P := P) (s := turnS k s) H2.p2 HN.out (by omega) (by have := turnS_len (m := k) (s := s); have := HL.out; omega) (fun p hp => by
        have h1 := orients_len (s := s) (k := k) p.2 (by rw [← HO.out]; exact List.mem_map.2 ⟨p, hp, rfl⟩)
        have := HL.out; omega) (by rw [HO.out]; exact orients_srt k))
      clear HT o2 b2 H2 H
      go_wp2_with fail
      refine (HPUT.out).mono ?_
      rintro e w3 ⟨v3, P3, rfl, hP3, H3⟩
      have HO2 : Hid (P3.map Prod.snd = orientsTo s (k + 1)) := Lib.hid (by rw [hP3, HO.out]; rfl)
      have hp3 : P3.length ≤ k + 1 := by
        have := orients_le (s := s) (k + 1)
        rw [← HO2.out, List.length_map] at this
        exact this
      clear HPUT hP3
      go_wp2
      go_roundw
      case rel => exact ⟨k + 1, _, P3, by omega, by go_num, hp3, Lib.hid rfl, HO2, H3⟩
      case measure => simp [intOf]; omega
    · obtain rfl : k = 8 := by omega
      have hn := HN.out
      go_wp2
      go_ret
      subst hn
      exact ⟨_, P, rfl, HO.out, H⟩
set_option maxRecDepth 100000 in
set_option maxHeartbeats 1600000 in
theorem impl_canon_c {v : Value} {s : List Cell} (w : World) (h : CellsRd w 0 w.heap.size v s) (hsh : isShape s = true) :
    Calls Tryd.prog 94 #[v] w fun e w' => ∃ v', e = .returned v' ∧ CellsIn w' w.heap.size w'.heap.size v' (canonS s) ∧ Below w.heap.size w w' := by
  have HC := Lib.hid (impl_orients_c w h hsh)
  clear h hsh
  go_enter Tryd.func94, Tryd.ntmps94
  go_wp2_with fail
  refine (HC.out).mono ?_
  rintro e w1 ⟨v1, P, rfl, hP, H⟩
  have hpos : 0 < P.length := by
    have := orients_pos (s := s) (k := 8) (by decide)
    rw [show orientsTo s 8 = orients s from rfl, ← hP, List.length_map] at this
    exact this
  obtain ⟨p, rest, rfl⟩ : ∃ p rest, P = p :: rest := by
    cases P with
    | nil => simp at hpos
    | cons p rest => exact ⟨p, rest, rfl⟩
  have hcan : canonS s = p.2 := by unfold canonS; rw [← hP]; rfl
  have HO : Hid (CellsIn w1 w.heap.size w1.heap.size p.1 (canonS s)) := Lib.hid (by rw [hcan]; exact H.g1.shpsOi List.mem_cons_self)
  obtain ⟨m, hm⟩ : ∃ m, m = (p :: rest).length := ⟨_, rfl⟩
  have H1 : Sep w w1 [Res.row v1 53 1 m ((p :: rest).map Prod.fst)] := by rw [hm]; exact H.g1.drop
  have hm1 : 1 ≤ m := by rw [hm]; exact hpos
  obtain ⟨g1, o1, c1, rfl, _, _, _⟩ := own_shape H1.h0 hm1
  obtain ⟨rfl, _⟩ := own_blk H1.h0
  have x0 := own_cell H1.h0 (j := 0) (u := p.1) rfl
  have hb := H1.below
  obtain ⟨A2, c2, hp1, _, _⟩ := HO.out.rd
  have hz : ((m : Int) == 0) = false := by simp; omega
  have hz2 : ¬ m = 0 := by omega
  have hz3 : (0 : Int) < (m : Int) := by omega
  rw [hp1] at HO x0
  clear H H1 hP hcan HC hp1 hpos hm
  go_wp2
  go_ret
  exact ⟨_, rfl, HO.out, hb⟩
set_option maxRecDepth 100000 in
set_option maxHeartbeats 1600000 in
theorem impl_congr_c {v v' : Value} {a b : List Cell} (w : World) (h : CellsRd w 0 w.heap.size v a) (h' : CellsRd w 0 w.heap.size v' b) (hn : a.length ≤ 1048576) (hn' : b.length ≤ 1048576) :
    Calls Tryd.prog 56 #[v, v'] w fun e w' => e = .returned (.bool (congr a b)) ∧ Below w.heap.size w w' := by
  have H1 := Lib.hid (impl_isShape_c w h hn)
  have H2 : Hid (∀ w1, Below w.heap.size w w1 → Calls Tryd.prog 92 #[v'] w1 fun e w' => e = .returned (.bool (isShape b)) ∧ Below w1.heap.size w1 w') := Lib.hid fun w1 b1 =>
    impl_isShape_c w1 ((h'.keep (SameIn.of_below b1 (Nat.le_refl _))).more (Nat.le_refl _) b1.size) hn'
  have H3 : Hid (isShape a = true → ∀ w1, Below w.heap.size w w1 → Calls Tryd.prog 94 #[v] w1 fun e w' => ∃ v', e = .returned v' ∧ CellsIn w' w1.heap.size w'.heap.size v' (canonS a) ∧ Below w1.heap.size w1 w') := Lib.hid fun hs w1 b1 =>
    impl_canon_c w1 ((h.keep (SameIn.of_below b1 (Nat.le_refl _))).more (Nat.le_refl _) b1.size) hs
  have H4 : Hid (isShape b = true → ∀ w1, Below w.heap.size w w1 → Calls Tryd.prog 94 #[v'] w1 fun e w' => ∃ v', e = .returned v' ∧ CellsIn w' w1.heap.size w'.heap.size v' (canonS b) ∧ Below w1.heap.size w1 w') := Lib.hid fun hs w1 b1 =>
    impl_canon_c w1 ((h'.keep (SameIn.of_below b1 (Nat.le_refl _))).more (Nat.le_refl _) b1.size) hs
  obtain ⟨R, hR⟩ : ∃ R, R = congr a b := ⟨_, rfl⟩
  rw [← hR]
  have HR := Lib.hid hR
  obtain ⟨A, c, rfl, _, _⟩ := id h
  obtain ⟨A', c', rfl, _, _⟩ := id h'
  clear h h' hR
  go_enter Tryd.func56, Tryd.ntmps56
  go_wp2_with fail
  refine (H1.out).mono ?_
  rintro e w1 ⟨rfl, b1⟩
  cases ha : isShape a
  · obtain rfl : R = false := by rw [HR.out]; unfold congr; rw [ha]; rfl
    clear ha
    go_wp2
    go_ret
    exact ⟨rfl, b1⟩
  · have HA := Lib.hid ha
    have H21 := Lib.hid (H2.out w1 b1)
    clear ha
    go_wp2_with fail
    refine (H21.out).mono ?_
    rintro e w2 ⟨rfl, b2⟩
    have hb2 := b1.trans (b2.mono b1.size)
    clear b1 b2 H21
    cases hb : isShape b
    · obtain rfl : R = false := by rw [HR.out]; unfold congr; rw [hb, Bool.and_false]; rfl
      clear hb
      go_wp2
      go_ret
      exact ⟨rfl, hb2⟩
    · have HB := Lib.hid hb
      have H31 := Lib.hid (H3.out HA.out w2 hb2)
      clear hb
      go_wp2_with fail
      refine (H31.out).mono ?_
      rintro e w3 ⟨v3, rfl, o3, b3⟩
      have hb3 := hb2.trans (b3.mono hb2.size)
      have H41 := Lib.hid (H4.out HB.out w3 hb3)
      obtain ⟨A3, c3, rfl, _, _⟩ := o3.rd
      have O3 := Lib.hid o3
      clear o3 b3 hb2 H31
      go_wp2_with fail
      refine (H41.out).mono ?_
      rintro e w4 ⟨v4, rfl, o4, b4⟩
      have hb4 := hb3.trans (b4.mono hb3.size)
      have HE := Lib.hid (impl_eqShapes_c w4 ((O3.out.rd.keep (SameIn.of_below b4 (Nat.le_refl _))).more (Nat.zero_le _) b4.size) (o4.rd.more (Nat.zero_le _) (Nat.le_refl _)))
      obtain ⟨A4, c4, rfl, _, _⟩ := o4.rd
      clear o4 b4 hb3 H41 O3
      go_wp2_with fail
      refine (HE.out).mono ?_
      rintro e w5 ⟨rfl, b5⟩
      have hb5 := hb4.trans (b5.mono hb4.size)
      obtain rfl : R = same (canonS a) (canonS b) := by rw [HR.out]; unfold congr; rw [HA.out, HB.out]; rfl
      go_wp2
      go_ret
      exact ⟨rfl, hb5⟩
end Go.Proofs.YtdbneilhgckhjaaDoor
