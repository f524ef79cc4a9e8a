
/-
  The orientations of a shape, and congruence: the reference's walks.
-/
import Derived.Test.YtjkppigjajknaaaGreatDoorOriP
namespace Go.Proofs.YtjkppigjajknaaaGreatDoor
open Go.RowKit

theorem Sep.shpsOi {w0 w : World} {L : List Res} {P : List (Value × List Cell)} (h : Sep w0 w (Res.shps P :: L)) {p : Value × List Cell} (hp : p ∈ P) : OI w w0.heap.size w.heap.size 49 2 p.1 p.2.length (cc p.2) := by
  have h1 := ShpsAt.own h.h0 p hp
  refine ⟨⟨h1.1, ?_⟩, fun k hk => own_lt h1 k hk⟩
  rcases h1.2 with hn | ⟨g, cap, cur, e, hbg, rest⟩
  · exact .inl hn
  · exact .inr ⟨g, cap, cur, e, h.2.1 g ⟨p, hp, by rw [e]; rfl⟩, rest⟩
theorem shp_sml {s : List Cell} (h : isShape s = true) : ∀ c ∈ s, Sml 100 c := fun c hc => by
  obtain ⟨⟨h1, h2⟩, h3, h4⟩ := shp_on h hc
  exact ⟨⟨by omega, by omega⟩, ⟨by omega, by omega⟩⟩
theorem pmap_ins {P : List (Value × List Cell)} {u : Value} {r : List Cell} {k : Nat} : (P.take k ++ (u, r) :: P.drop k).map Prod.fst = (P.map Prod.fst).take k ++ u :: (P.map Prod.fst).drop k ∧ (P.take k ++ (u, r) :: P.drop k).map Prod.snd = (P.map Prod.snd).take k ++ r :: (P.map Prod.snd).drop k := by
  constructor <;> simp [List.map_take, List.map_drop]
set_option maxRecDepth 100000 in
set_option maxHeartbeats 1600000 in
theorem spec_orients_c {v : Value} {s : List Cell} (w : World) (h : CellsRd w 0 w.heap.size v s) (hsh : isShape s = true) :
    Calls Tryz.prog 164 #[v] w fun e w' => ∃ v' P, e = .returned v' ∧ P.map Prod.snd = orients s ∧ Sep w w' [Res.row v' 25 1 P.length (P.map Prod.fst), Res.shps P] := by
  have hl := shp_len hsh
  have HSH : Hid (∀ w1, Below w.heap.size w w1 → Calls Tryz.prog 18 #[v] w1 fun e w' => e = .returned (.bool true) ∧ Below w1.heap.size w1 w') := Lib.hid fun w1 b1 => by
    rw [← hsh]
    exact spec_isShape_c w1 ((h.keep (SameIn.of_below b1 (Nat.le_refl _))).more (Nat.le_refl _) b1.size) (by omega)
  have HTU : Hid (∀ (m : Nat) w1, m < 8 → Below w.heap.size w w1 → Calls Tryz.prog 194 #[v, .int .i64 m] w1 fun e w' => ∃ v', e = .returned v' ∧ CellsIn w' w1.heap.size w'.heap.size v' (turnS m s) ∧ Below w1.heap.size w1 w') := Lib.hid fun m w1 hm b1 =>
    spec_turn_c m w1 ((h.keep (SameIn.of_below b1 (Nat.le_refl _))).more (Nat.le_refl _) b1.size) hm hl.1 (by omega) (shp_sml hsh)
  obtain ⟨A, c, rfl, _, _⟩ := id h
  have H0 := ((Sep.start w).rowBox 25 #[] 1 0 rfl (by decide)).shpsNil.p1
  have HL := Lib.hid hl
  clear h hsh hl
  go_enter Tryz.func164, Tryz.ntmps164
  go_wp2
  generalize w.alloc (.cells #[] 25) = W at *
  go_loopw [3, 4] (fun ov kv wx => ∃ (k n go co : Nat) (P : List (Value × List Cell)), k ≤ 8 ∧ kv = .int .i64 k ∧ ov = .slice (some ⟨go, 0, none⟩) n co ∧ n ≤ co ∧ n ≤ k ∧ Hid (n = P.length) ∧ Hid (P.map Prod.snd = orientsTo s k) ∧ Sep w wx [Res.row (.slice (some ⟨go, 0, none⟩) n co) 25 1 n (P.map Prod.fst), Res.shps P]) (fun _ kv _ => 8 - (intOf kv).toNat)
  case atStart => exact ⟨0, 0, _, _, [], by omega, rfl, rfl, Nat.le_refl _, Nat.le_refl _, Lib.hid rfl, Lib.hid rfl, H0⟩
  case round =>
    clear H0
    obtain ⟨k, n, go, co, P, hk8, rfl, rfl, hnc, hnk, HN, HO, H⟩ := hrel
    by_cases hlt : k < 8
    · have HI := Lib.hid (HSH.out wr H.below)
      have hdk : decide ((k : Int) < 8) = true := decide_eq_true (by omega)
      go_wp2_with fail
      refine (HI.out).mono ?_
      rintro e w1 ⟨rfl, b1⟩
      have H1 := H.step b1
      have HT := Lib.hid (HTU.out k w1 hlt H1.below)
      clear H HI b1
      go_wp2_with fail
      refine (HT.out).mono ?_
      rintro e w2 ⟨u, rfl, o2, b2⟩
      have H2 := H1.oiNew b2 o2
      have H3 := H2.drop
      obtain ⟨Au, cu, hu, _, _⟩ := o2.rd
      subst hu
      have HRD : Hid (CellsRd w2 0 w2.heap.size (.slice Au (turnS k s).length cu) (turnS k s)) := Lib.hid (o2.rd.more (Nat.zero_le _) (Nat.le_refl _))
      have hss := H3.shpsRd HN.out
      obtain ⟨vs0, hsr, hsl⟩ := hss
      have HPUT := Lib.hid (spec_put_c (c := co) (M := P.map Prod.snd) (s := turnS k s) w2 (by
          have := own_take (k := n) H3.h0 (Nat.le_refl _)
          rw [List.take_of_length_le (by rw [List.length_map, HN.out, Nat.mul_one]; exact Nat.le_refl _)] at this
          exact this) (⟨by simp, fun i r hr => by
          rw [List.getElem?_map] at hr
          obtain ⟨p, hp, rfl⟩ := Option.map_eq_some_iff.1 hr
          exact ⟨p.1, by rw [List.getElem?_map, hp]; rfl, ShpsAt.rd H3.h1 (List.mem_of_getElem? hp)⟩⟩) (by rw [List.length_map]; exact HN.out) hnc (by omega) HRD.out (by have := turnS_len (m := k) (s := s); have := HL.out; omega) (fun r hr => by rw [HO.out] at hr; have := orients_len r hr; have := HL.out; omega))
      clear H1 H3 hsr hsl vs0 HT o2 b2
      go_wp2_with fail
      refine (HPUT.out).mono ?_
      rintro e w3 ⟨v3, rfl, b3, q, hpa, hor⟩
      have HPA := Lib.hid hpa
      have H4 := H2.step b3
      rcases hor with ⟨h0, hq, rfl⟩ | ⟨hno, o3⟩
      · have HO2 : Hid (P.map Prod.snd = orientsTo s (k + 1)) := Lib.hid (by
          rw [HO.out] at hq
          rw [HO.out, orientsTo, insS_has (orients_srt k) (List.mem_of_getElem? hq)])
        have H5 := H4.drop
        clear H2 H4 HPUT hq h0 hpa b3
        go_wp2
        go_roundw
        case rel => exact ⟨k + 1, n, go, co, P, by omega, by go_num, rfl, hnc, by omega, HN, HO2, H5⟩
        case measure => simp [intOf]; omega
      · have HNO := Lib.hid hno
        have H5 := H2.oiNew b3 o3
        have hcount : (P.map Prod.snd).length + 1 = n + 1 := by rw [List.length_map, HN.out]
        rw [hcount] at H5
        have H6 := (H5.g1.g3.shpsIns (k := q) rfl).p1.g2.drop
        rw [← (pmap_ins (r := turnS k s)).1] at H6
        have HO2 : Hid ((P.take q ++ (.slice Au (turnS k s).length cu, turnS k s) :: P.drop q).map Prod.snd = orientsTo s (k + 1)) := Lib.hid (by
          rw [pmap_ins.2, HO.out, orientsTo]
          have hpa' := HPA.out
          have hno' := HNO.out
          rw [HO.out] at hpa' hno'
          exact (hpa'.ins (orients_srt k) hno').symm)
        have HN2 : Hid (n + 1 = (P.take q ++ (.slice Au (turnS k s).length cu, turnS k s) :: P.drop q).length) := Lib.hid (by
          have := HPA.out.le
          rw [List.length_map] at this
          rw [List.length_append, List.length_cons, List.length_take, List.length_drop, HN.out]; omega)
        obtain ⟨g3, o3', c3, rfl, hc3, _, _⟩ := own_shape H6.h0 (by omega)
        obtain ⟨rfl, _⟩ := own_blk H6.h0
        clear H2 H4 H5 HPUT hno o3 hpa b3 hcount
        go_wp2
        go_roundw
        case rel => exact ⟨k + 1, n + 1, g3, c3, _, by omega, by go_num, rfl, hc3, by omega, HN2, HO2, H6⟩
        case measure => simp [intOf]; omega
    · obtain rfl : k = 8 := by omega
      have hn := HN.out
      go_wp2
      go_ret
      subst hn
      exact ⟨_, P, rfl, HO.out, H⟩
end Go.Proofs.YtjkppigjajknaaaGreatDoor
