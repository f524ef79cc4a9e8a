
/-
  Placements on a torus: plain. TorusPlacements: the program's walk. TorusPlacements: the reference's walk. The least torus that a shape tiles: plain. All placements on a torus and the first tiling of a torus: both walks. The least torus that a shape tiles, the smallest rectangle: the program's walks. The least torus that a shape tiles, the smallest rectangle: the reference's walks. The smallest rectangle (the reference), the order of a shape and its balance of colours: both walks.
-/
import Derived.Test.YtjkppigjajknaaaGreatDoorPlcP
import Derived.Test.YtjkppigjajknaaaGreatDoorOriP
import Derived.Test.YtjkppigjajknaaaGreatDoorPlcIX
import Derived.StillTailTactics
import Derived.Deep.DeepCutAuto
import Derived.Test.YtjkppigjajknaaaGreatDoorPlcSX
import Derived.Test.YtjkppigjajknaaaGreatDoorDomS
import Derived.Test.YtjkppigjajknaaaGreatDoorRctX
import Derived.Test.YtjkppigjajknaaaGreatDoorFtS
namespace Go.Proofs.YtjkppigjajknaaaGreatDoor
open Go.RowKit

/-- the number of a place on a torus -/
def torB (w h : Nat) (c : Cell) (k : Nat) : Nat := (c.y.toNat + k / w) % h * w + (c.x.toNat + k % w) % w
theorem torB_lt {w h : Nat} (c : Cell) (k : Nat) (hw : 1 ≤ w ∧ w ≤ 5) (hh : 1 ≤ h ∧ h ≤ 5) : torB w h c k < w * h ∧ w * h ≤ 25 := by
  have h1 := Nat.mod_lt (c.y.toNat + k / w) (show 0 < h by omega)
  have h2 := Nat.mod_lt (c.x.toNat + k % w) (show 0 < w by omega)
  have h3 : w * h ≤ 5 * 5 := Nat.mul_le_mul hw.2 hh.2
  have h4 : ((c.y.toNat + k / w) % h + 1) * w ≤ h * w := Nat.mul_le_mul_right _ h1
  have h5 : h * w = w * h := Nat.mul_comm _ _
  rw [Nat.succ_mul] at h4
  unfold torB
  omega
/-- the mask and whether no two cells meet, one cell more -/
def torN (w h k : Nat) (p : Nat × Bool) (c : Cell) : Nat × Bool := (p.1 ||| 2 ^ torB w h c k, p.2 && !p.1.testBit (torB w h c k))
def torF (w h k : Nat) (t : List Cell) : Nat × Bool := t.foldl (torN w h k) (0, true)
theorem torF_nil (w h k : Nat) : torF w h k [] = (0, true) := rfl
theorem torF_snoc {w h k : Nat} {t : List Cell} {c : Cell} : torF w h k (t ++ [c]) = torN w h k (torF w h k t) c := by simp [torF]
theorem torF_take {w h k j : Nat} {t : List Cell} {c : Cell} (hc : t[j]? = some c) : torF w h k (t.take (j + 1)) = torN w h k (torF w h k (t.take j)) c := by
  obtain ⟨h1, h2⟩ := List.getElem?_eq_some_iff.1 hc
  rw [List.take_succ_eq_append_getElem h1, h2, torF_snoc]
theorem torF_lt {w h : Nat} (k : Nat) (hw : 1 ≤ w ∧ w ≤ 5) (hh : 1 ≤ h ∧ h ≤ 5) (t : List Cell) : (torF w h k t).1 < 2 ^ 25 := by
  suffices H : ∀ (t : List Cell) (p : Nat × Bool), p.1 < 2 ^ 25 → (t.foldl (torN w h k) p).1 < 2 ^ 25 from H t _ (by decide)
  intro t
  induction t with
  | nil => exact fun p hp => hp
  | cons c t ih =>
    intro p hp
    refine ih _ (Nat.or_lt_two_pow hp (Nat.pow_lt_pow_right (by decide) ?_))
    have := torB_lt c k hw hh
    omega
/-- the masks of an orientation, from the first n places -/
def torK (w h : Nat) (t : List Cell) : Nat → List Int
  | 0 => []
  | n + 1 => torK w h t n ++ (if (torF w h n t).2 then [((torF w h n t).1 : Int)] else [])
theorem torK_yes {w h n : Nat} {t : List Cell} (hb : (torF w h n t).2 = true) : torK w h t (n + 1) = torK w h t n ++ [((torF w h n t).1 : Int)] := by rw [torK, if_pos hb]
theorem torK_no {w h n : Nat} {t : List Cell} (hb : (torF w h n t).2 = false) : torK w h t (n + 1) = torK w h t n := by rw [torK, hb]; simp
theorem torK_len {w h : Nat} {t : List Cell} : ∀ n, (torK w h t n).length ≤ n
  | 0 => Nat.le_refl _
  | n + 1 => by
    have := torK_len (w := w) (h := h) (t := t) n
    rw [torK, List.length_append]
    split <;> simp <;> omega
theorem torK_in {w h : Nat} {t : List Cell} (hw : 1 ≤ w ∧ w ≤ 5) (hh : 1 ≤ h ∧ h ≤ 5) : ∀ n, ∀ m ∈ torK w h t n, 0 ≤ m ∧ m < 2 ^ 25
  | 0, m, hm => by simp [torK] at hm
  | n + 1, m, hm => by
    rw [torK, List.mem_append] at hm
    rcases hm with hm | hm
    · exact torK_in hw hh n m hm
    · split at hm
      · rw [List.mem_singleton] at hm
        have := torF_lt n hw hh t
        omega
      · simp at hm
def torT (w h : Nat) (T : List (List Cell)) : List Int := T.flatMap fun t => torK w h t (w * h)
theorem torT_take {w h k : Nat} {T : List (List Cell)} {t : List Cell} (ht : T[k]? = some t) : torT w h (T.take (k + 1)) = torT w h (T.take k) ++ torK w h t (w * h) := by
  obtain ⟨h1, h2⟩ := List.getElem?_eq_some_iff.1 ht
  rw [List.take_succ_eq_append_getElem h1, h2, torT, torT, List.flatMap_append]
  simp
theorem torT_len {w h : Nat} (hw : 1 ≤ w ∧ w ≤ 5) (hh : 1 ≤ h ∧ h ≤ 5) : ∀ T : List (List Cell), (torT w h T).length ≤ T.length * 25
  | [] => by simp [torT]
  | t :: T => by
    have ih := torT_len hw hh T
    have h1 := torK_len (w := w) (h := h) (t := t) (w * h)
    have h2 := (torB_lt (w := w) (h := h) ⟨0, 0⟩ 0 hw hh).2
    have e : torT w h (t :: T) = torK w h t (w * h) ++ torT w h T := by simp [torT]
    rw [e, List.length_append, List.length_cons]
    omega
theorem torT_in {w h : Nat} {T : List (List Cell)} (hw : 1 ≤ w ∧ w ≤ 5) (hh : 1 ≤ h ∧ h ≤ 5) : ∀ m ∈ torT w h T, 0 ≤ m ∧ m < 2 ^ 25 := by
  intro m hm
  obtain ⟨t, _, hm⟩ := List.mem_flatMap.1 hm
  exact torK_in hw hh _ m hm
/-- the placements of a shape on a torus; of a list of that shape alone -/
def torL (w h : Nat) (s : List Cell) : List Int := srtU (torT w h (orients s))
def torA (w h : Nat) (s : List Cell) : List Int := srtU (torL w h s)
theorem torL_len {w h : Nat} {s : List Cell} (hw : 1 ≤ w ∧ w ≤ 5) (hh : 1 ≤ h ∧ h ≤ 5) : (torL w h s).length ≤ 200 := by
  have h1 := torT_len hw hh (orients s)
  have h2 : (orients s).length ≤ 8 := orients_le 8
  have h3 : (torL w h s).length ≤ _ := srtU_len
  omega
theorem torA_len {w h : Nat} {s : List Cell} (hw : 1 ≤ w ∧ w ≤ 5) (hh : 1 ≤ h ∧ h ≤ 5) : (torA w h s).length ≤ 200 := Nat.le_trans srtU_len (torL_len hw hh)
theorem torA_in {w h : Nat} {s : List Cell} (hw : 1 ≤ w ∧ w ≤ 5) (hh : 1 ≤ h ∧ h ≤ 5) : ∀ m ∈ torA w h s, 0 ≤ m ∧ m < 2 ^ 25 := fun m hm => torT_in hw hh m (mem_srtU.1 (mem_srtU.1 hm))
def torAN (w h : Nat) (s : List Cell) : List Nat := (torA w h s).map Int.toNat
theorem nl_torAN {w h : Nat} {s : List Cell} (hw : 1 ≤ w ∧ w ≤ 5) (hh : 1 ≤ h ∧ h ≤ 5) : nl (torAN w h s) = torA w h s := by
  unfold nl torAN
  rw [List.map_map]
  conv => rhs; rw [← List.map_id (torA w h s)]
  refine List.map_congr_left fun m hm => ?_
  have := torA_in hw hh m hm
  simp only [Function.comp, id]
  omega
theorem torAN_lt {w h : Nat} {s : List Cell} (hw : 1 ≤ w ∧ w ≤ 5) (hh : 1 ≤ h ∧ h ≤ 5) : ∀ n ∈ torAN w h s, n < 2 ^ 36 := by
  intro n hn
  obtain ⟨a, ha, rfl⟩ := List.mem_map.1 hn
  have := torA_in hw hh a ha
  omega
/-- the cells of an orientation lie right of and below the corner -/
theorem orients_nn {s : List Cell} : ∀ t ∈ orients s, ∀ c ∈ t, 0 ≤ c.x ∧ 0 ≤ c.y := by
  intro t ht c hc
  obtain ⟨m, _, rfl⟩ := orients_row 8 t ht
  unfold turnS at hc
  exact corner_ge hc
theorem and_powT (m B : Nat) : m &&& 2 ^ B = if m.testBit B then 2 ^ B else 0 := by
  apply Nat.eq_of_testBit_eq
  intro i
  rw [Nat.testBit_and, Nat.testBit_two_pow]
  by_cases h : B = i
  · subst h
    cases m.testBit B <;> simp
  · cases hb : m.testBit B <;> simp [h]
/-- what the machine reckons on the way to a place's number -/
structure TorNum (w h k : Nat) (c : Cell) (B cx cy kq kr ya yb yc xa xb : Nat) : Prop where
  hx : c.x = (cx : Int)
  hy : c.y = (cy : Int)
  d1 : Int.tdiv (k : Int) (w : Int) = (kq : Int)
  d2 : Int.tmod (k : Int) (w : Int) = (kr : Int)
  a1 : (cy : Int) + (kq : Int) = (ya : Int)
  d3 : Int.tmod (ya : Int) (h : Int) = (yb : Int)
  m1 : (yb : Int) * (w : Int) = (yc : Int)
  a2 : (cx : Int) + (kr : Int) = (xa : Int)
  d4 : Int.tmod (xa : Int) (w : Int) = (xb : Int)
  a3 : (yc : Int) + (xb : Int) = (B : Int)
  lt : B < 25
  bd : kq ≤ 1000 ∧ kr ≤ 1000 ∧ ya ≤ 1000 ∧ yb ≤ 1000 ∧ yc ≤ 1000 ∧ xa ≤ 1000 ∧ xb ≤ 1000
theorem tor_nums {w h k : Nat} {c : Cell} (hw : 1 ≤ w ∧ w ≤ 5) (hh : 1 ≤ h ∧ h ≤ 5) (hk : k < w * h) (hx : 0 ≤ c.x ∧ c.x ≤ 20) (hy : 0 ≤ c.y ∧ c.y ≤ 20) :
    ∃ cx cy kq kr ya yb yc xa xb, TorNum w h k c (torB w h c k) cx cy kq kr ya yb yc xa xb := by
  have hB := torB_lt c k hw hh
  have h25 := hB.2
  have q1 : k / w ≤ k := Nat.div_le_self _ _
  have q2 := Nat.mod_lt k (show 0 < w by omega)
  have q3 := Nat.mod_lt (c.y.toNat + k / w) (show 0 < h by omega)
  have q4 := Nat.mod_lt (c.x.toNat + k % w) (show 0 < w by omega)
  have q5 : (c.y.toNat + k / w) % h * w ≤ 5 * 5 := Nat.mul_le_mul (by omega) hw.2
  refine ⟨c.x.toNat, c.y.toNat, k / w, k % w, c.y.toNat + k / w, (c.y.toNat + k / w) % h, (c.y.toNat + k / w) % h * w, c.x.toNat + k % w, (c.x.toNat + k % w) % w, ?_⟩
  exact ⟨by omega, by omega, Int.ofNat_tdiv _ _, Int.ofNat_tmod _ _, by simp, Int.ofNat_tmod _ _, by simp, by simp, Int.ofNat_tmod _ _, by rw [torB]; simp, by omega, by omega⟩
end Go.Proofs.YtjkppigjajknaaaGreatDoor

namespace Go.Proofs.YtjkppigjajknaaaGreatDoor
open Go.RowKit

set_option maxRecDepth 100000 in
theorem torIs_c (a b : Nat) (w : World) (ha : 1 ≤ a ∧ a ≤ 5) (hb : 1 ≤ b ∧ b ≤ 5) : Calls Tryz.prog 161 #[.int .i64 (a : Int), .int .i64 (b : Int)] w fun e w' => e = .returned (.bool true) ∧ w = w' := by
  have h1 := between_r (a : Int) 1 5 w
  have h2 := between_r (b : Int) 1 5 w
  rw [inR_iff.2 (by omega)] at h1 h2
  have H1 := Lib.hid h1
  have H2 := Lib.hid h2
  clear h1 h2
  go_enter Tryz.func161, Tryz.ntmps161
  go_wp2_with fail
  refine (H1.out).mono ?_
  rintro e w1 ⟨rfl, rfl⟩
  go_wp2_with fail
  refine (H2.out).mono ?_
  rintro e w1 ⟨rfl, rfl⟩
  go_wp2
  go_ret
  exact ⟨rfl, rfl⟩
set_option maxRecDepth 100000 in
set_option maxHeartbeats 3200000 in
theorem impl_tor_c {v : Value} {s : List Cell} (wn hn : Nat) (w : World) (h : CellsRd w 0 w.heap.size v s) (hw : 1 ≤ wn ∧ wn ≤ 5) (hh : 1 ≤ hn ∧ hn ≤ 5) (hsh : isShape s = true) :
    Calls Tryz.prog 162 #[.int .i64 (wn : Int), .int .i64 (hn : Int), v] w fun e w' => ∃ v', e = .returned v' ∧ IntsIn w' w.heap.size w'.heap.size v' (torL wn hn s) ∧ Below w.heap.size w w' := by
  obtain ⟨j0, hj0, hy0, hy1, hy2⟩ := info_parts infoIntC
  have hl := shp_len hsh
  have HOR : Hid (∀ w1, Below w.heap.size w w1 → Calls Tryz.prog 170 #[v] w1 fun e w' => ∃ v', e = .returned v' ∧ CellSSRd w' w1.heap.size w'.heap.size v' (orients s) ∧ Below w1.heap.size w1 w') := Lib.hid fun w1 b1 =>
    impl_orients_ro w1 ((h.keep (SameIn.of_below b1 (Nat.le_refl _))).more (Nat.le_refl _) b1.size) hsh
  have HS0 := Lib.hid (impl_isShape_c w h (by omega))
  rw [hsh] at HS0
  obtain ⟨T, hT⟩ : ∃ T, T = orients s := ⟨_, rfl⟩
  have HTS : Hid (∀ t ∈ T, ∀ c ∈ t, Sml 20 c) := Lib.hid (by rw [hT]; exact orients_sml hsh)
  have HTP : Hid (∀ t ∈ T, ∀ c ∈ t, 0 ≤ c.x ∧ 0 ≤ c.y) := Lib.hid (by rw [hT]; exact orients_nn)
  have HTL : Hid (∀ t ∈ T, t.length ≤ 8) := Lib.hid (by rw [hT]; exact orients_len8 hsh)
  have HT8 : Hid (T.length ≤ 8) := Lib.hid (by rw [hT]; exact orients_le 8)
  have HPL : Hid (torL wn hn s = srtU (torT wn hn T)) := Lib.hid (by rw [hT]; rfl)
  rw [← hT] at HOR
  have HWW := Lib.hid hw
  have HHH := Lib.hid hh
  obtain ⟨hw1, hw5⟩ := hw
  obtain ⟨hh1, hh5⟩ := hh
  obtain ⟨N, hN⟩ : ∃ N, N = wn * hn := ⟨_, rfl⟩
  have HN := Lib.hid hN
  have hN25 : N ≤ 25 := by rw [hN]; exact Nat.mul_le_mul hw5 hh5
  have hNw : IntKind.i64.wrap ((wn : Int) * (hn : Int)) = (N : Int) := by rw [hN, ← Int.natCast_mul, ← hN]; exact IntWalk.i64_in _ (by omega)
  obtain ⟨A, c, rfl, _, _⟩ := h
  clear hT hsh hN
  go_enter Tryz.func162, Tryz.ntmps162
  go_wp2_with fail
  refine (torIs_c wn hn w HWW.out HHH.out).mono ?_
  rintro e w1 ⟨rfl, rfl⟩
  go_wp2_with fail
  refine (HS0.out).mono ?_
  rintro e w1 ⟨rfl, b1⟩
  have H0 := ((Sep.start w).step b1).nil 3 1
  have HO1 := Lib.hid (HOR.out w1 b1)
  clear HS0 b1
  go_wp2_with fail
  refine (HO1.out).mono ?_
  rintro e w2 ⟨ov, rfl, hss, b2⟩
  have H2 := (H0.same b2).p1
  obtain ⟨vs, ⟨At, ct, rfl, hmt, hrt⟩, hsl⟩ := hss
  have HRT := Lib.hid hrt
  have HSL := Lib.hid hsl
  obtain ⟨lo, hlo⟩ : ∃ lo, lo = w1.heap.size := ⟨_, rfl⟩
  rw [← hlo] at H2 HRT HSL b2
  clear H0 HO1 b2 hrt hsl HOR hlo
  go_wp2
  go_loopw [7, 28] (fun ov kv wx => ∃ (i : Nat) (acc : List Int), i ≤ T.length ∧ kv = .int .i64 i ∧ Hid (acc = torT wn hn (T.take i)) ∧ Sep w wx [Res.row ov 3 1 acc.length (ic acc), Res.same lo w2.heap.size w2]) (fun _ kv _ => T.length - (intOf kv).toNat)
  case atStart => exact ⟨0, [], Nat.zero_le _, rfl, Lib.hid rfl, H2⟩
  case round =>
    clear H2
    obtain ⟨i, acc, hi, rfl, HACC, H⟩ := hrel
    have hT8 := HT8.out
    by_cases hlt : i < T.length
    · have hlti : (i : Int) < (T.length : Int) := by omega
      obtain ⟨b, off, t, x, rfl, hb1, hb2, hla, x1, xr⟩ := HRT.out.slot HSL.out rfl hlt
      have y1 := (same_cell H.h1 hb1 hb2).trans x1
      have HLA := Lib.hid hla
      obtain ⟨Ax, cx, rfl, hmx, hrx⟩ := id xr
      have HXR : Hid (∀ w1, SameIn lo w2.heap.size w2 w1 → w2.heap.size ≤ w1.heap.size → CellsRd w1 0 w1.heap.size (.slice Ax t.length cx) t) := Lib.hid fun w1 hs h1 => (xr.keep hs).more (Nat.zero_le _) h1
      have htl := HTL.out t (List.mem_of_getElem? hla)
      clear hla x1 hrx xr
      go_wp2
      clear y1
      go_loopw [7, 35] (fun ov kv wx => ∃ (k : Nat) (acc : List Int), k ≤ N ∧ kv = .int .i64 k ∧ Hid (acc = torT wn hn (T.take i) ++ torK wn hn t k) ∧ Sep w wx [Res.row ov 3 1 acc.length (ic acc), Res.same lo w2.heap.size w2]) (fun _ kv _ => N - (intOf kv).toNat)
      case atStart => exact ⟨0, acc, Nat.zero_le _, rfl, Lib.hid (by rw [HACC.out]; simp [torK]), H⟩
      case round =>
        clear H HACC
        obtain ⟨k, acc, hk, rfl, HACC, H⟩ := hrel
        by_cases hlk : k < N
        · have hlki : (k : Int) < (N : Int) := by omega
          have HSM : Hid (w2.heap.size ≤ wr.heap.size) := Lib.hid (by
            have h1 := H.h1.2 (by omega)
            exact h1)
          obtain ⟨W, hW⟩ : ∃ W, W = wr := ⟨_, rfl⟩
          rw [← hW] at HSM H ⊢
          clear hW
          go_wp2
          go_loopw [11, 12, 40] (fun mv okv jv wx => ∃ (j m : Nat) (ok : Bool), j ≤ t.length ∧ jv = .int .i64 j ∧ mv = .int .i64 (m : Int) ∧ okv = .bool ok ∧ Hid ((m, ok) = torF wn hn k (t.take j)) ∧ W.heap.size ≤ wx.heap.size ∧ Sep w wx [Res.row u7 3 1 acc.length (ic acc), Res.same lo w2.heap.size w2]) (fun _ _ jv _ => t.length - (intOf jv).toNat)
          case atStart => exact ⟨0, 0, true, Nat.zero_le _, rfl, rfl, rfl, Lib.hid rfl, Nat.le_refl _, H⟩
          case round =>
            clear H
            obtain ⟨j, m, ok, hj, rfl, rfl, rfl, HMO, hsz, H⟩ := hrel
            by_cases hltj : j < t.length
            · have hltji : (j : Int) < (t.length : Int) := by omega
              obtain ⟨A', c', he', _, hr'⟩ := HXR.out wr (same_of H.h1) (Nat.le_trans HSM.out hsz)
              injection he' with e1 _ e3
              subst e1 e3
              obtain ⟨bx, ox, c0, rfl, _, hbx, hc0, q1, q2⟩ := hr'.at2 hltj
              have hmt := List.mem_of_getElem? hc0
              have hsm := HTS.out t (List.mem_of_getElem? HLA.out) c0 hmt
              have hps := HTP.out t (List.mem_of_getElem? HLA.out) c0 hmt
              unfold Sml at hsm
              obtain ⟨cx0, cy0, kq, kr, ya, yb, yc, xa, xb, hnum⟩ := tor_nums (c := c0) HWW.out HHH.out (by rw [← HN.out]; exact hlk) ⟨hps.1, by omega⟩ ⟨hps.2, by omega⟩
              obtain ⟨B, hB⟩ : ∃ B, B = torB wn hn c0 k := ⟨_, rfl⟩
              rw [← hB] at hnum
              obtain ⟨hx, hy, d1, d2, a1, d3, m1, a2, d4, a3, hB25, hb1, hb2, hb3, hb4, hb5, hb6, hb7⟩ := hnum
              have HB := Lib.hid hB
              have HC0 := Lib.hid hc0
              rw [hx] at q1
              rw [hy] at q2
              have H1 := H.box 49 #[.int .i64 (cx0 : Int), .int .i64 (cy0 : Int)]
              clear hB hc0 hmt hsm hps hx hy hr'
              go_upto_region 14 with fail
              generalize hW5 : wr.alloc (.cells #[.int .i64 (cx0 : Int), .int .i64 (cy0 : Int)] 49) = W5 at *
              have hsz5 : W.heap.size ≤ W5.heap.size := by rw [← hW5, World.size_alloc]; omega
              generalize hgc : wr.heap.size = gc at *
              clear hW5 hgc q1 q2 H
              have k0 : W5.cell? ⟨gc, 0, none⟩ = some (.int .i64 (cx0 : Int)) := H1.h0.cell 0
              have k1 : W5.cell? ⟨gc, 1, none⟩ = some (.int .i64 (cy0 : Int)) := H1.h0.cell 1
              have w1' : IntKind.i64.wrap (Int.tdiv (k : Int) (wn : Int)) = (kq : Int) := by rw [d1]; exact IntWalk.i64_in _ (by omega)
              have w2' : IntKind.i64.wrap (Int.tmod (k : Int) (wn : Int)) = (kr : Int) := by rw [d2]; exact IntWalk.i64_in _ (by omega)
              have w3' : IntKind.i64.wrap ((cy0 : Int) + (kq : Int)) = (ya : Int) := by rw [a1]; exact IntWalk.i64_in _ (by omega)
              have w4' : IntKind.i64.wrap (Int.tmod (ya : Int) (hn : Int)) = (yb : Int) := by rw [d3]; exact IntWalk.i64_in _ (by omega)
              have w5' : IntKind.i64.wrap ((yb : Int) * (wn : Int)) = (yc : Int) := by rw [m1]; exact IntWalk.i64_in _ (by omega)
              have w6' : IntKind.i64.wrap ((cx0 : Int) + (kr : Int)) = (xa : Int) := by rw [a2]; exact IntWalk.i64_in _ (by omega)
              have w7' : IntKind.i64.wrap (Int.tmod (xa : Int) (wn : Int)) = (xb : Int) := by rw [d4]; exact IntWalk.i64_in _ (by omega)
              have w8' : IntKind.i64.wrap ((yc : Int) + (xb : Int)) = (B : Int) := by rw [a3]; exact IntWalk.i64_in _ (by omega)
              obtain ⟨pb, hpb⟩ : ∃ pb : Nat, pb = 2 ^ B := ⟨_, rfl⟩
              have hpb25 : pb < 2 ^ 25 := by rw [hpb]; exact Nat.pow_lt_pow_right (by decide) hB25
              have w9' : IntKind.i64.wrap (2 ^ B) = (pb : Int) := by
                rw [show ((2 : Int) ^ B) = ((2 ^ B : Nat) : Int) by simp, ← hpb]
                exact IntWalk.i64_in _ (by omega)
              have hBi : (B : Int) < 64 := by omega
              have hw0 : ¬ (wn : Int) = 0 := by omega
              have hh0 : ¬ (hn : Int) = 0 := by omega
              have HPB := Lib.hid hpb
              clear hpb
              go_wp2_with fail
              go_quiet (fail)
              have H2 := (H1.drewN nq).drop
              have hsz6 : W.heap.size ≤ (W5.drewN nq).heap.size := hsz5
              clear k0 k1 w1' w2' w3' w4' w5' w6' w7' w8' w9' d1 d2 a1 d3 m1 a2 d4 a3 hb1 hb2 hb3 hb4 hb5 hb6 hb7 hBi H1 hsz5
              generalize W5.drewN nq = W6 at *
              have hm25 : m < 2 ^ 25 := by
                have := torF_lt k HWW.out HHH.out (t.take j)
                rwa [← HMO.out] at this
              obtain ⟨tb, htb⟩ : ∃ tb, tb = m.testBit B := ⟨_, rfl⟩
              obtain ⟨m2, hm2⟩ : ∃ m2, m2 = m ||| pb := ⟨_, rfl⟩
              have HMO2 : Hid ((m2, ok && !tb) = torF wn hn k (t.take (j + 1))) := Lib.hid (by
                rw [torF_take HC0.out, ← HMO.out, torN, ← HB.out, ← HPB.out, hm2, htb])
              have hor : bits .or .i64 (m : Int) (pb : Int) = (m2 : Int) := by rw [hm2]; exact i64_or_nat m pb (by omega) (by omega)
              have hand : bits .and .i64 (m : Int) (pb : Int) = ((if tb then pb else 0 : Nat) : Int) := by
                rw [i64_and_nat m pb (by omega) (by omega), HPB.out, and_powT, ← htb]
              have hpb0 : ((pb : Int) == 0) = false := by
                have : 0 < 2 ^ B := Nat.two_pow_pos B
                rw [← HPB.out] at this
                simp; omega
              have hpb1 : ¬ (pb : Int) = 0 := by simpa using hpb0
              clear htb hm2 HMO
              cases ok
              · clear hand
                go_wp2
                go_roundw
                case rel => exact ⟨j + 1, m2, false, by omega, by go_num, rfl, rfl, HMO2, hsz6, H2⟩
                case measure => simp [intOf]; omega
              · cases tb
                · simp only [Bool.false_eq_true, if_false] at hand
                  go_wp2
                  go_roundw
                  case rel => exact ⟨j + 1, m2, true, by omega, by go_num, rfl, rfl, HMO2, hsz6, H2⟩
                  case measure => simp [intOf]; omega
                · simp only [if_true] at hand
                  go_wp2
                  go_roundw
                  case rel => exact ⟨j + 1, m2, false, by omega, by go_num, rfl, rfl, HMO2, hsz6, H2⟩
                  case measure => simp [intOf]; omega
            · obtain rfl : j = t.length := by omega
              rw [List.take_length] at HMO
              have hk1 := congrArg Prod.snd HMO.out
              have hk2 := congrArg Prod.fst HMO.out
              simp only at hk1 hk2
              cases ok
              · have HACC2 : Hid (acc = torT wn hn (T.take i) ++ torK wn hn t (k + 1)) := Lib.hid (by rw [HACC.out, torK_no hk1.symm])
                clear hk1 hk2
                go_wp2
                go_roundw
                case rel => exact ⟨k + 1, acc, by omega, by go_num, HACC2, H⟩
                case measure => simp [intOf]; omega
              · have HACC2 : Hid (acc ++ [(m : Int)] = torT wn hn (T.take i) ++ torK wn hn t (k + 1)) := Lib.hid (by rw [HACC.out, torK_yes hk1.symm, ← hk2, List.append_assoc])
                have hnl : acc.length ≤ 1000 := by
                  rw [HACC.out, List.length_append]
                  have a1 := torT_len HWW.out HHH.out (T.take i)
                  have a2 := torK_len (w := wn) (h := hn) (t := t) k
                  rw [List.length_take] at a1
                  omega
                obtain ⟨Ao, co, rfl, _, _, _⟩ := Res.row_at H.h0
                clear hk1 hk2
                go_wp2_with (at_builtin; refine wpList_app rfl _ _ 29 rfl 3 j0 _ 1 8 Tryz.underlying29 hj0 hy0 hy1 hy2 rfl (by decide) _ _ _ rfl (H.alloc _) _ _ _ [.int .i64 (m : Int)] rfl (Rd.fresh wr _ #[.int .i64 (m : Int)] 1 1 rfl) oc1 (by unfold maxLen; omega) (by omega) ?_; intro v8 w8 H8; clear H)
                rw [show [Value.int .i64 (m : Int)] = ic [(m : Int)] from rfl, ← ic_append, show acc.length + 1 = (acc ++ [(m : Int)]).length by simp] at H8
                go_roundw
                case rel => exact ⟨k + 1, acc ++ [(m : Int)], by omega, by go_num, HACC2, H8⟩
                case measure => simp [intOf]; omega
        · obtain rfl : k = N := by omega
          have HACC2 : Hid (acc = torT wn hn (T.take (i + 1))) := Lib.hid (by rw [HACC.out, HN.out, torT_take HLA.out])
          go_wp2
          go_roundw
          case rel => exact ⟨i + 1, acc, by omega, by go_num, HACC2, H⟩
          case measure => simp [intOf]; omega
    · obtain rfl : i = T.length := by omega
      have hnl : acc.length ≤ 1000 := by
        rw [HACC.out, List.take_length]
        have a1 := torT_len HWW.out HHH.out T
        omega
      have HOD := Lib.hid (impl_ordered_c wr (H.oi.sr.more (Nat.zero_le _) (Nat.le_refl _)) (by omega))
      have HP2 : Hid (srtU acc = torL wn hn s) := Lib.hid (by rw [HPL.out, HACC.out, List.take_length])
      rw [HP2.out] at HOD
      obtain ⟨Au, cu, rfl, _, _, _⟩ := Res.row_at H.h0
      have hbw := H.below
      clear H
      go_wp2_with fail
      refine (HOD.out).mono ?_
      rintro e w6 ⟨v6, rfl, o6, b6⟩
      obtain ⟨A6, c6, rfl, _, _⟩ := o6.rd
      go_wp2
      go_ret
      exact ⟨_, rfl, OI.base o6 hbw.size (Nat.le_refl _), hbw.trans (b6.mono hbw.size)⟩
end Go.Proofs.YtjkppigjajknaaaGreatDoor

namespace Go.Proofs.YtjkppigjajknaaaGreatDoor
open Go.RowKit

set_option maxRecDepth 100000 in
theorem l16Fine_c (a b : Nat) (w : World) (ha : 1 ≤ a ∧ a ≤ 5) (hb : 1 ≤ b ∧ b ≤ 5) : Calls Tryz.prog 112 #[.int .i64 (a : Int), .int .i64 (b : Int)] w fun e w' => e = .returned (.bool true) ∧ w = w' := by
  have h1 := l1In_r (a : Int) 1 5 w
  have h2 := l1In_r (b : Int) 1 5 w
  rw [inR_iff.2 (by omega)] at h1 h2
  have H1 := Lib.hid h1
  have H2 := Lib.hid h2
  clear h1 h2
  go_enter Tryz.func112, Tryz.ntmps112
  go_wp2_with fail
  refine (H1.out).mono ?_
  rintro e w1 ⟨rfl, rfl⟩
  go_wp2_with fail
  refine (H2.out).mono ?_
  rintro e w1 ⟨rfl, rfl⟩
  go_wp2
  go_ret
  exact ⟨rfl, rfl⟩
set_option maxRecDepth 100000 in
set_option maxHeartbeats 3200000 in
theorem spec_tor_c {v : Value} {s : List Cell} (wn hn : Nat) (w : World) (h : CellsRd w 0 w.heap.size v s) (hw : 1 ≤ wn ∧ wn ≤ 5) (hh : 1 ≤ hn ∧ hn ≤ 5) (hsh : isShape s = true) :
    Calls Tryz.prog 149 #[.int .i64 (wn : Int), .int .i64 (hn : Int), v] w fun e w' => ∃ v', e = .returned v' ∧ IntsIn w' w.heap.size w'.heap.size v' (torL wn hn s) ∧ Below w.heap.size w w' := by
  have hl := shp_len hsh
  have HOR : Hid (∀ w1, Below w.heap.size w w1 → Calls Tryz.prog 164 #[v] w1 fun e w' => ∃ v', e = .returned v' ∧ CellSSRd w' w1.heap.size w'.heap.size v' (orients s) ∧ Below w1.heap.size w1 w') := Lib.hid fun w1 b1 =>
    spec_orients_ro w1 ((h.keep (SameIn.of_below b1 (Nat.le_refl _))).more (Nat.le_refl _) b1.size) hsh
  obtain ⟨T, hT⟩ : ∃ T, T = orients s := ⟨_, rfl⟩
  have HTS : Hid (∀ t ∈ T, ∀ c ∈ t, Sml 20 c) := Lib.hid (by rw [hT]; exact orients_sml hsh)
  have HTP : Hid (∀ t ∈ T, ∀ c ∈ t, 0 ≤ c.x ∧ 0 ≤ c.y) := Lib.hid (by rw [hT]; exact orients_nn)
  have HTL : Hid (∀ t ∈ T, t.length ≤ 8) := Lib.hid (by rw [hT]; exact orients_len8 hsh)
  have HT8 : Hid (T.length ≤ 8) := Lib.hid (by rw [hT]; exact orients_le 8)
  have HPL : Hid (torL wn hn s = srtU (torT wn hn T)) := Lib.hid (by rw [hT]; rfl)
  rw [← hT] at HOR
  have HWW := Lib.hid hw
  have HHH := Lib.hid hh
  obtain ⟨hw1, hw5⟩ := hw
  obtain ⟨hh1, hh5⟩ := hh
  obtain ⟨N, hN⟩ : ∃ N, N = wn * hn := ⟨_, rfl⟩
  have HN := Lib.hid hN
  have hN25 : N ≤ 25 := by rw [hN]; exact Nat.mul_le_mul hw5 hh5
  have hNw : IntKind.i64.wrap ((wn : Int) * (hn : Int)) = (N : Int) := by rw [hN, ← Int.natCast_mul, ← hN]; exact IntWalk.i64_in _ (by omega)
  obtain ⟨A, c, rfl, _, _⟩ := h
  have H0 := (Sep.start w).rowBox 3 #[] 1 0 rfl (by decide)
  clear hT hsh hN
  go_enter Tryz.func149, Tryz.ntmps149
  go_upto_region 2 with fail
  obtain ⟨go, hgo⟩ : ∃ g, g = w.heap.size := ⟨_, rfl⟩
  generalize hW1 : w.alloc (.cells #[] 3) = W1 at *
  rw [← hgo] at H0 ⊢
  have HO1 := Lib.hid (HOR.out W1 H0.below)
  clear hW1 hgo
  go_wp2_with fail
  refine (HO1.out).mono ?_
  rintro e w2 ⟨ov, rfl, hss, b2⟩
  have H2 := (H0.same b2).p1
  obtain ⟨vs, ⟨At, ct, rfl, hmt, hrt⟩, hsl⟩ := hss
  have HRT := Lib.hid hrt
  have HSL := Lib.hid hsl
  obtain ⟨lo, hlo⟩ : ∃ lo, lo = W1.heap.size := ⟨_, rfl⟩
  rw [← hlo] at H2 HRT HSL b2
  clear H0 HO1 b2 hrt hsl HOR hlo
  go_wp2
  go_loopw [7, 9] (fun ov kv wx => ∃ (i n g cp : Nat) (acc : List Int), i ≤ T.length ∧ kv = .int .i64 i ∧ ov = .slice (some ⟨g, 0, none⟩) n cp ∧ Hid (acc = torT wn hn (T.take i)) ∧ Hid (n = (srtU acc).length) ∧ Sep w wx [Res.row (.slice (some ⟨g, 0, none⟩) n cp) 3 1 n (ic (srtU acc)), Res.same lo w2.heap.size w2]) (fun _ kv _ => T.length - (intOf kv).toNat)
  case atStart => exact ⟨0, 0, _, _, [], Nat.zero_le _, rfl, rfl, Lib.hid rfl, Lib.hid rfl, H2⟩
  case round =>
    clear H2
    obtain ⟨i, n, g, cp, acc, hi, rfl, rfl, HACC, HNL, H⟩ := hrel
    have hT8 := HT8.out
    by_cases hlt : i < T.length
    · have hlti : (i : Int) < (T.length : Int) := by omega
      obtain ⟨b, off, t, x, rfl, hb1, hb2, hla, x1, xr⟩ := HRT.out.slot HSL.out rfl hlt
      have HX1 := Lib.hid x1
      have HLA := Lib.hid hla
      obtain ⟨Ax, cx, rfl, hmx, hrx⟩ := id xr
      have HRX := Lib.hid hrx
      have htl := HTL.out t (List.mem_of_getElem? hla)
      clear hla x1 hrx xr
      go_wp2_with fail
      refine (l16Fine_c wn hn wr HWW.out HHH.out).mono ?_
      rintro e w1 ⟨rfl, rfl⟩
      go_wp2
      go_loopw [7, 10] (fun ov kv wx => ∃ (k n g cp : Nat) (acc : List Int), k ≤ N ∧ kv = .int .i64 k ∧ ov = .slice (some ⟨g, 0, none⟩) n cp ∧ Hid (acc = torT wn hn (T.take i) ++ torK wn hn t k) ∧ Hid (n = (srtU acc).length) ∧ Sep w wx [Res.row (.slice (some ⟨g, 0, none⟩) n cp) 3 1 n (ic (srtU acc)), Res.same lo w2.heap.size w2]) (fun _ kv _ => N - (intOf kv).toNat)
      case atStart => exact ⟨0, n, g, cp, acc, Nat.zero_le _, rfl, rfl, Lib.hid (by rw [HACC.out]; simp [torK]), HNL, H⟩
      case round =>
        clear H HACC HNL
        obtain ⟨k, n, g, cp, acc, hk, rfl, rfl, HACC, HNL, H⟩ := hrel
        by_cases hlk : k < N
        · have hlki : (k : Int) < (N : Int) := by omega
          go_wp2
          go_loopw [11, 12, 13] (fun mv okv jv wx => ∃ (j m : Nat) (ok : Bool), j ≤ t.length ∧ jv = .int .i64 j ∧ mv = .int .i64 (m : Int) ∧ okv = .bool ok ∧ Hid ((m, ok) = torF wn hn k (t.take j)) ∧ Sep w wx [Res.row (.slice (some ⟨g, 0, none⟩) n cp) 3 1 n (ic (srtU acc)), Res.same lo w2.heap.size w2]) (fun _ _ jv _ => t.length - (intOf jv).toNat)
          case atStart => exact ⟨0, 0, true, Nat.zero_le _, rfl, rfl, rfl, Lib.hid rfl, H⟩
          case round =>
            clear H
            obtain ⟨j, m, ok, hj, rfl, rfl, rfl, HMO, H⟩ := hrel
            have y1 : wr.cell? ⟨b, off + i, none⟩ = some (.slice Ax t.length cx) := (same_cell H.h1 hb1 hb2).trans HX1.out
            by_cases hltj : j < t.length
            · have hltji : (j : Int) < (t.length : Int) := by omega
              obtain ⟨bx, ox, c0, rfl, hbt1, hbt2, hc0, z1, z2⟩ := HRX.out.at2 hltj
              have q1 := (same_cell H.h1 hbt1 hbt2).trans z1
              have q2 := (same_cell H.h1 hbt1 hbt2).trans z2
              have hmt := List.mem_of_getElem? hc0
              have hsm := HTS.out t (List.mem_of_getElem? HLA.out) c0 hmt
              have hps := HTP.out t (List.mem_of_getElem? HLA.out) c0 hmt
              unfold Sml at hsm
              obtain ⟨cx0, cy0, kq, kr, ya, yb, yc, xa, xb, hnum⟩ := tor_nums (c := c0) HWW.out HHH.out (by rw [← HN.out]; exact hlk) ⟨hps.1, by omega⟩ ⟨hps.2, by omega⟩
              obtain ⟨B, hB⟩ : ∃ B, B = torB wn hn c0 k := ⟨_, rfl⟩
              rw [← hB] at hnum
              obtain ⟨hx, hy, d1, d2, a1, d3, m1, a2, d4, a3, hB25, hb3, hb4, hb5, hb6, hb7, hb8, hb9⟩ := hnum
              have HB := Lib.hid hB
              have HC0 := Lib.hid hc0
              rw [hx] at q1
              rw [hy] at q2
              clear hB hc0 hmt hsm hps hx hy z1 z2
              have w1' : IntKind.i64.wrap (Int.tdiv (k : Int) (wn : Int)) = (kq : Int) := by rw [d1]; exact IntWalk.i64_in _ (by omega)
              have w2' : IntKind.i64.wrap (Int.tmod (k : Int) (wn : Int)) = (kr : Int) := by rw [d2]; exact IntWalk.i64_in _ (by omega)
              have w3' : IntKind.i64.wrap ((cy0 : Int) + (kq : Int)) = (ya : Int) := by rw [a1]; exact IntWalk.i64_in _ (by omega)
              have w4' : IntKind.i64.wrap (Int.tmod (ya : Int) (hn : Int)) = (yb : Int) := by rw [d3]; exact IntWalk.i64_in _ (by omega)
              have w5' : IntKind.i64.wrap ((yb : Int) * (wn : Int)) = (yc : Int) := by rw [m1]; exact IntWalk.i64_in _ (by omega)
              have w6' : IntKind.i64.wrap ((cx0 : Int) + (kr : Int)) = (xa : Int) := by rw [a2]; exact IntWalk.i64_in _ (by omega)
              have w7' : IntKind.i64.wrap (Int.tmod (xa : Int) (wn : Int)) = (xb : Int) := by rw [d4]; exact IntWalk.i64_in _ (by omega)
              have w8' : IntKind.i64.wrap ((yc : Int) + (xb : Int)) = (B : Int) := by rw [a3]; exact IntWalk.i64_in _ (by omega)
              obtain ⟨pb, hpb⟩ : ∃ pb : Nat, pb = 2 ^ B := ⟨_, rfl⟩
              have hpb25 : pb < 2 ^ 25 := by rw [hpb]; exact Nat.pow_lt_pow_right (by decide) hB25
              have w9' : IntKind.i64.wrap (2 ^ B) = (pb : Int) := by
                rw [show ((2 : Int) ^ B) = ((2 ^ B : Nat) : Int) by simp, ← hpb]
                exact IntWalk.i64_in _ (by omega)
              have hBi : (B : Int) < 64 := by omega
              have hw0 : ¬ (wn : Int) = 0 := by omega
              have hh0 : ¬ (hn : Int) = 0 := by omega
              have HPB := Lib.hid hpb
              clear hpb
              go_wp2_with fail
              go_quiet (fail)
              have H2 := H.drewN nq
              clear q1 q2 y1 w1' w2' w3' w4' w5' w6' w7' w8' d1 d2 a1 d3 m1 a2 d4 a3 hb3 hb4 hb5 hb6 hb7 hb8 hb9 H
              generalize wr.drewN nq = W6 at *
              have hm25 : m < 2 ^ 25 := by
                have := torF_lt k HWW.out HHH.out (t.take j)
                rwa [← HMO.out] at this
              obtain ⟨tb, htb⟩ : ∃ tb, tb = m.testBit B := ⟨_, rfl⟩
              obtain ⟨m2, hm2⟩ : ∃ m2, m2 = m ||| pb := ⟨_, rfl⟩
              have HMO2 : Hid ((m2, ok && !tb) = torF wn hn k (t.take (j + 1))) := Lib.hid (by
                rw [torF_take HC0.out, ← HMO.out, torN, ← HB.out, ← HPB.out, hm2, htb])
              have hor : bits .or .i64 (m : Int) (pb : Int) = (m2 : Int) := by rw [hm2]; exact i64_or_nat m pb (by omega) (by omega)
              have hbt : (bits .and .i64 ((m : Int) / 2 ^ B) 1 == 0) = !tb := by rw [bit_test0 (by omega), htb]
              clear htb hm2 HMO
              cases ok
              · clear hbt
                go_wp2
                go_roundw
                case rel => exact ⟨j + 1, m2, false, by omega, by go_num, rfl, rfl, HMO2, H2⟩
                case measure => simp [intOf]; omega
              · go_wp2
                go_roundw
                case rel => exact ⟨j + 1, m2, !tb, by omega, by go_num, rfl, rfl, HMO2, H2⟩
                case measure => simp [intOf]; omega
            · obtain rfl : j = t.length := by omega
              rw [List.take_length] at HMO
              have hk1 := congrArg Prod.snd HMO.out
              have hk2 := congrArg Prod.fst HMO.out
              simp only at hk1 hk2
              cases ok
              · have HACC2 : Hid (acc = torT wn hn (T.take i) ++ torK wn hn t (k + 1)) := Lib.hid (by rw [HACC.out, torK_no hk1.symm])
                clear hk1 hk2
                go_wp2
                go_roundw
                case rel => exact ⟨k + 1, n, g, cp, acc, by omega, by go_num, rfl, HACC2, HNL, H⟩
                case measure => simp [intOf]; omega
              · have HACC2 : Hid (acc ++ [(m : Int)] = torT wn hn (T.take i) ++ torK wn hn t (k + 1)) := Lib.hid (by rw [HACC.out, torK_yes hk1.symm, ← hk2, List.append_assoc])
                have hnl : n ≤ 1000 := by
                  rw [HNL.out]
                  refine Nat.le_trans srtU_len ?_
                  rw [HACC.out, List.length_append]
                  have a1 := torT_len HWW.out HHH.out (T.take i)
                  have a2 := torK_len (w := wn) (h := hn) (t := t) k
                  rw [List.length_take] at a1
                  omega
                have HPUT := Lib.hid (spec_put7_c (x := (m : Int)) H HNL.out asc_srtU (by omega))
                clear hk1 hk2
                go_wp2_with fail
                clear y1
                refine (HPUT.out).mono ?_
                rintro e w6 ⟨g6, c6, rfl, H6⟩
                rw [← srtU_snoc] at H6
                clear H HPUT
                go_wp2
                go_roundw
                case rel => exact ⟨k + 1, _, g6, c6, acc ++ [(m : Int)], by omega, by go_num, by rw [srtU_snoc], HACC2, Lib.hid rfl, H6⟩
                case measure => simp [intOf]; omega
        · obtain rfl : k = N := by omega
          have HACC2 : Hid (acc = torT wn hn (T.take (i + 1))) := Lib.hid (by rw [HACC.out, HN.out, torT_take HLA.out])
          go_wp2
          go_roundw
          case rel => exact ⟨i + 1, n, g, cp, acc, by omega, by go_num, rfl, HACC2, HNL, H⟩
          case measure => simp [intOf]; omega
    · obtain rfl : i = T.length := by omega
      have HP2 : Hid (srtU acc = torL wn hn s) := Lib.hid (by rw [HPL.out, HACC.out, List.take_length])
      go_wp2
      go_ret
      refine ⟨_, rfl, ?_, H.below⟩
      have := H.oi
      unfold IntsIn
      rw [← HP2.out, ← HNL.out]
      exact this
end Go.Proofs.YtjkppigjajknaaaGreatDoor

namespace Go.Proofs.YtjkppigjajknaaaGreatDoor
open Go.RowKit

def areaP (p : Nat × Nat) : Nat := p.1 * p.2
theorem leastP_stay {p : Nat × Nat} : ∀ B : List (Nat × Nat), (∀ q ∈ B, ¬ q.1 * q.2 < p.1 * p.2) → B.foldl lessP (some p) = some p
  | [], _ => rfl
  | q :: B, h => by
    rw [List.foldl_cons, lessP, if_neg (h q (by simp))]
    exact leastP_stay B fun r hr => h r (by simp [hr])
/-- the least pair, known by its order -/
theorem leastP_uniq {L : List (Nat × Nat)} {p : Nat × Nat} (hu : UpP L) (hp : p ∈ L) (hm : ∀ q ∈ L, q = p ∨ p.1 * p.2 < q.1 * q.2 ∨ (p.1 * p.2 = q.1 * q.2 ∧ p.1 < q.1)) : leastP L = some p := by
  obtain ⟨A, B, rfl⟩ := List.append_of_mem hp
  have h1 : leastP (A ++ p :: B) = B.foldl lessP (lessP (leastP A) p) := by simp [leastP]
  have h2 : lessP (leastP A) p = some p := by
    cases hA : leastP A with
    | none => rfl
    | some r =>
      have hr := leastP_mem hA
      have hle : r.1 ≤ p.1 := (List.pairwise_append.1 hu).2.2 r hr p (by simp)
      rcases hm r (by simp [hr]) with rfl | h3 | h3
      · rw [lessP, if_neg (Nat.lt_irrefl _)]
      · rw [lessP, if_pos h3]
      · omega
  rw [h1, h2]
  refine leastP_stay B fun q hq => ?_
  rcases hm q (by simp [hq]) with rfl | h3 | h3 <;> omega
/-- all sizes of a torus -/
def pairsT : List (Nat × Nat) := [(1, 1), (1, 2), (1, 3), (1, 4), (1, 5), (2, 1), (2, 2), (2, 3), (2, 4), (2, 5), (3, 1), (3, 2), (3, 3), (3, 4), (3, 5), (4, 1), (4, 2), (4, 3), (4, 4), (4, 5), (5, 1), (5, 2), (5, 3), (5, 4), (5, 5)]
theorem pairsT_le : ∀ p ∈ pairsT, 1 ≤ p.1 ∧ p.1 ≤ 5 ∧ 1 ≤ p.2 ∧ p.2 ≤ 5 := by decide
theorem pairsT_up : UpP pairsT := by unfold UpP; decide
theorem pairsT_in {a b : Nat} (ha : 1 ≤ a ∧ a ≤ 5) (hb : 1 ≤ b ∧ b ≤ 5) : (a, b) ∈ pairsT := by
  obtain ⟨h1, h2⟩ := ha
  obtain ⟨h3, h4⟩ := hb
  have ha : a = 1 ∨ a = 2 ∨ a = 3 ∨ a = 4 ∨ a = 5 := by omega
  have hb : b = 1 ∨ b = 2 ∨ b = 3 ∨ b = 4 ∨ b = 5 := by omega
  rcases ha with rfl | rfl | rfl | rfl | rfl <;> rcases hb with rfl | rfl | rfl | rfl | rfl <;> decide
def upT (a b : Nat) : List (Nat × Nat) := pairsT.filter fun p => decide (p.1 < a) || (decide (p.1 = a) && decide (p.2 < b))
theorem upT_all : ∀ p ∈ pairsT, upT p.1 (p.2 + 1) = upT p.1 p.2 ++ [p] := by decide +kernel
theorem upT_row : ∀ a, a < 6 → 1 ≤ a → upT a 6 = upT (a + 1) 1 := by decide +kernel
def upF (f : Nat × Nat → Bool) (a b : Nat) : List (Nat × Nat) := (upT a b).filter f
theorem upF_start (f : Nat × Nat → Bool) : upF f 1 1 = [] := by rw [upF, show upT 1 1 = [] by decide +kernel]; rfl
theorem upF_end (f : Nat × Nat → Bool) : upF f 6 1 = pairsT.filter f := by rw [upF, show upT 6 1 = pairsT by decide +kernel]
theorem upF_row (f : Nat × Nat → Bool) {a : Nat} (h1 : 1 ≤ a) (h5 : a ≤ 5) : upF f a 6 = upF f (a + 1) 1 := by rw [upF, upT_row a (by omega) h1]; rfl
theorem upF_step (f : Nat × Nat → Bool) {a b : Nat} (ha : 1 ≤ a ∧ a ≤ 5) (hb : 1 ≤ b ∧ b ≤ 5) : upF f a (b + 1) = upF f a b ++ if f (a, b) then [(a, b)] else [] := by
  have := upT_all (a, b) (pairsT_in ha hb)
  simp only at this
  rw [upF, this, List.filter_append, upF]
  simp only [List.filter_cons, List.filter_nil]
theorem upF_len (f : Nat × Nat → Bool) (a b : Nat) : (upF f a b).length ≤ 25 := Nat.le_trans (List.length_filter_le _ _) (Nat.le_trans (List.length_filter_le _ _) (by decide))
/-- does the shape tile the torus? -/
def fndT (s : List Cell) (p : Nat × Nat) : Bool := ordB (torAN p.1 p.2 s) (2 ^ (p.1 * p.2) - 1) 0
def planF (s : List Cell) (p : Nat × Nat) : Bool := ((p.1 * p.2) % s.length == 0) && fndT s p
def planL (s : List Cell) : List (Nat × Nat) := pairsT.filter (planF s)
def planO (s : List Cell) : Option (Nat × Nat) := leastP (planL s)
theorem planL_up (s : List Cell) : UpP (planL s) := pairsT_up.sublist List.filter_sublist
theorem planL_le {s : List Cell} : ∀ p ∈ planL s, 1 ≤ p.1 ∧ p.1 ≤ 5 ∧ 1 ≤ p.2 ∧ p.2 ≤ 5 := fun p hp => pairsT_le p (List.mem_filter.1 hp).1
/-- nothing has been found below an area and a width -/
def NoneT (s : List Cell) (ar a : Nat) : Prop := ∀ p ∈ pairsT, planF s p = true → ¬ (p.1 * p.2 < ar ∨ (p.1 * p.2 = ar ∧ p.1 < a))
theorem NoneT.start (s : List Cell) : NoneT s 1 1 := fun p hp _ => by
  have h1 := pairsT_le p hp
  have h2 : 1 * 1 ≤ p.1 * p.2 := Nat.mul_le_mul h1.1 h1.2.2.1
  omega
theorem NoneT.row {s : List Cell} {ar : Nat} (h : NoneT s ar 6) : NoneT s (ar + 1) 1 := fun p hp hf => by
  have h1 := pairsT_le p hp
  have := h p hp hf
  omega
theorem NoneT.skip {s : List Cell} {ar a : Nat} (h : NoneT s ar a) (hn : ∀ b, 1 ≤ b → b ≤ 5 → a * b = ar → planF s (a, b) = false) : NoneT s ar (a + 1) := fun p hp hf hb => by
  have h1 := pairsT_le p hp
  have h2 := h p hp hf
  have h3 : p.1 * p.2 = ar ∧ p.1 = a := by omega
  obtain ⟨p1, p2⟩ := p
  obtain ⟨h4, rfl⟩ := h3
  rw [hn p2 h1.2.2.1 h1.2.2.2 h4] at hf
  cases hf
theorem NoneT.end_ {s : List Cell} (h : NoneT s 26 1) : planO s = none := by
  have : planL s = [] := by
    rw [planL, List.filter_eq_nil_iff]
    intro p hp hf
    have h1 := pairsT_le p hp
    have h2 : p.1 * p.2 ≤ 5 * 5 := Nat.mul_le_mul h1.2.1 h1.2.2.2
    have := h p hp hf
    omega
  rw [planO, this]; rfl
theorem NoneT.found {s : List Cell} {ar a b : Nat} (h : NoneT s ar a) (ha : 1 ≤ a ∧ a ≤ 5) (hb : 1 ≤ b ∧ b ≤ 5) (he : a * b = ar) (hf : planF s (a, b) = true) : planO s = some (a, b) := by
  refine leastP_uniq (planL_up s) (List.mem_filter.2 ⟨pairsT_in ha hb, hf⟩) fun q hq => ?_
  obtain ⟨hq1, hq2⟩ := List.mem_filter.1 hq
  have h1 := h q hq1 hq2
  have h2 := pairsT_le q hq1
  simp only
  rw [he]
  by_cases e : q.1 * q.2 = ar ∧ q.1 = a
  · left
    obtain ⟨e1, e2⟩ := e
    obtain ⟨q1, q2⟩ := q
    simp only at e1 e2 h2
    subst e2
    rw [← he] at e1
    have := Nat.eq_of_mul_eq_mul_left (show 0 < q1 by omega) e1
    rw [this]
  · right
    omega
end Go.Proofs.YtjkppigjajknaaaGreatDoor

namespace Go.Proofs.YtjkppigjajknaaaGreatDoor
open Go.RowKit

theorem one_pcsT {s : List Cell} (h : isShape s = true) : arePcs [s] = true := by
  unfold arePcs
  simp [h, inR]
def rawTA (w h : Nat) (ps : List (List Cell)) : List Int := ps.flatMap (torL w h)
theorem rawTA_take {w h k : Nat} {ps : List (List Cell)} {s : List Cell} (hs : ps[k]? = some s) : rawTA w h (ps.take (k + 1)) = rawTA w h (ps.take k) ++ torL w h s := by
  obtain ⟨h1, h2⟩ := List.getElem?_eq_some_iff.1 hs
  rw [List.take_succ_eq_append_getElem h1, h2, rawTA, rawTA, List.flatMap_append]
  simp
theorem rawTA_len {w h : Nat} (hw : 1 ≤ w ∧ w ≤ 5) (hh : 1 ≤ h ∧ h ≤ 5) : ∀ ps : List (List Cell), (rawTA w h ps).length ≤ ps.length * 200
  | [] => by simp [rawTA]
  | s :: ps => by
    have ih := rawTA_len hw hh ps
    have h1 := torL_len (s := s) hw hh
    have e : rawTA w h (s :: ps) = torL w h s ++ rawTA w h ps := by simp [rawTA]
    rw [e, List.length_append, List.length_cons]
    omega
def allT (w h : Nat) (ps : List (List Cell)) : List Int := srtU (rawTA w h ps)
theorem allT_one (w h : Nat) (s : List Cell) : allT w h [s] = torA w h s := by simp [allT, rawTA, torA]
set_option maxRecDepth 100000 in
set_option maxHeartbeats 1600000 in
theorem impl_torAll_c {v2 : Value} {ps : List (List Cell)} (wn hn : Nat) (w : World) (h2 : CellSSRd w 0 w.heap.size v2 ps) (hw : 1 ≤ wn ∧ wn ≤ 5) (hh : 1 ≤ hn ∧ hn ≤ 5) (hp : arePcs ps = true) :
    Calls Tryz.prog 124 #[.int .i64 (wn : Int), .int .i64 (hn : Int), v2] w fun e w' => ∃ v', e = .returned (.tuple #[v', .bool true]) ∧ IntsIn w' w.heap.size w'.heap.size v' (allT wn hn ps) ∧ Below w.heap.size w w' := by
  obtain ⟨j0, hj, hy0, hy1, hy2⟩ := info_parts infoIntC
  have HPS := Lib.hid (arePcs_on hp).1
  have hp5 := (arePcs_on hp).2.2
  have HWW := Lib.hid hw
  have HHH := Lib.hid hh
  have HAP := Lib.hid (impl_arePcs_c w h2 (by omega) (fun s hs => by have := shp_len (HPS.out s hs); omega))
  rw [hp] at HAP
  obtain ⟨vs, ⟨A2, c2, rfl, hm2, hr2⟩, hsl⟩ := h2
  have HR2 := Lib.hid hr2
  have HSL := Lib.hid hsl
  clear hp hr2 hsl hw hh
  go_enter Tryz.func124, Tryz.ntmps124
  go_wp2_with fail
  refine (torIs_c wn hn w HWW.out HHH.out).mono ?_
  rintro e w1 ⟨rfl, rfl⟩
  go_wp2_with fail
  refine (HAP.out).mono ?_
  rintro e w1 ⟨rfl, b1⟩
  have H0 := ((Sep.start w).step b1).nil 3 1
  clear HAP b1
  go_wp2
  go_loopw [8, 22] (fun ov kv wx => ∃ (k : Nat) (acc : List Int), k ≤ ps.length ∧ kv = .int .i64 k ∧ Hid (acc = rawTA wn hn (ps.take k)) ∧ Sep w wx [Res.row ov 3 1 acc.length (ic acc)]) (fun _ kv _ => ps.length - (intOf kv).toNat)
  case atStart => exact ⟨0, [], Nat.zero_le _, rfl, Lib.hid rfl, H0⟩
  case round =>
    clear H0
    obtain ⟨k, acc, hk, rfl, HACC, H⟩ := hrel
    have hnl : acc.length ≤ 1440 := by
      rw [HACC.out]
      have a1 := rawTA_len HWW.out HHH.out (ps.take k)
      rw [List.length_take] at a1
      omega
    obtain ⟨Au, cu, rfl, _, _, _⟩ := Res.row_at H.h0
    by_cases hlt : k < ps.length
    · have hlti : (k : Int) < (ps.length : Int) := by omega
      obtain ⟨b, off, s, x, rfl, hb1, hb2, hla, x1, xr⟩ := HR2.out.slot HSL.out rfl hlt
      have y1 := (H.below.cell (p := ⟨b, off + k, none⟩) hb2).trans x1
      have HPC := Lib.hid (impl_tor_c wn hn wr ((xr.keep (SameIn.of_below H.below (Nat.le_refl _))).more (Nat.le_refl _) H.size) HWW.out HHH.out (HPS.out s (List.mem_of_getElem? hla)))
      have HLA := Lib.hid hla
      obtain ⟨Ax, cx, rfl, _, _⟩ := xr
      have hpl := torL_len (s := s) HWW.out HHH.out
      obtain ⟨Q, hQ⟩ : ∃ Q, Q = torL wn hn s := ⟨_, rfl⟩
      rw [← hQ] at HPC hpl
      have HQ := Lib.hid hQ
      clear hQ
      clear hla x1
      go_wp2_with fail
      refine (HPC.out).mono ?_
      rintro e w4 ⟨pv, rfl, o4, b4⟩
      have H4 := H.step b4
      obtain ⟨Ap, cp, rfl, _, hrp⟩ := o4.rd
      have HRP := Lib.hid hrp
      clear H HPC b4 o4 hrp y1
      go_wp2_with (at_builtin; refine wpList_app rfl _ _ 29 rfl 3 j0 _ 1 8 Tryz.underlying29 hj hy0 hy1 hy2 rfl (by decide) _ _ _ rfl H4 _ _ _ (ic Q) rfl HRP.out ic_one (by unfold maxLen; omega) (by omega) ?_; intro v8 w8 H8; clear H4)
      rw [← ic_append, ← List.length_append] at H8
      have HACC2 : Hid (acc ++ Q = rawTA wn hn (ps.take (k + 1))) := Lib.hid (by rw [HACC.out, rawTA_take HLA.out, HQ.out])
      go_roundw
      case rel => exact ⟨k + 1, acc ++ Q, by omega, by go_num, HACC2, H8⟩
      case measure => simp [intOf]; omega
    · obtain rfl : k = ps.length := by omega
      have HOD := Lib.hid (impl_ordered_c wr (H.oi.sr.more (Nat.zero_le _) (Nat.le_refl _)) (by omega))
      have HP2 : Hid (srtU acc = allT wn hn ps) := Lib.hid (by rw [HACC.out, List.take_length]; rfl)
      rw [HP2.out] at HOD
      have hbw := H.below
      clear H
      go_wp2_with fail
      refine (HOD.out).mono ?_
      rintro e w6 ⟨v6, rfl, o6, b6⟩
      obtain ⟨A6, c6, rfl, _, _⟩ := o6.rd
      go_wp2
      go_ret2
      exact ⟨_, rfl, OI.base o6 hbw.size (Nat.le_refl _), hbw.trans (b6.mono hbw.size)⟩
set_option maxRecDepth 100000 in
set_option maxHeartbeats 1600000 in
theorem spec_torAll_c {v2 : Value} {ps : List (List Cell)} (wn hn : Nat) (w : World) (h2 : CellSSRd w 0 w.heap.size v2 ps) (hw : 1 ≤ wn ∧ wn ≤ 5) (hh : 1 ≤ hn ∧ hn ≤ 5) (hp : arePcs ps = true) :
    Calls Tryz.prog 113 #[.int .i64 (wn : Int), .int .i64 (hn : Int), v2] w fun e w' => ∃ v', e = .returned v' ∧ IntsIn w' w.heap.size w'.heap.size v' (allT wn hn ps) ∧ Below w.heap.size w w' := by
  have HPS := Lib.hid (arePcs_on hp).1
  have hp5 := (arePcs_on hp).2.2
  have HWW := Lib.hid hw
  have HHH := Lib.hid hh
  obtain ⟨vs, ⟨A2, c2, rfl, hm2, hr2⟩, hsl⟩ := h2
  have HR2 := Lib.hid hr2
  have HSL := Lib.hid hsl
  have H0 := (Sep.start w).rowBox 3 #[] 1 0 rfl (by decide)
  clear hp hr2 hsl hw hh
  go_enter Tryz.func113, Tryz.ntmps113
  go_upto_region 2 with fail
  generalize hW1 : w.alloc (.cells #[] 3) = W at *
  generalize hgo : w.heap.size = go at H0 ⊢
  clear hW1
  go_wp2
  go_loopw [7, 8] (fun ov kv wx => ∃ (k n g cp : Nat) (acc : List Int), k ≤ ps.length ∧ kv = .int .i64 k ∧ ov = .slice (some ⟨g, 0, none⟩) n cp ∧ Hid (acc = rawTA wn hn (ps.take k)) ∧ Hid (n = (srtU acc).length) ∧ Sep w wx [Res.row (.slice (some ⟨g, 0, none⟩) n cp) 3 1 n (ic (srtU acc))]) (fun _ kv _ => ps.length - (intOf kv).toNat)
  case atStart => exact ⟨0, 0, _, _, [], Nat.zero_le _, rfl, rfl, Lib.hid rfl, Lib.hid rfl, H0⟩
  case round =>
    clear H0
    obtain ⟨k, n, g, cp, acc, hk, rfl, rfl, HACC, HN, H⟩ := hrel
    by_cases hlt : k < ps.length
    · have hlti : (k : Int) < (ps.length : Int) := by omega
      obtain ⟨b, off, s, x, rfl, hb1, hb2, hla, x1, xr⟩ := HR2.out.slot HSL.out rfl hlt
      have y1 := (H.below.cell (p := ⟨b, off + k, none⟩) hb2).trans x1
      have HPC := Lib.hid (spec_tor_c wn hn wr ((xr.keep (SameIn.of_below H.below (Nat.le_refl _))).more (Nat.le_refl _) H.size) HWW.out HHH.out (HPS.out s (List.mem_of_getElem? hla)))
      have HLA := Lib.hid hla
      obtain ⟨Q, hQ⟩ : ∃ Q, Q = torL wn hn s := ⟨_, rfl⟩
      have hpl := torL_len (s := s) HWW.out HHH.out
      rw [← hQ] at hpl HPC
      have HQ := Lib.hid hQ
      obtain ⟨Ax, cx, rfl, _, _⟩ := xr
      clear hla x1 hQ
      go_wp2_with fail
      refine (HPC.out).mono ?_
      rintro e w4 ⟨pv, rfl, o4, b4⟩
      have H5 := H.oiNew b4 o4
      obtain ⟨Ap, cq, rfl, _, _⟩ := o4.rd
      obtain ⟨m, hm⟩ : ∃ m, m = Q.length := ⟨_, rfl⟩
      rw [← hm] at H5 hpl ⊢
      have HM := Lib.hid hm
      clear H HPC y1 b4 o4 hm
      have hml : m ≤ 288 := by omega
      have hnl : acc.length ≤ 1440 := by
        rw [HACC.out]
        have a1 := rawTA_len HWW.out HHH.out (ps.take k)
        rw [List.length_take] at a1
        omega
      go_wp2
      go_loopw [7, 10] (fun ov jv wx => ∃ (j n g cp : Nat), j ≤ m ∧ jv = .int .i64 j ∧ ov = .slice (some ⟨g, 0, none⟩) n cp ∧ Hid (n = (srtU (acc ++ Q.take j)).length) ∧ Sep w wx [Res.row (.slice (some ⟨g, 0, none⟩) n cp) 3 1 n (ic (srtU (acc ++ Q.take j))), Res.row (.slice Ap m cq) 3 1 m (ic Q)]) (fun _ jv _ => m - (intOf jv).toNat)
      case atStart => exact ⟨0, n, g, cp, Nat.zero_le _, rfl, rfl, by rw [List.take_zero, List.append_nil]; exact HN, by rw [List.take_zero, List.append_nil]; exact H5.g1⟩
      case round =>
        clear H5 HN
        obtain ⟨j, n, g, cp, hj, rfl, rfl, HN, H⟩ := hrel
        by_cases hltj : j < m
        · have hltji : (j : Int) < (m : Int) := by omega
          obtain ⟨gp, o, cc', he, _, _, _⟩ := own_shape H.h1 (by omega)
          injection he with he1 he2 he3
          subst he1 he3
          obtain ⟨rfl, _⟩ := own_blk H.h1
          obtain ⟨x, hx⟩ : ∃ x, Q[j]? = some x := ⟨Q[j]'(by rw [← HM.out]; exact hltj), List.getElem?_eq_getElem _⟩
          have x1 := own_cell1 H.h1 hx
          rw [Nat.zero_add] at x1
          have HX := Lib.hid hx
          have hnb : n ≤ 2000 := by
            rw [HN.out]
            refine Nat.le_trans srtU_len ?_
            rw [List.length_append, List.length_take]
            omega
          have HPUT := Lib.hid (spec_put7_c (x := x) H HN.out asc_srtU (by omega))
          clear hx
          go_wp2_with fail
          refine (HPUT.out).mono ?_
          rintro e w7 ⟨g7, c7, rfl, H7⟩
          rw [fold_take HX.out] at H7 ⊢
          clear H HPUT x1
          go_wp2
          go_roundw
          case rel => exact ⟨j + 1, _, g7, c7, by omega, by go_num, rfl, Lib.hid rfl, H7⟩
          case measure => simp [intOf]; omega
        · obtain rfl : j = m := by omega
          have HACC2 : Hid (acc ++ Q.take j = rawTA wn hn (ps.take (k + 1))) := Lib.hid (by rw [HACC.out, rawTA_take HLA.out, HM.out, List.take_length, HQ.out])
          go_wp2
          go_roundw
          case rel => exact ⟨k + 1, n, g, cp, acc ++ Q.take j, by omega, by go_num, rfl, HACC2, HN, H.drop2⟩
          case measure => simp [intOf]; omega
    · obtain rfl : k = ps.length := by omega
      have HP2 : Hid (srtU acc = allT wn hn ps) := Lib.hid (by rw [HACC.out, List.take_length]; rfl)
      go_wp2
      go_ret
      refine ⟨_, rfl, ?_, H.below⟩
      have := H.oi
      unfold IntsIn
      rw [← HP2.out, ← HN.out]
      exact this
/-- does the shape tile the torus? -/
theorem full_nums {wn hn : Nat} (hw : 1 ≤ wn ∧ wn ≤ 5) (hh : 1 ≤ hn ∧ hn ≤ 5) : ∃ N p F : Nat, N = wn * hn ∧ N ≤ 25 ∧ p = 2 ^ N ∧ F = 2 ^ (wn * hn) - 1 ∧ F < 2 ^ 36 ∧ IntKind.i64.wrap ((wn : Int) * (hn : Int)) = (N : Int) ∧ IntKind.i64.wrap (2 ^ N) = (p : Int) ∧ IntKind.i64.wrap ((p : Int) - 1) = (F : Int) ∧ p < 2 ^ 36 := by
  obtain ⟨N, hN⟩ : ∃ N, N = wn * hn := ⟨_, rfl⟩
  have h25 : N ≤ 25 := by rw [hN]; exact Nat.mul_le_mul hw.2 hh.2
  have h1 : 2 ^ N < 2 ^ 36 := Nat.pow_lt_pow_right (by decide) (by omega)
  have h2 : 0 < 2 ^ N := Nat.two_pow_pos N
  refine ⟨N, 2 ^ N, 2 ^ N - 1, hN, h25, rfl, by rw [hN], by omega, ?_, ?_, ?_, h1⟩
  · rw [hN, ← Int.natCast_mul, ← hN]; exact IntWalk.i64_in _ (by omega)
  · rw [show ((2 : Int) ^ N) = ((2 ^ N : Nat) : Int) by simp]
    generalize 2 ^ N = q at *
    exact IntWalk.i64_in _ (by omega)
  · generalize 2 ^ N = q at *
    rw [show ((q : Int) - 1) = ((q - 1 : Nat) : Int) by omega]
    exact IntWalk.i64_in _ (by omega)
set_option maxRecDepth 100000 in
set_option maxHeartbeats 1600000 in
theorem impl_findT_c {v2 : Value} {s : List Cell} (wn hn : Nat) (w : World) (h2 : CellSSRd w 0 w.heap.size v2 [s]) (hw : 1 ≤ wn ∧ wn ≤ 5) (hh : 1 ≤ hn ∧ hn ≤ 5) (hsh : isShape s = true) (ht : Tab64 w) :
    Calls Tryz.prog 75 #[.int .i64 (wn : Int), .int .i64 (hn : Int), v2] w fun e w' => ∃ v', e = .returned (.tuple #[v', .bool (fndT s (wn, hn))]) ∧ Below w.heap.size w w' := by
  have HC := Lib.hid (impl_torAll_c wn hn w h2 hw hh (one_pcsT hsh))
  rw [allT_one, ← nl_torAN hw hh] at HC
  obtain ⟨N, p, F, hN, hN25, hp, hF, hF36, e1, e2, e3, hp36⟩ := full_nums hw hh
  have HTB : Hid (∀ w1, Below w.heap.size w w1 → Tab64 w1) := Lib.hid fun w1 b1 => tab64_on ht b1
  obtain ⟨R, hR⟩ : ∃ R, R = fndT s (wn, hn) := ⟨_, rfl⟩
  have HOR : Hid (∀ v w1, Below w.heap.size w w1 → IntsRd w1 0 w1.heap.size v (nl (torAN wn hn s)) → Calls Tryz.prog 100 #[v, .int .i64 (F : Int), .int .i64 0] w1 fun e w' => ∃ v', e = .returned (.tuple #[v', .bool R]) ∧ Below w1.heap.size w1 w') := Lib.hid fun v w1 b1 hv => by
    rw [hR, fndT, ← hF]
    refine (ordinal_c (N := 0) w1 hv (torAN_lt hw hh) (by rw [torAN, List.length_map]; have := torA_len (s := s) hw hh; omega) (by omega) (by omega) (HTB.out w1 b1)).mono ?_
    rintro e w' ⟨v', h1, _, h3⟩
    exact ⟨v', h1, h3⟩
  rw [← hR]
  obtain ⟨vs, ⟨A2, c2, rfl, _, _⟩, _⟩ := h2
  have hNi : (N : Int) < 64 := by omega
  clear hN hp hF hR ht hsh
  go_enter Tryz.func75, Tryz.ntmps75
  go_wp2_with fail
  refine (HC.out).mono ?_
  rintro e w1 ⟨v1, rfl, o1, b1⟩
  have HO1 := Lib.hid ((IntsIn.rd o1).more (Nat.zero_le _) (Nat.le_refl _))
  clear o1 HC
  go_wp2_with fail
  refine (HOR.out _ _ b1 HO1.out).mono ?_
  rintro e w2 ⟨v3, rfl, b2⟩
  have hb := b1.trans (b2.mono b1.size)
  go_wp2
  go_ret2
  exact ⟨_, rfl, hb⟩
set_option maxRecDepth 100000 in
set_option maxHeartbeats 3200000 in
theorem spec_findT_c {v2 : Value} {s : List Cell} (wn hn : Nat) (w : World) (h2 : CellSSRd w 0 w.heap.size v2 [s]) (hw : 1 ≤ wn ∧ wn ≤ 5) (hh : 1 ≤ hn ∧ hn ≤ 5) (hsh : isShape s = true) :
    Calls Tryz.prog 63 #[.int .i64 (wn : Int), .int .i64 (hn : Int), v2] w fun e w' => ∃ v', e = .returned (.tuple #[v', .bool (fndT s (wn, hn))]) ∧ Below w.heap.size w w' := by
  have HAP := Lib.hid (spec_arePcs_c w h2 (by show 1 ≤ 1048576; omega) (fun t ht => by rw [List.mem_singleton] at ht; rw [ht]; have := shp_len hsh; omega))
  rw [one_pcsT hsh] at HAP
  have HC : Hid (∀ w1, Below w.heap.size w w1 → Calls Tryz.prog 113 #[.int .i64 (wn : Int), .int .i64 (hn : Int), v2] w1 fun e w' => ∃ v', e = .returned v' ∧ IntsIn w' w1.heap.size w'.heap.size v' (nl (torAN wn hn s)) ∧ Below w1.heap.size w1 w') := Lib.hid fun w1 b1 => by
    have := spec_torAll_c wn hn w1 ((h2.keep (SameIn.of_below b1 (Nat.le_refl _))).more (Nat.le_refl _) b1.size) hw hh (one_pcsT hsh)
    rwa [allT_one, ← nl_torAN hw hh] at this
  obtain ⟨N, p, F, hN, hN25, hp, hF, hF36, e1, e2, e3, hp36⟩ := full_nums hw hh
  obtain ⟨R, hR⟩ : ∃ R, R = fndT s (wn, hn) := ⟨_, rfl⟩
  obtain ⟨M1, hM1⟩ : ∃ M, M = srcM (torAN wn hn s) F 1 := ⟨_, rfl⟩
  have HM1 : Hid (M1 = if R = true then [nl (ordR (torAN wn hn s) F 0)] else []) := Lib.hid (by rw [hM1, srcM_one, hR, fndT, hF])
  have HORD : Hid (∀ w1 v, Below w.heap.size w w1 → IntsRd w1 0 w1.heap.size v (nl (torAN wn hn s)) → Calls Tryz.prog 81 #[v, .int .i64 (F : Int), .int .i64 1] w1 fun e w' => ∃ g n c vs, e = .returned (.slice (some ⟨g, 0, none⟩) n c) ∧ n = M1.length ∧ Sep w1 w' [Res.row (.slice (some ⟨g, 0, none⟩) n c) 29 1 n vs, Res.rows vs M1]) := Lib.hid fun w1 v b1 hv => by
    have := srch_c (v := v) (torAN_lt hw hh (s := s)) F (by omega) 1 w1 hv (Nat.le_refl _) (by omega)
    rw [hM1]
    exact this
  rw [← hR]
  have HWW := Lib.hid hw
  have HHH := Lib.hid hh
  obtain ⟨vs, ⟨A2, c2, rfl, _, _⟩, _⟩ := h2
  simp only [List.length_singleton] at HC HAP ⊢
  have hNi : (N : Int) < 64 := by omega
  clear hN hp hF hR hsh hM1 hw hh
  go_enter Tryz.func63, Tryz.ntmps63
  go_wp2_with fail
  refine (l16Fine_c wn hn w HWW.out HHH.out).mono ?_
  rintro e w1 ⟨rfl, rfl⟩
  go_wp2_with fail
  refine (HAP.out).mono ?_
  rintro e w1 ⟨rfl, b1⟩
  have H1 := ((Sep.start w).step b1).drew
  clear HAP b1
  go_wp2_with fail
  go_cut [8] (fun lv wx => ∃ g n c vs, lv = .slice (some ⟨g, 0, none⟩) n c ∧ Hid (n = M1.length) ∧ Sep w wx [Res.row (.slice (some ⟨g, 0, none⟩) n c) 29 1 n vs, Res.rows vs M1])
  case first =>
    go_region_with (first
      | (go_at_call 113; (with_reducible refine (HC.out _ H1.below).mono ?_); rintro e w4 ⟨av, rfl, o4, b4⟩; replace H1 := H1.step b4; have oa := (IntsIn.rd o4).more (Nat.zero_le _) (Nat.le_refl _); clear o4; obtain ⟨Aa, ca, rfl, _, _⟩ := id oa)
      | (go_at_call 81; (with_reducible refine (HORD.out _ _ H1.below oa).mono ?_); rintro e w6 ⟨g6, n6, c6, vs6, rfl, hn6, H6⟩; have HN6 := Lib.hid hn6; clear hn6))
    all_goals (go_wp2_with fail; go_meet; exact ⟨_, _, _, vs6, rfl, HN6, H6.join H1⟩)
  case rest =>
  obtain ⟨g6, n6, c6, vs6, rfl, HN6, H6⟩ := hcut
  generalize hwc : wc = w7 at *
  clear hwc H1 HC HORD
  cases R
  · obtain rfl : M1 = [] := by rw [HM1.out]; rfl
    obtain rfl : n6 = 0 := HN6.out
    have H2 := H6.rowBox 3 #[] 1 0 rfl (by decide)
    go_wp2
    go_ret2
    exact ⟨⟨_, rfl⟩, H2.below⟩
  · obtain rfl : M1 = [nl (ordR (torAN wn hn s) F 0)] := by rw [HM1.out]; rfl
    obtain rfl : n6 = 1 := HN6.out
    have hvl : vs6.length = 1 := RowsAt.len H6.h1
    obtain ⟨u, rfl⟩ : ∃ u, vs6 = [u] := by
      match vs6, hvl with
      | [u], _ => exact ⟨u, rfl⟩
    have x0 : w7.cell? ⟨g6, 0, none⟩ = some u := by have := own_cell H6.h0 (j := 0) (u := u) rfl; rwa [Nat.zero_add] at this
    have hbl := H6.below
    clear H6 hvl
    go_wp2
    go_ret2
    exact ⟨⟨_, rfl⟩, hbl⟩
end Go.Proofs.YtjkppigjajknaaaGreatDoor

namespace Go.Proofs.YtjkppigjajknaaaGreatDoor
open Go.RowKit

set_option maxRecDepth 100000 in
set_option maxHeartbeats 6400000 in
theorem impl_plane_c {v : Value} {s : List Cell} (w : World) (h : CellsRd w 0 w.heap.size v s) (hsh : isShape s = true) (ht : Tab64 w) :
    Calls Tryz.prog 33 #[v] w fun e w' => e = .returned (.tuple #[.int .i64 (p1 (planO s) : Nat), .int .i64 (p2 (planO s) : Nat), .bool (planO s).isSome]) ∧ Below w.heap.size w w' := by
  obtain ⟨i0, hi, hz0, hz1, hz2⟩ := info_parts infoRowT
  obtain ⟨f, hf⟩ : ∃ f, f = planF s := ⟨_, rfl⟩
  have hl := shp_len hsh
  have HS : Hid (∀ w1, Below w.heap.size w w1 → Calls Tryz.prog 27 #[v] w1 fun e w' => e = .returned (.bool true) ∧ Below w1.heap.size w1 w') := Lib.hid fun w1 b1 => by
    have := impl_isShape_c w1 (cells_keep h b1) (by omega)
    rwa [hsh] at this
  have HT : Hid (∀ w1 g (a b : Nat), Below w.heap.size w w1 → (1 ≤ a ∧ a ≤ 5) → (1 ≤ b ∧ b ≤ 5) → Blk w1 g 25 #[v] → Calls Tryz.prog 75 #[.int .i64 (a : Int), .int .i64 (b : Int), .slice (some ⟨g, 0, none⟩) 1 1] w1 fun e w' => ∃ v', e = .returned (.tuple #[v', .bool (fndT s (a, b))]) ∧ Below w1.heap.size w1 w') := Lib.hid fun w1 g a b b1 ha hb hbk =>
    impl_findT_c a b w1 (one_ssRd hbk (cells_keep h b1)) ha hb hsh (tab64_on ht b1)
  have HR : Hid (planL s = upF f 6 1) := Lib.hid (by rw [hf, upF_end]; rfl)
  have HF := Lib.hid hf
  have HLS : Hid (∀ u w1, Below w.heap.size w w1 → IntSSRd w1 0 w1.heap.size u (rowsP (planL s)) → Calls Tryz.prog 72 #[u] w1 fun e w' => e = .returned (.tuple #[.int .i64 (p1 (planO s) : Nat), .int .i64 (p2 (planO s) : Nat), .bool (planO s).isSome]) ∧ Below w1.heap.size w1 w') := Lib.hid fun u w1 _ hu => by
    have hle : (planL s).length ≤ 25 := by
      have := upF_len (planF s) 6 1
      rwa [upF_end] at this
    exact least_c w1 hu (planL_up s) planL_le hle
  have H0 : Sep w w [Res.row (.slice none 0 0) 29 1 0 [], Res.rows [] []] := (Sep.start w).rowsNil.nil 29 1
  obtain ⟨A1, c1, rfl, _, _⟩ := h
  obtain ⟨n, hn⟩ : ∃ n, n = s.length := ⟨_, rfl⟩
  rw [← hn] at HS HT hl ⊢
  have HN := Lib.hid hn
  obtain ⟨PO, hPO⟩ : ∃ O, O = planO s := ⟨_, rfl⟩
  rw [← hPO] at HLS ⊢
  clear hf hn hsh ht hPO
  go_enter Tryz.func33, Tryz.ntmps33
  go_wp2
  go_loopw [5, 6] (fun ov av wx => ∃ (a : Nat) (vs : List Value), 1 ≤ a ∧ a ≤ 6 ∧ av = .int .i64 a ∧ Sep w wx [Res.row ov 29 1 (upF f a 1).length vs, Res.rows vs (rowsP (upF f a 1))]) (fun _ av _ => 6 - (intOf av).toNat)
  case atStart => exact ⟨1, [], Nat.le_refl _, by omega, rfl, by rw [upF_start]; exact H0⟩
  case round =>
    clear H0
    obtain ⟨a, vs, ha1, ha6, rfl, H⟩ := hrel
    by_cases hlt : a ≤ 5
    · have hlti : (a : Int) ≤ 5 := by omega
      go_wp2
      go_loopw [5, 7] (fun ov bv wx => ∃ (b : Nat) (vs : List Value), 1 ≤ b ∧ b ≤ 6 ∧ bv = .int .i64 b ∧ Sep w wx [Res.row ov 29 1 (upF f a b).length vs, Res.rows vs (rowsP (upF f a b))]) (fun _ bv _ => 6 - (intOf bv).toNat)
      case atStart => exact ⟨1, vs, Nat.le_refl _, by omega, rfl, H⟩
      case round =>
        clear H
        obtain ⟨b, vs, hb1, hb6, rfl, H⟩ := hrel
        by_cases hlb : b ≤ 5
        · have hlbi : (b : Int) ≤ 5 := by omega
          have hst : Hid (upF f a (b + 1) = upF f a b ++ if f (a, b) then [(a, b)] else []) := Lib.hid (upF_step f ⟨ha1, hlt⟩ ⟨hb1, hlb⟩)
          have HL15 := upF_len f a b
          have HC1 := Lib.hid (HS.out _ H.below)
          go_wp2_with fail
          refine (HC1.out).mono ?_
          rintro e w1 ⟨rfl, b1⟩
          replace H := H.step b1
          clear b1 HC1
          obtain ⟨hm36, hmw⟩ := mul_small (a := a) (b := b) ⟨ha1, by omega⟩ ⟨by omega, by omega⟩
          obtain ⟨q, hq⟩ : ∃ q, q = a * b := ⟨_, rfl⟩
          have hrem : Int.tmod (q : Int) (n : Int) = ((q % n : Nat) : Int) := Int.ofNat_tmod q n
          have hn0 : ¬ (n : Int) = 0 := by omega
          rw [← hq] at hmw
          have HQ := Lib.hid hq
          by_cases hmod : q % n = 0
          · have hfe : Hid (f (a, b) = fndT s (a, b)) := Lib.hid (by rw [HF.out, planF, ← HN.out, ← HQ.out, hmod]; rfl)
            rw [hmod] at hrem
            have H3 := H.box 25 #[.slice A1 n c1]
            have HC2 := Lib.hid (HT.out _ _ a b H3.below ⟨ha1, hlt⟩ ⟨hb1, hlb⟩ H3.h0)
            rw [← hfe.out] at HC2
            clear hq hm36 H
            go_wp2_with fail
            refine (HC2.out).mono ?_
            rintro e w2 ⟨v9, rfl, b2⟩
            have H2 := (H3.step b2).drop
            clear H3 b2 HC2 hrem hmw
            cases hft : f (a, b)
            · have HSN : Hid (upF f a (b + 1) = upF f a b) := Lib.hid (by rw [hst.out, if_neg (by rw [hft]; exact Bool.false_ne_true), List.append_nil])
              rw [← HSN.out] at H2
              go_wp2
              go_roundw
              case rel => exact ⟨b + 1, vs, by omega, by omega, by go_num, H2⟩
              case measure => simp [intOf]; omega
            · have H3 : Sep w _ (Res.row _ 3 1 2 (ic (rowP (a, b))) :: _) := H2.rowBox 3 #[.int .i64 (a : Int), .int .i64 (b : Int)] 1 2 rfl (by decide)
              have HFR := Rd.fresh (w2.alloc (.cells #[.int .i64 (a : Int), .int .i64 (b : Int)] 3)) 29 #[.slice (some ⟨w2.heap.size, 0, none⟩) 2 2] 1 1 rfl
              simp only [World.size_alloc] at HFR
              go_wp2_with (at_builtin; refine wpList_app rfl _ _ 70 rfl 29 i0 _ 1 24 Tryz.underlying70 hi hz0 hz1 hz2 rfl (by decide) _ _ _ rfl (H3.g1.alloc _) _ _ _ [.slice (some ⟨w2.heap.size, 0, none⟩) 2 2] rfl HFR (ocT rfl) (by unfold maxLen; omega) (by omega) ?_; intro v4 w4 H4; clear H3 HFR)
              have H5 := (H4.g1.g2.rowsSnoc (r := rowP (a, b)) rfl).p1
              rw [← rowsP_snoc] at H5
              have HSN : Hid (upF f a (b + 1) = upF f a b ++ [(a, b)]) := Lib.hid (by rw [hst.out, if_pos hft])
              have HSL : Hid ((upF f a b).length + 1 = (upF f a (b + 1)).length) := Lib.hid (by rw [HSN.out, List.length_append]; rfl)
              rw [← HSN.out, HSL.out] at H5
              clear H4
              go_wp2
              go_roundw
              case rel => exact ⟨b + 1, _, by omega, by omega, by go_num, H5⟩
              case measure => simp [intOf]; omega
          · have hft : f (a, b) = false := by
              rw [HF.out, planF, ← HN.out, ← HQ.out]
              simp [hmod]
            have hft := Lib.hid hft
            obtain ⟨t, htt⟩ : ∃ t, t = q % n := ⟨_, rfl⟩
            rw [← htt] at hmod hrem
            have hmodi : ¬ (t : Int) = 0 := by omega
            have H2 := H
            clear hq hm36 htt H
            have HSN : Hid (upF f a (b + 1) = upF f a b) := Lib.hid (by rw [hst.out, if_neg (by rw [hft.out]; exact Bool.false_ne_true), List.append_nil])
            rw [← HSN.out] at H2
            go_wp2
            go_roundw
            case rel => exact ⟨b + 1, vs, by omega, by omega, by go_num, H2⟩
            case measure => simp [intOf]; omega
        · have hlbi : ¬ (b : Int) ≤ 5 := by omega
          obtain rfl : b = 6 := by omega
          have HRW := Lib.hid (upF_row f ha1 hlt)
          rw [HRW.out] at H
          go_wp2
          go_roundw
          case rel => exact ⟨a + 1, vs, by omega, by omega, by go_num, H⟩
          case measure => simp [intOf]; omega
    · have hlti : ¬ (a : Int) ≤ 5 := by omega
      obtain rfl : a = 6 := by omega
      rw [← HR.out] at H
      have HLC := Lib.hid (HLS.out _ _ H.below (H.ssRd (by rw [rowsP_len])))
      have hb := H.below
      clear H
      go_wp2_with fail
      refine (HLC.out).mono ?_
      rintro e w5 ⟨rfl, b5⟩
      have hb5 := hb.trans (b5.mono hb.size)
      go_wp2
      refine bodyPost_ret (results_tmp3 rfl _ _ _) rfl ?_
      exact ⟨rfl, hb5⟩
/-- the smallest rectangle -/
def rectO (s : List Cell) : Option (Nat × Nat) := leastP (rectsT s)
theorem rectsT_up (s : List Cell) : UpP (rectsT s) := pairsN_up.sublist List.filter_sublist
theorem rectsT_le {s : List Cell} : ∀ p ∈ rectsT s, 1 ≤ p.1 ∧ p.1 ≤ 5 ∧ 1 ≤ p.2 ∧ p.2 ≤ 5 := fun p hp => pairsN_le p (rectsT_mem.1 hp).1
theorem rectsT_len (s : List Cell) : (rectsT s).length ≤ 25 := Nat.le_trans (List.length_filter_le _ _) (by decide)
set_option maxRecDepth 100000 in
theorem impl_srect_c {v : Value} {s : List Cell} (w : World) (h : CellsRd w 0 w.heap.size v s) (hl : s.length ≤ 1048576) (ht : Tab64 w) :
    Calls Tryz.prog 29 #[v] w fun e w' => e = .returned (.tuple #[.int .i64 (p1 (rectO s) : Nat), .int .i64 (p2 (rectO s) : Nat), .bool (rectO s).isSome]) ∧ Below w.heap.size w w' := by
  have HC := Lib.hid (impl_rects_c w h hl ht)
  have HLS : Hid (∀ u w1, IntSSRd w1 0 w1.heap.size u (rowsP (rectsT s)) → Calls Tryz.prog 72 #[u] w1 fun e w' => e = .returned (.tuple #[.int .i64 (p1 (rectO s) : Nat), .int .i64 (p2 (rectO s) : Nat), .bool (rectO s).isSome]) ∧ Below w1.heap.size w1 w') := Lib.hid fun u w1 hu =>
    least_c w1 hu (rectsT_up s) rectsT_le (rectsT_len s)
  obtain ⟨A1, c1, rfl, _, _⟩ := h
  obtain ⟨PO, hPO⟩ : ∃ O, O = rectO s := ⟨_, rfl⟩
  rw [← hPO] at HLS ⊢
  clear ht hPO
  go_enter Tryz.func29, Tryz.ntmps29
  go_wp2_with fail
  refine (HC.out).mono ?_
  rintro e w1 ⟨u, vs, rfl, H⟩
  have HLC := Lib.hid (HLS.out _ _ (H.ssRd (by rw [rowsP_len])))
  have hb := H.below
  clear H
  go_wp2_with fail
  refine (HLC.out).mono ?_
  rintro e w5 ⟨rfl, b5⟩
  have hb5 := hb.trans (b5.mono hb.size)
  go_wp2
  refine bodyPost_ret (results_tmp3 rfl _ _ _) rfl ?_
  exact ⟨rfl, hb5⟩
end Go.Proofs.YtjkppigjajknaaaGreatDoor

namespace Go.Proofs.YtjkppigjajknaaaGreatDoor
open Go.RowKit

set_option maxRecDepth 100000 in
set_option maxHeartbeats 6400000 in
theorem spec_plane_c {v : Value} {s : List Cell} (w : World) (h : CellsRd w 0 w.heap.size v s) (hsh : isShape s = true) :
    Calls Tryz.prog 23 #[v] w fun e w' => e = .returned (.tuple #[.int .i64 (p1 (planO s) : Nat), .int .i64 (p2 (planO s) : Nat), .bool (planO s).isSome]) ∧ Below w.heap.size w w' := by
  have hl := shp_len hsh
  have HS : Hid (∀ w1, Below w.heap.size w w1 → Calls Tryz.prog 18 #[v] w1 fun e w' => e = .returned (.bool true) ∧ Below w1.heap.size w1 w') := Lib.hid fun w1 b1 => by
    have := spec_isShape_c w1 (cells_keep h b1) (by omega)
    rwa [hsh] at this
  have HT : Hid (∀ w1 g (a b : Nat), Below w.heap.size w w1 → (1 ≤ a ∧ a ≤ 5) → (1 ≤ b ∧ b ≤ 5) → Blk w1 g 25 #[v] → Calls Tryz.prog 63 #[.int .i64 (a : Int), .int .i64 (b : Int), .slice (some ⟨g, 0, none⟩) 1 1] w1 fun e w' => ∃ v', e = .returned (.tuple #[v', .bool (fndT s (a, b))]) ∧ Below w1.heap.size w1 w') := Lib.hid fun w1 g a b b1 ha hb hbk =>
    spec_findT_c a b w1 (one_ssRd hbk (cells_keep h b1)) ha hb hsh
  obtain ⟨A1, c1, rfl, _, _⟩ := h
  obtain ⟨n, hn⟩ : ∃ n, n = s.length := ⟨_, rfl⟩
  rw [← hn] at HS HT hl ⊢
  have HN := Lib.hid hn
  obtain ⟨PO, hPO⟩ : ∃ O, O = planO s := ⟨_, rfl⟩
  rw [← hPO]
  have HPO := Lib.hid hPO
  have HN0 : Hid (NoneT s 1 1) := Lib.hid (NoneT.start s)
  clear hn hsh hPO
  go_enter Tryz.func23, Tryz.ntmps23
  go_wp2
  go_loopw [5] (fun av wx => ∃ ar : Nat, 1 ≤ ar ∧ ar ≤ 26 ∧ av = .int .i64 ar ∧ Hid (NoneT s ar 1) ∧ Below w.heap.size w wx) (fun av _ => 26 - (intOf av).toNat)
  case atStart => exact ⟨1, Nat.le_refl _, by omega, rfl, HN0, Below.refl _ _⟩
  case round =>
    clear HN0
    obtain ⟨ar, hr1, hr26, rfl, HNT, hbl⟩ := hrel
    by_cases hlt : ar ≤ 25
    · have hlti : (ar : Int) ≤ 25 := by omega
      have HC1 := Lib.hid (HS.out _ hbl)
      go_wp2_with fail
      refine (HC1.out).mono ?_
      rintro e w1 ⟨rfl, b1⟩
      have hbl1 := hbl.trans (b1.mono hbl.size)
      clear hbl b1 HC1
      go_wp2
      go_loopw [6] (fun av wx => ∃ a : Nat, 1 ≤ a ∧ a ≤ 6 ∧ av = .int .i64 a ∧ Hid (NoneT s ar a) ∧ Below w.heap.size w wx) (fun av _ => 6 - (intOf av).toNat)
      case atStart => exact ⟨1, Nat.le_refl _, by omega, rfl, HNT, hbl1⟩
      case round =>
        clear hbl1 HNT
        obtain ⟨a, ha1, ha6, rfl, HNT, hbl⟩ := hrel
        by_cases hla : a ≤ 5
        · have hlai : (a : Int) ≤ 5 := by omega
          have hrem : Int.tmod (ar : Int) (a : Int) = ((ar % a : Nat) : Int) := Int.ofNat_tmod ar a
          have hquo : Int.tdiv (ar : Int) (a : Int) = ((ar / a : Nat) : Int) := Int.ofNat_tdiv ar a
          have hre2 : Int.tmod (ar : Int) (n : Int) = ((ar % n : Nat) : Int) := Int.ofNat_tmod ar n
          have ha0 : ¬ (a : Int) = 0 := by omega
          have hn0 : ¬ (n : Int) = 0 := by omega
          obtain ⟨t1, ht1⟩ : ∃ t, t = ar % a := ⟨_, rfl⟩
          obtain ⟨b, hb⟩ : ∃ t, t = ar / a := ⟨_, rfl⟩
          obtain ⟨t2, ht2⟩ : ∃ t, t = ar % n := ⟨_, rfl⟩
          have hdm := Nat.div_add_mod ar a
          rw [← ht1, ← hb] at hdm
          rw [← ht1] at hrem
          rw [← hb] at hquo
          rw [← ht2] at hre2
          have hb25 : b ≤ 25 := by rw [hb]; exact Nat.le_trans (Nat.div_le_self _ _) hlt
          have hquw : IntKind.i64.wrap (Int.tdiv (ar : Int) (a : Int)) = (b : Int) := by rw [hquo]; exact IntWalk.i64_in _ (by omega)
          have HT1 := Lib.hid ht1
          have HBB := Lib.hid hb
          have HT2 := Lib.hid ht2
          have HDM := Lib.hid hdm
          clear ht1 hb ht2 hdm
          by_cases h1 : t1 = 0
          · subst h1
            have hab : Hid (a * b = ar) := Lib.hid (by have := HDM.out; omega)
            by_cases h5 : b ≤ 5
            · have h5i : ¬ (5 : Int) < (b : Int) := by omega
              by_cases h2 : t2 = 0
              · subst h2
                have hb1 : 1 ≤ b := by
                  rcases Nat.eq_zero_or_pos b with h0 | h0
                  · have := hab.out; rw [h0, Nat.mul_zero] at this; omega
                  · exact h0
                have hfe : Hid (planF s (a, b) = fndT s (a, b)) := Lib.hid (by rw [planF, ← HN.out, show (a, b).1 * (a, b).2 = ar from hab.out, ← HT2.out]; rfl)
                have HSP := (Sep.start w).step hbl
                have H3 := HSP.box 25 #[.slice A1 n c1]
                have HC2 := Lib.hid (HT.out _ _ a b H3.below ⟨ha1, hla⟩ ⟨hb1, h5⟩ H3.h0)
                obtain ⟨fb, hfb⟩ : ∃ x, x = fndT s (a, b) := ⟨_, rfl⟩
                rw [← hfb] at HC2 hfe
                clear hfb HSP hbl
                go_wp2_with fail
                refine (HC2.out).mono ?_
                rintro e w2 ⟨v9, rfl, b2⟩
                have hbl := (H3.step b2).below
                clear H3 b2 HC2
                cases fb
                · have HSB : Hid (∀ b', 1 ≤ b' → b' ≤ 5 → a * b' = ar → planF s (a, b') = false) := Lib.hid fun b' _ _ h7 => by
                    have : b' = b := Nat.eq_of_mul_eq_mul_left (show 0 < a by omega) (h7.trans hab.out.symm)
                    rw [this]; exact hfe.out
                  have HNT2 : Hid (NoneT s ar (a + 1)) := Lib.hid (HNT.out.skip (fun b' h1 h5 hab => HSB.out b' h1 h5 hab))
                  go_wp2
                  go_roundw
                  case rel => exact ⟨a + 1, by omega, by omega, by go_num, HNT2, hbl⟩
                  case measure => simp [intOf]; omega
                · have HF : Hid (PO = some (a, b)) := Lib.hid (by rw [HPO.out]; exact HNT.out.found ⟨ha1, hla⟩ ⟨hb1, h5⟩ hab.out hfe.out)
                  clear hrem hre2
                  go_wp2_with fail
                  go_quiet (fail)
                  have hbl2 := below_drewN hbl nq
                  go_wp2
                  refine bodyPost_ret (results_tmp3 rfl _ _ _) rfl ?_
                  rw [HF.out]
                  exact ⟨rfl, hbl2⟩
              · have h2i : ¬ (t2 : Int) = 0 := by omega
                have HSB : Hid (∀ b', 1 ≤ b' → b' ≤ 5 → a * b' = ar → planF s (a, b') = false) := Lib.hid fun b' _ _ h7 => by
                  rw [planF, ← HN.out, show (a, b').1 * (a, b').2 = ar from h7, ← HT2.out]
                  simp [h2]
                have HNT2 : Hid (NoneT s ar (a + 1)) := Lib.hid (HNT.out.skip (fun b' h1 h5 hab => HSB.out b' h1 h5 hab))
                go_wp2
                go_roundw
                case rel => exact ⟨a + 1, by omega, by omega, by go_num, HNT2, hbl⟩
                case measure => simp [intOf]; omega
            · have h5i : (5 : Int) < (b : Int) := by omega
              have HSB : Hid (∀ b', 1 ≤ b' → b' ≤ 5 → a * b' = ar → planF s (a, b') = false) := Lib.hid fun b' _ h6 h7 => by
                have : b' = b := Nat.eq_of_mul_eq_mul_left (show 0 < a by omega) (h7.trans hab.out.symm)
                omega
              have HNT2 : Hid (NoneT s ar (a + 1)) := Lib.hid (HNT.out.skip (fun b' h1 h5 hab => HSB.out b' h1 h5 hab))
              go_wp2
              go_roundw
              case rel => exact ⟨a + 1, by omega, by omega, by go_num, HNT2, hbl⟩
              case measure => simp [intOf]; omega
          · have h1i : ¬ (t1 : Int) = 0 := by omega
            have HSB : Hid (∀ b', 1 ≤ b' → b' ≤ 5 → a * b' = ar → planF s (a, b') = false) := Lib.hid fun b' _ _ h7 => by
              have h8 := HT1.out
              rw [← h7, Nat.mul_mod_right] at h8
              exact absurd h8 h1
            have HNT2 : Hid (NoneT s ar (a + 1)) := Lib.hid (HNT.out.skip (fun b' h1 h5 hab => HSB.out b' h1 h5 hab))
            go_wp2
            go_roundw
            case rel => exact ⟨a + 1, by omega, by omega, by go_num, HNT2, hbl⟩
            case measure => simp [intOf]; omega
        · obtain rfl : a = 6 := by omega
          have HNT2 : Hid (NoneT s (ar + 1) 1) := Lib.hid HNT.out.row
          go_wp2
          go_roundw
          case rel => exact ⟨ar + 1, by omega, by omega, by go_num, HNT2, hbl⟩
          case measure => simp [intOf]; omega
    · obtain rfl : ar = 26 := by omega
      have HF : Hid (PO = none) := Lib.hid (by rw [HPO.out]; exact HNT.out.end_)
      go_wp2
      refine bodyPost_ret (results_tmp3 rfl _ _ _) rfl ?_
      rw [HF.out]
      exact ⟨rfl, hbl⟩
end Go.Proofs.YtjkppigjajknaaaGreatDoor

namespace Go.Proofs.YtjkppigjajknaaaGreatDoor
open Go.RowKit

def BestI (L : List (Nat × Nat)) (i : Nat) (bi : Int) : Prop := (i = 0 ∧ bi = -1) ∨ ∃ (j : Nat) (q : Nat × Nat), bi = (j : Int) ∧ j < i ∧ L[j]? = some q ∧ leastP (L.take i) = some q
set_option maxRecDepth 100000 in
set_option maxHeartbeats 6400000 in
theorem spec_srect_c {v : Value} {s : List Cell} (w : World) (h : CellsRd w 0 w.heap.size v s) (hl : s.length ≤ 1048576) :
    Calls Tryz.prog 20 #[v] w fun e w' => e = .returned (.tuple #[.int .i64 (p1 (rectO s) : Nat), .int .i64 (p2 (rectO s) : Nat), .bool (rectO s).isSome]) ∧ Below w.heap.size w w' := by
  have HC := Lib.hid (spec_rects_c w h hl)
  obtain ⟨A1, c1, rfl, _, _⟩ := h
  obtain ⟨PO, hPO⟩ : ∃ O, O = rectO s := ⟨_, rfl⟩
  rw [← hPO]
  obtain ⟨L, hL⟩ : ∃ L, L = rectsT s := ⟨_, rfl⟩
  have HPO : Hid (PO = leastP L) := Lib.hid (by rw [hPO, hL]; rfl)
  have HBD : Hid (∀ p ∈ L, 1 ≤ p.1 ∧ p.1 ≤ 5 ∧ 1 ≤ p.2 ∧ p.2 ≤ 5) := Lib.hid (by rw [hL]; exact rectsT_le)
  have hL25 : L.length ≤ 25 := by rw [hL]; exact rectsT_len s
  rw [← hL] at HC
  clear hPO hL
  go_enter Tryz.func20, Tryz.ntmps20
  go_wp2_with fail
  refine (HC.out).mono ?_
  rintro e w1 ⟨u, vs, rfl, H⟩
  have hss := H.ssRd (by rw [rowsP_len])
  have hb := H.below
  obtain ⟨A, c, rfl⟩ : ∃ A c, u = .slice A L.length c := by
    obtain ⟨vs, ⟨A, c, e, _, _⟩, _⟩ := hss
    exact ⟨A, c, by rw [e, rowsP_len]⟩
  have HAT : Hid (∀ (i : Nat) (p : Nat × Nat), L[i]? = some p → ∃ b off g o c', A = some ⟨b, off, none⟩ ∧ b < w1.heap.size ∧ w1.cell? ⟨b, off + i, none⟩ = some (.slice (some ⟨g, o, none⟩) 2 c') ∧ g < w1.heap.size ∧ w1.cell? ⟨g, o, none⟩ = some (.int .i64 p.1) ∧ w1.cell? ⟨g, o + 1, none⟩ = some (.int .i64 p.2)) := Lib.hid fun i p hp => by
    obtain ⟨b, off, g, o, c', h1, h2, h3, h4, h5⟩ := hss.at (rowsP_at hp) (by show 0 < 2; decide)
    exact ⟨b, off, g, o, c', h1, h2, h3, h4, h5 0 _ rfl, h5 1 _ rfl⟩
  obtain ⟨n, hn⟩ : ∃ n, n = L.length := ⟨_, rfl⟩
  rw [← hn] at hL25 ⊢
  have HN := Lib.hid hn
  clear H HC hss hn
  go_wp2
  go_loopw [6, 7] (fun bv iv wx => ∃ (i : Nat) (bi : Int), i ≤ n ∧ iv = .int .i64 i ∧ bv = .int .i64 bi ∧ Hid (BestI L i bi) ∧ Below w1.heap.size w1 wx) (fun _ iv _ => n - (intOf iv).toNat)
  case atStart => exact ⟨0, -1, Nat.zero_le _, rfl, rfl, Lib.hid (.inl ⟨rfl, rfl⟩), Below.refl _ _⟩
  case round =>
    obtain ⟨i, bi, hi, rfl, rfl, HB, hbel⟩ := hrel
    by_cases hlt : i < n
    · have hlti : (i : Int) < (n : Int) := by omega
      obtain ⟨p, hp⟩ : ∃ p, L[i]? = some p := ⟨L[i]'(by rw [← HN.out]; exact hlt), List.getElem?_eq_getElem _⟩
      have HP := Lib.hid hp
      rcases HB.out with ⟨h0, hbi⟩ | ⟨j, q, hbi, hji, hq, hle⟩
      · subst hbi
        have HB2 : Hid (BestI L (i + 1) (i : Int)) := Lib.hid (.inr ⟨i, p, rfl, by omega, HP.out, by rw [leastP_take HP.out, h0]; rfl⟩)
        clear h0 hp
        go_wp2_with fail
        go_quiet (fail)
        have hbel2 := below_drewN hbel nq
        go_wp2
        go_roundw
        case rel => exact ⟨i + 1, (i : Int), by omega, by go_num, rfl, HB2, hbel2⟩
        case measure => simp [intOf]; omega
      · subst hbi
        obtain ⟨b, off, g, o, c', rfl, hb1, x1, hg, x2, x3⟩ := HAT.out i p hp
        obtain ⟨b', off', g', o', c'', he, _, y1, hg', y2, y3⟩ := HAT.out j q hq
        injection he with he
        injection he with he1 he2
        subst he1 he2
        obtain ⟨hp1, hp5, hq1, hq5⟩ := HBD.out p (List.mem_of_getElem? hp)
        obtain ⟨hr1, hr5, ht1, ht5⟩ := HBD.out q (List.mem_of_getElem? hq)
        replace x1 := (hbel.cell (p := ⟨b, off + i, none⟩) hb1).trans x1
        replace x2 := (hbel.cell (p := ⟨g, o, none⟩) hg).trans x2
        replace x3 := (hbel.cell (p := ⟨g, o + 1, none⟩) hg).trans x3
        replace y1 := (hbel.cell (p := ⟨b, off + j, none⟩) hb1).trans y1
        replace y2 := (hbel.cell (p := ⟨g', o', none⟩) hg').trans y2
        replace y3 := (hbel.cell (p := ⟨g', o' + 1, none⟩) hg').trans y3
        have HLE := Lib.hid hle
        have HQ := Lib.hid hq
        obtain ⟨pa, pb⟩ := p
        obtain ⟨qa, qb⟩ := q
        simp only at hp1 hp5 hq1 hq5 hr1 hr5 ht1 ht5 x2 x3 y2 y3
        obtain ⟨pr, hpr⟩ : ∃ k, k = pa * pb := ⟨_, rfl⟩
        obtain ⟨qr, hqr⟩ : ∃ k, k = qa * qb := ⟨_, rfl⟩
        have hw1 := mul55 hp5 hq5
        have hw2 := mul55 hr5 ht5
        rw [← hpr] at hw1
        rw [← hqr] at hw2
        have HPR := Lib.hid hpr
        have HQR := Lib.hid hqr
        have hjn : (j : Int) < (n : Int) := by omega
        have hj0 : ¬ (j : Int) < 0 := by omega
        clear hpr hqr hp hq hle
        by_cases hless : pr < qr
        · have hlessi : (pr : Int) < (qr : Int) := by omega
          have HB2 : Hid (BestI L (i + 1) (i : Int)) := Lib.hid (.inr ⟨i, (pa, pb), rfl, by omega, HP.out, by rw [leastP_take HP.out, HLE.out, lessP, if_pos (by show pa * pb < qa * qb; rw [← HPR.out, ← HQR.out]; exact hless)]⟩)
          go_wp2_with fail
          go_quiet (fail)
          have hbel2 := below_drewN hbel nq
          clear x1 x2 x3 y1 y2 y3 hw1 hw2
          go_wp2
          go_roundw
          case rel => exact ⟨i + 1, (i : Int), by omega, by go_num, rfl, HB2, hbel2⟩
          case measure => simp [intOf]; omega
        · have hlessi : ¬ (pr : Int) < (qr : Int) := by omega
          have HB2 : Hid (BestI L (i + 1) (j : Int)) := Lib.hid (.inr ⟨j, (qa, qb), rfl, by omega, HQ.out, by rw [leastP_take HP.out, HLE.out, lessP, if_neg (by show ¬ pa * pb < qa * qb; rw [← HPR.out, ← HQR.out]; exact hless)]⟩)
          go_wp2_with fail
          go_quiet (fail)
          have hbel2 := below_drewN hbel nq
          clear x1 x2 x3 y1 y2 y3 hw1 hw2
          go_wp2
          go_roundw
          case rel => exact ⟨i + 1, (j : Int), by omega, by go_num, rfl, HB2, hbel2⟩
          case measure => simp [intOf]; omega
    · obtain rfl : i = n := by omega
      have hbe := hb.trans (hbel.mono hb.size)
      rcases HB.out with ⟨h0, hbi⟩ | ⟨j, q, hbi, hji, hq, hle⟩
      · subst hbi
        have HF : Hid (PO = none) := Lib.hid (by
          rw [HPO.out, List.length_eq_zero_iff.1 (HN.out.symm.trans h0)]; rfl)
        clear h0
        go_wp2
        refine bodyPost_ret (results_tmp3 rfl _ _ _) rfl ?_
        rw [HF.out]
        exact ⟨rfl, hbe⟩
      · subst hbi
        have HF : Hid (PO = some q) := Lib.hid (by
          rw [HPO.out]
          rwa [List.take_of_length_le (by rw [HN.out]; exact Nat.le_refl _)] at hle)
        obtain ⟨b', off', g', o', c'', rfl, hb1, y1, hg', y2, y3⟩ := HAT.out j q hq
        replace y1 := (hbel.cell (p := ⟨b', off' + j, none⟩) hb1).trans y1
        replace y2 := (hbel.cell (p := ⟨g', o', none⟩) hg').trans y2
        replace y3 := (hbel.cell (p := ⟨g', o' + 1, none⟩) hg').trans y3
        have hjn : (j : Int) < (i : Int) := by omega
        have hj0 : ¬ (j : Int) < 0 := by omega
        obtain ⟨qa, qb⟩ := q
        simp only at y2 y3
        clear hle hq
        go_wp2_with fail
        go_quiet (fail)
        have hbe2 := below_drewN hbe nq
        go_wp2
        refine bodyPost_ret (results_tmp3 rfl _ _ _) rfl ?_
        rw [HF.out]
        exact ⟨rfl, hbe2⟩
/-- the order of a shape -/
def ordZ (s : List Cell) : Int := match rectO s with
  | some p => ((p.1 * p.2 / s.length : Nat) : Int)
  | none => -1
theorem rectO_le {s : List Cell} {p : Nat × Nat} (h : rectO s = some p) : 1 ≤ p.1 ∧ p.1 ≤ 5 ∧ 1 ≤ p.2 ∧ p.2 ≤ 5 := rectsT_le p (leastP_mem h)
set_option maxRecDepth 100000 in
theorem impl_rord_c {v : Value} {s : List Cell} (w : World) (h : CellsRd w 0 w.heap.size v s) (hsh : isShape s = true) (ht : Tab64 w) :
    Calls Tryz.prog 32 #[v] w fun e w' => e = .returned (.int .i64 (ordZ s)) ∧ Below w.heap.size w w' := by
  have hl := shp_len hsh
  have HC := Lib.hid (impl_srect_c w h (by omega) ht)
  obtain ⟨A1, c1, rfl, _, _⟩ := h
  obtain ⟨n, hn⟩ : ∃ n, n = s.length := ⟨_, rfl⟩
  obtain ⟨R, hR⟩ : ∃ R, R = ordZ s := ⟨_, rfl⟩
  rw [← hR, ← hn]
  rw [← hn] at hl HC
  cases ho : rectO s with
  | none =>
    have HR : Hid (R = -1) := Lib.hid (by rw [hR, ordZ, ho])
    rw [ho] at HC
    clear hR hn ho hsh
    go_enter Tryz.func32, Tryz.ntmps32
    go_wp2_with fail
    refine (HC.out).mono ?_
    rintro e w1 ⟨rfl, b1⟩
    simp only [Option.isSome_none]
    go_wp2
    go_ret
    exact ⟨congrArg (fun k : Int => Ending.returned (.int .i64 k)) HR.out.symm, b1⟩
  | some p =>
    have hp := rectO_le ho
    obtain ⟨pa, pb⟩ := p
    have HR : Hid (R = ((pa * pb / n : Nat) : Int)) := Lib.hid (by rw [hR, ordZ, ho, hn])
    rw [ho] at HC
    simp only at hp
    obtain ⟨hp1, hp5, hq1, hq5⟩ := hp
    have hw1 := mul55 hp5 hq5
    have hpr25 : pa * pb ≤ 5 * 5 := Nat.mul_le_mul hp5 hq5
    obtain ⟨pr, hpr⟩ : ∃ k, k = pa * pb := ⟨_, rfl⟩
    rw [← hpr] at hw1 hpr25 HR
    have hq := Int.ofNat_tdiv pr n
    obtain ⟨o, ho2⟩ : ∃ o, o = pr / n := ⟨_, rfl⟩
    have ho25 : o ≤ 25 := by rw [ho2]; exact Nat.le_trans (Nat.div_le_self _ _) hpr25
    rw [← ho2] at HR hq
    have hqw : IntKind.i64.wrap (Int.tdiv (pr : Int) (n : Int)) = (o : Int) := by rw [← hq]; exact IntWalk.i64_in _ (by omega)
    have hqd : Int.tdiv (pr : Int) (n : Int) = (o : Int) := hq.symm
    have hn0 : ¬ (n : Int) = 0 := by omega
    have q1 : p1 (some (pa, pb)) = pa := rfl
    have q2 : p2 (some (pa, pb)) = pb := rfl
    rw [q1, q2] at HC
    clear hR hn ho hsh hpr ho2 hq q1 q2
    go_enter Tryz.func32, Tryz.ntmps32
    go_wp2_with fail
    refine (HC.out).mono ?_
    rintro e w1 ⟨rfl, b1⟩
    simp only [Option.isSome_some]
    go_wp2
    go_ret
    exact ⟨congrArg (fun k : Int => Ending.returned (.int .i64 k)) HR.out.symm, b1⟩
set_option maxRecDepth 100000 in
theorem spec_rord_c {v : Value} {s : List Cell} (w : World) (h : CellsRd w 0 w.heap.size v s) (hsh : isShape s = true)  :
    Calls Tryz.prog 22 #[v] w fun e w' => e = .returned (.int .i64 (ordZ s)) ∧ Below w.heap.size w w' := by
  have hl := shp_len hsh
  have HC := Lib.hid (spec_srect_c w h (by omega) )
  obtain ⟨A1, c1, rfl, _, _⟩ := h
  obtain ⟨n, hn⟩ : ∃ n, n = s.length := ⟨_, rfl⟩
  obtain ⟨R, hR⟩ : ∃ R, R = ordZ s := ⟨_, rfl⟩
  rw [← hR, ← hn]
  rw [← hn] at hl HC
  cases ho : rectO s with
  | none =>
    have HR : Hid (R = -1) := Lib.hid (by rw [hR, ordZ, ho])
    rw [ho] at HC
    clear hR hn ho hsh
    go_enter Tryz.func22, Tryz.ntmps22
    go_wp2_with fail
    refine (HC.out).mono ?_
    rintro e w1 ⟨rfl, b1⟩
    simp only [Option.isSome_none]
    go_wp2
    go_ret
    exact ⟨congrArg (fun k : Int => Ending.returned (.int .i64 k)) HR.out.symm, b1⟩
  | some p =>
    have hp := rectO_le ho
    obtain ⟨pa, pb⟩ := p
    have HR : Hid (R = ((pa * pb / n : Nat) : Int)) := Lib.hid (by rw [hR, ordZ, ho, hn])
    rw [ho] at HC
    simp only at hp
    obtain ⟨hp1, hp5, hq1, hq5⟩ := hp
    have hw1 := mul55 hp5 hq5
    have hpr25 : pa * pb ≤ 5 * 5 := Nat.mul_le_mul hp5 hq5
    obtain ⟨pr, hpr⟩ : ∃ k, k = pa * pb := ⟨_, rfl⟩
    rw [← hpr] at hw1 hpr25 HR
    have hq := Int.ofNat_tdiv pr n
    obtain ⟨o, ho2⟩ : ∃ o, o = pr / n := ⟨_, rfl⟩
    have ho25 : o ≤ 25 := by rw [ho2]; exact Nat.le_trans (Nat.div_le_self _ _) hpr25
    rw [← ho2] at HR hq
    have hqw : IntKind.i64.wrap (Int.tdiv (pr : Int) (n : Int)) = (o : Int) := by rw [← hq]; exact IntWalk.i64_in _ (by omega)
    have hqd : Int.tdiv (pr : Int) (n : Int) = (o : Int) := hq.symm
    have hn0 : ¬ (n : Int) = 0 := by omega
    have q1 : p1 (some (pa, pb)) = pa := rfl
    have q2 : p2 (some (pa, pb)) = pb := rfl
    rw [q1, q2] at HC
    clear hR hn ho hsh hpr ho2 hq q1 q2
    go_enter Tryz.func22, Tryz.ntmps22
    go_wp2_with fail
    refine (HC.out).mono ?_
    rintro e w1 ⟨rfl, b1⟩
    simp only [Option.isSome_some]
    go_wp2
    go_ret
    exact ⟨congrArg (fun k : Int => Ending.returned (.int .i64 k)) HR.out.symm, b1⟩
end Go.Proofs.YtjkppigjajknaaaGreatDoor
