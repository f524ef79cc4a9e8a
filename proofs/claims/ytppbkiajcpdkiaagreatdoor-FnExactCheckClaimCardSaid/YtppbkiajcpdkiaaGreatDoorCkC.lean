
/-
  IsPacking: plain, and both walks. A region that draws its order, whose first operations are quiet in a class of worlds and whose last ones come one after the other: one walk. No program in sight. Rows in reduced form modulo a small prime, plain. No program in sight. A matrix as a walk holds it: its entries' cells; two of its rows change places. The reference clears a row whose entry is 0 as well: nothing changes. The program's reduction of rows modulo a small prime. The reference's reduction of rows modulo a small prime: the inverse; the bits of a mask. IsPrime, both walks (the same as in FcX: import one of them only). The sum of the weights of a mask: the program's walk. The reference's test of weights, where it holds. FindWeights, plain: what both sides compute. IsWeightProof: plain, and both walks. IsWeightProof: both walks.
-/
import Derived.Test.YtppbkiajcpdkiaaGreatDoorCkA
import Derived.Test.YtppbkiajcpdkiaaGreatDoorSepX
import Derived.StillTail
import Derived.Test.YtppbkiajcpdkiaaGreatDoorRowX
import Derived.Test.YtppbkiajcpdkiaaGreatDoorCwWalks
import Derived.IntWalk
import Derived.Deep.DeepCutAuto
import Derived.Test.YtppbkiajcpdkiaaGreatDoorRegData
import Derived.Test.YtppbkiajcpdkiaaGreatDoorMskX
import Derived.Test.YtppbkiajcpdkiaaGreatDoorAllX
namespace Go.Proofs.YtppbkiajcpdkiaaGreatDoor
open Go.RowKit

/-- are the rest masks of placements, apart from what is used, and ascending? -/
def isAp (A : List Int) : Option Int → Nat → List Int → Bool
  | _, _, [] => true
  | p, u, n :: t => hasI A n && ((u &&& n.toNat == 0) && ((match p with
    | none => true
    | some q => decide (q < n)) && isAp A (some n) (u ||| n.toNat) t))
/-- is it a packing? -/
def pkgB (r : Reg) (ps : List (List Cell)) (t : List Int) : Bool := (r.valid && arePcs ps) && isAp (nl (allN r ps)) none 0 t
theorem isAp_end {A : List Int} {u : Nat} {p : Option Int} {t : List Int} {i : Nat} (h : i = t.length) : isAp A p u (t.drop i) = true := by
  rw [h, List.drop_length]; cases p <;> rfl
theorem isAp_none {A : List Int} {u : Nat} {n : Int} {t : List Int} : isAp A none u (n :: t) = (hasI A n && ((u &&& n.toNat == 0) && isAp A (some n) (u ||| n.toNat) t)) := by
  conv => lhs; unfold isAp
  simp
theorem isAp_some {A : List Int} {u : Nat} {q n : Int} {t : List Int} : isAp A (some q) u (n :: t) = (hasI A n && ((u &&& n.toNat == 0) && (decide (q < n) && isAp A (some n) (u ||| n.toNat) t))) := by
  conv => lhs; unfold isAp
theorem isAp_no {A : List Int} {u : Nat} {p : Option Int} {t : List Int} {i : Nat} {n : Int} (h : t[i]? = some n) (hb : hasI A n = false ∨ u &&& n.toNat ≠ 0 ∨ ∃ q, p = some q ∧ n ≤ q) : isAp A p u (t.drop i) = false := by
  rw [dropI h]
  rcases hb with hb | hb | ⟨q, rfl, hb⟩
  · cases p with
    | none => rw [isAp_none, hb]; rfl
    | some q => rw [isAp_some, hb]; rfl
  · have e : (u &&& n.toNat == 0) = false := by simpa using hb
    cases p with
    | none => rw [isAp_none, e]; simp
    | some q => rw [isAp_some, e]; simp
  · rw [isAp_some, show decide (q < n) = false by simp; omega]; simp
theorem isAp_yes {A : List Int} {u : Nat} {p : Option Int} {t : List Int} {i : Nat} {n : Int} (h : t[i]? = some n) (h1 : hasI A n = true) (h2 : u &&& n.toNat = 0) (h3 : ∀ q, p = some q → q < n) : isAp A p u (t.drop i) = isAp A (some n) (u ||| n.toNat) (t.drop (i + 1)) := by
  have e : (u &&& n.toNat == 0) = true := by simpa using h2
  rw [dropI h]
  cases p with
  | none => rw [isAp_none, h1, e]; simp
  | some q => rw [isAp_some, h1, e, decide_eq_true (h3 q rfl)]; simp
/-- the mask before number i -/
def prevN (t : List Int) (i : Nat) : Option Int := if i = 0 then none else some (t.getD (i - 1) 0)
theorem prevN_zero {t : List Int} : prevN t 0 = none := rfl
theorem prevN_succ {t : List Int} {i : Nat} {n : Int} (h : t[i]? = some n) : prevN t (i + 1) = some n := by
  unfold prevN
  rw [if_neg (by omega), Nat.add_sub_cancel, List.getD_eq_getElem?_getD, h]; rfl
theorem allN_lenC {r : Reg} (hv : r.Valid) {ps : List (List Cell)} (hp : arePcs ps = true) : (allN r ps).length ≤ 1440 := by
  have h1 := allP_len hv (ps := ps)
  have h2 := (arePcs_on hp).2.2
  have h4 : (allN r ps).length = (allP r ps).length := by rw [← nl_allN hv]; simp [nl]
  have h3 : ps.length * 288 ≤ 5 * 288 := Nat.mul_le_mul_right _ (by omega)
  omega
set_option maxRecDepth 100000 in
set_option maxHeartbeats 3200000 in
theorem impl_isAp_c {v vt : Value} {A : List Nat} {t : List Int} (w : World) (h : IntsRd w 0 w.heap.size v (nl A)) (h2 : IntsRd w 0 w.heap.size vt t) (hA : ∀ m ∈ A, m < 2 ^ 36 ∧ 0 < m) (hl : A.length ≤ 1000000) :
    Calls Tryz.prog 145 #[v, vt] w fun e w' => e = .returned (.bool (isAp (nl A) none 0 t)) ∧ w = w' := by
  obtain ⟨R, hR⟩ : ∃ R, R = isAp (nl A) none 0 t := ⟨_, rfl⟩
  rw [← hR]
  have HR0 : Hid (R = isAp (nl A) (prevN t 0) 0 (t.drop 0)) := Lib.hid hR
  have HRD := Lib.hid h
  have HR2 := Lib.hid h2
  have HA := Lib.hid hA
  obtain ⟨Av, cv, rfl, _, _⟩ := id h
  obtain ⟨At, ct, rfl, hmt, _⟩ := id h2
  have hal : (nl A).length ≤ 1048576 := by simp [nl]; omega
  have HI : Hid (∀ x : Int, Calls Tryz.prog 112 #[.slice Av (nl A).length cv, .int .i64 x] w fun e w' => e = .returned (.bool (hasI (nl A) x)) ∧ w = w') := Lib.hid fun x => impl_hasI_c w h hal
  obtain ⟨n, hn⟩ : ∃ n, n = t.length := ⟨_, rfl⟩
  have hn63 : n ≤ 9223372036854775807 := by unfold maxLen at hmt; omega
  rw [← hn] at HR2 ⊢
  have HN := Lib.hid hn
  generalize (nl A).length = la at *
  clear hR h h2 hA hn hal hmt hl
  go_enter Tryz.func145, Tryz.ntmps145
  go_wp2
  go_loopw [5, 10] (fun uv iv wx => ∃ i u : Nat, i ≤ n ∧ iv = .int .i64 i ∧ uv = .int .i64 u ∧ u < 68719476736 ∧ Hid (R = isAp (nl A) (prevN t i) u (t.drop i)) ∧ w = wx) (fun _ iv _ => n - (intOf iv).toNat)
  case atStart => exact ⟨0, 0, Nat.zero_le _, rfl, rfl, by decide, HR0, rfl⟩
  case round =>
    obtain ⟨i, u, hin, rfl, rfl, hu36, HC, rfl⟩ := hrel
    by_cases hlt : i < n
    · have hlti : (i : Int) < (n : Int) := by omega
      obtain ⟨x, hx⟩ : ∃ x, t[i]? = some x := ⟨t[i]'(by rw [← HN.out]; exact hlt), List.getElem?_eq_getElem _⟩
      obtain ⟨b, off, hA1, hb, y0⟩ := ints_atZ HR2.out hx
      subst hA1
      have HX := Lib.hid hx
      have HIX := Lib.hid (HI.out x)
      cases hh : hasI (nl A) x
      · rw [hh] at HIX
        obtain rfl : R = false := by rw [HC.out]; exact isAp_no hx (.inl hh)
        clear hx hh
        go_wp2_with fail
        refine (HIX.out).mono ?_
        rintro e w1 ⟨rfl, rfl⟩
        go_wp2
        go_ret
        exact ⟨rfl, rfl⟩
      rw [hh] at HIX
      have HHH := Lib.hid hh
      obtain ⟨m, rfl, hmA⟩ := hasI_nl hh
      obtain ⟨hm36', hm0⟩ := HA.out m hmA
      have hm36 : m < 68719476736 := hm36'
      have hand := i64_and_nat u m (by omega) (by omega)
      obtain ⟨a, ha⟩ : ∃ a, a = u &&& m := ⟨_, rfl⟩
      rw [← ha] at hand
      have HAA := Lib.hid ha
      clear hx hh hmA ha hm36'
      by_cases hz : a = 0
      · subst hz
        have hz1 : (((0 : Nat) : Int) != 0) = false := rfl
        have hor := i64_or_nat u m (by omega) (by omega)
        obtain ⟨u2, hu2⟩ : ∃ u2, u2 = u ||| m := ⟨_, rfl⟩
        rw [← hu2] at hor
        have hu236 : u2 < 68719476736 := by rw [hu2]; exact Nat.or_lt_two_pow (n := 36) hu36 hm36
        have HYES : Hid ((∀ q, prevN t i = some q → q < (m : Int)) → R = isAp (nl A) (prevN t (i + 1)) u2 (t.drop (i + 1))) := Lib.hid (fun hq => by
          rw [HC.out, isAp_yes HX.out HHH.out (by rw [Int.toNat_natCast]; exact HAA.out.symm) hq, prevN_succ HX.out, hu2]
          rfl)
        clear hu2
        by_cases hi0 : i = 0
        · have hi0i : ¬ (0 : Int) < (i : Int) := by omega
          have hi0f : ((0 : Int) < (i : Int)) = False := eq_false hi0i
          have HC2 := Lib.hid (HYES.out (fun q hq => by rw [hi0, prevN_zero] at hq; cases hq))
          clear hi0
          go_wp2_with fail
          refine (HIX.out).mono ?_
          rintro e w1 ⟨rfl, rfl⟩
          go_wp2
          go_roundw
          case rel => exact ⟨i + 1, u2, by omega, by go_num, rfl, hu236, HC2, trivial⟩
          case measure => simp [intOf]; omega
        · obtain ⟨p, hp⟩ : ∃ p, i = p + 1 := ⟨i - 1, by omega⟩
          have hi0i : (0 : Int) < (i : Int) := by omega
          obtain ⟨y, hy⟩ : ∃ y, t[p]? = some y := ⟨t[p]'(by rw [← HN.out]; omega), List.getElem?_eq_getElem _⟩
          obtain ⟨b', off', hA2, hb', y1⟩ := ints_atZ HR2.out hy
          injection hA2 with hA2
          injection hA2 with hA21 hA22
          subst hA21
          subst hA22
          have e5 : (i : Int) - 1 = (p : Int) := by omega
          have e6 : IntKind.i64.wrap ((i : Int) - 1) = (p : Int) := by rw [e5]; exact IntWalk.i64_in _ (by omega)
          have e7 : (p : Int) < (n : Int) := by omega
          have e8 : p < n := by omega
          have HPL : Hid (prevN t i = some y) := Lib.hid (by rw [hp, prevN_succ hy])
          clear hp hy hb'
          by_cases hql : y < (m : Int)
          · have HC2 := Lib.hid (HYES.out (fun q' hq' => by rw [HPL.out] at hq'; injection hq' with hq'; omega))
            have c1 : ¬ (m : Int) ≤ y := by omega
            have c2 : decide ((m : Int) ≤ y) = false := decide_eq_false c1
            clear HYES
            go_wp2_with fail
            refine (HIX.out).mono ?_
            rintro e w1 ⟨rfl, rfl⟩
            go_wp2
            go_roundw
            case rel => exact ⟨i + 1, u2, by omega, by go_num, rfl, hu236, HC2, trivial⟩
            case measure => simp [intOf]; omega
          · have c1 : (m : Int) ≤ y := by omega
            have c2 : decide ((m : Int) ≤ y) = true := decide_eq_true c1
            obtain rfl : R = false := by rw [HC.out]; exact isAp_no HX.out (.inr (.inr ⟨y, HPL.out, c1⟩))
            clear HYES
            go_wp2_with fail
            refine (HIX.out).mono ?_
            rintro e w1 ⟨rfl, rfl⟩
            go_wp2
            go_ret
            exact ⟨rfl, rfl⟩
      · have hz1 : ((a : Int) != 0) = true := by simp; omega
        obtain rfl : R = false := by rw [HC.out]; exact isAp_no HX.out (.inr (.inl (by rw [Int.toNat_natCast, ← HAA.out]; exact hz)))
        go_wp2_with fail
        refine (HIX.out).mono ?_
        rintro e w1 ⟨rfl, rfl⟩
        go_wp2
        go_ret
        exact ⟨rfl, rfl⟩
    · obtain rfl : n = i := by omega
      obtain rfl : R = true := by rw [HC.out]; exact isAp_end HN.out
      clear HC HR0
      go_wp2
      go_ret
      exact ⟨rfl, rfl⟩
set_option maxRecDepth 100000 in
set_option maxHeartbeats 3200000 in
theorem impl_pkg_c {v v2 v3 : Value} {r : Reg} {ps : List (List Cell)} {t : List Int} (w : World) (h : RegRd w 0 w.heap.size v r) (h2 : CellSSRd w 0 w.heap.size v2 ps) (h3 : IntsRd w 0 w.heap.size v3 t) (hn : ps.length ≤ 1048576) (hl : ∀ s ∈ ps, s.length ≤ 1048576) :
    Calls Tryz.prog 83 #[v, v2, v3] w fun e w' => e = .returned (.bool (pkgB r ps t)) ∧ Below w.heap.size w w' := by
  have HRD : Hid (∀ w1, Below w.heap.size w w1 → RegRd w1 0 w1.heap.size v r) := Lib.hid fun w1 b1 => (h.keep (SameIn.of_below b1 (Nat.le_refl _))).more (Nat.le_refl _) b1.size
  have HR2 : Hid (∀ w1, Below w.heap.size w w1 → CellSSRd w1 0 w1.heap.size v2 ps) := Lib.hid fun w1 b1 => (h2.keep (SameIn.of_below b1 (Nat.le_refl _))).more (Nat.le_refl _) b1.size
  have HR3 : Hid (∀ w1, Below w.heap.size w w1 → IntsRd w1 0 w1.heap.size v3 t) := Lib.hid fun w1 b1 => (h3.keep (SameIn.of_below b1 (Nat.le_refl _))).more (Nat.le_refl _) b1.size
  obtain ⟨T, hT⟩ : ∃ T, T = pkgB r ps t := ⟨_, rfl⟩
  rw [← hT]
  have HT := Lib.hid hT
  obtain ⟨sr, rfl, hsr⟩ := h
  obtain ⟨A0, c, rfl, _, _⟩ := hsr
  obtain ⟨vs0, ⟨A2, c2, rfl, _, _⟩, _⟩ := h2
  obtain ⟨A3, c3, rfl, _, _⟩ := h3
  have H0 := (Sep.start w).box 29 #[.int .i64 r.w, .slice A0 r.rows.length c]
  obtain ⟨g, hg⟩ : ∃ g, g = w.heap.size := ⟨_, rfl⟩
  rw [← hg] at H0
  clear hT
  go_enter Tryz.func83, Tryz.ntmps83
  go_upto_region 1 with fail
  rw [← hg]
  generalize (w.alloc (.cells #[.int .i64 r.w, .slice A0 r.rows.length c] 29)) = W at *
  clear hg
  have c0 : W.cell? ⟨g, 0, none⟩ = some (.int .i64 r.w) := H0.h0.cell 0
  have c1 : W.cell? ⟨g, 1, none⟩ = some (.slice A0 r.rows.length c) := H0.h0.cell 1
  obtain ⟨K, hK⟩ : ∃ K, K = (r.valid && arePcs ps) := ⟨_, rfl⟩
  have HK := Lib.hid hK
  have HP := Lib.hid (impl_prob_c W (HRD.out W H0.below) (HR2.out W H0.below) hn hl)
  rw [← hK] at HP
  clear hK
  go_wp2_with fail
  refine (HP.out).mono ?_
  rintro e w1 ⟨rfl, b1⟩
  have H1 := H0.step b1
  clear c0 c1 H0 HP b1
  cases K
  · obtain rfl : T = false := by rw [HT.out, pkgB, ← HK.out]; rfl
    go_wp2
    go_ret
    exact ⟨rfl, H1.below⟩
  have hkk := HK.out.symm
  rw [Bool.and_eq_true] at hkk
  have HV := Lib.hid (Reg.valid_iff.1 hkk.1)
  have HAP := Lib.hid hkk.2
  have HALL := Lib.hid (impl_all_c w1 (HRD.out w1 H1.below) (HR2.out w1 H1.below) HV.out HAP.out)
  rw [← nl_allN HV.out] at HALL
  have c0 : w1.cell? ⟨g, 0, none⟩ = some (.int .i64 r.w) := H1.h0.cell 0
  have c1 : w1.cell? ⟨g, 1, none⟩ = some (.slice A0 r.rows.length c) := H1.h0.cell 1
  clear hkk
  go_wp2_with fail
  refine (HALL.out).mono ?_
  rintro e w2 ⟨va, rfl, oa, b2⟩
  have H2 := H1.step b2
  have ha : IntsRd w2 0 w2.heap.size va (nl (allN r ps)) := (IntsIn.rd oa).more (Nat.zero_le _) (Nat.le_refl _)
  have HCV := Lib.hid (impl_isAp_c w2 ha (HR3.out w2 H2.below) (fun m hm => ⟨allN_lt HV.out m hm, (allN_sub HV.out HAP.out m hm).2⟩) (by have := allN_lenC HV.out HAP.out; omega))
  have hT2 : isAp (nl (allN r ps)) none 0 t = T := by rw [HT.out, pkgB, ← HK.out, Bool.true_and]
  rw [hT2] at HCV
  obtain ⟨Aa, ca, rfl, _, _⟩ := id ha
  clear c0 c1 H1 HALL b2 oa ha hT2
  go_wp2_with fail
  refine (HCV.out).mono ?_
  rintro e w3 ⟨rfl, rfl⟩
  go_wp2
  go_ret
  exact ⟨rfl, H2.below⟩
set_option maxRecDepth 100000 in
set_option maxHeartbeats 3200000 in
theorem spec_pkg_c {v v2 v3 : Value} {r : Reg} {ps : List (List Cell)} {t : List Int} (w : World) (h : RegRd w 0 w.heap.size v r) (h2 : CellSSRd w 0 w.heap.size v2 ps) (h3 : IntsRd w 0 w.heap.size v3 t) (hn : ps.length ≤ 1048576) (hl : ∀ s ∈ ps, s.length ≤ 1048576) :
    Calls Tryz.prog 71 #[v, v2, v3] w fun e w' => e = .returned (.bool (pkgB r ps t)) ∧ Below w.heap.size w w' := by
  have HRD : Hid (∀ w1, Below w.heap.size w w1 → RegRd w1 0 w1.heap.size v r) := Lib.hid fun w1 b1 => (h.keep (SameIn.of_below b1 (Nat.le_refl _))).more (Nat.le_refl _) b1.size
  have HR2 : Hid (∀ w1, Below w.heap.size w w1 → CellSSRd w1 0 w1.heap.size v2 ps) := Lib.hid fun w1 b1 => (h2.keep (SameIn.of_below b1 (Nat.le_refl _))).more (Nat.le_refl _) b1.size
  have HR3 : Hid (∀ w1, Below w.heap.size w w1 → IntsRd w1 0 w1.heap.size v3 t) := Lib.hid fun w1 b1 => (h3.keep (SameIn.of_below b1 (Nat.le_refl _))).more (Nat.le_refl _) b1.size
  have HAPC : Hid (∀ w1, Below w.heap.size w w1 → Calls Tryz.prog 106 #[v2] w1 fun e w' => e = .returned (.bool (arePcs ps)) ∧ Below w1.heap.size w1 w') := Lib.hid fun w1 b1 => spec_arePcs_c w1 (HR2.out w1 b1) hn hl
  obtain ⟨T, hT⟩ : ∃ T, T = pkgB r ps t := ⟨_, rfl⟩
  obtain ⟨K1, hK1⟩ : ∃ K, K = r.valid := ⟨_, rfl⟩
  obtain ⟨K2, hK2⟩ : ∃ K, K = arePcs ps := ⟨_, rfl⟩
  rw [← hT]
  rw [← hK2] at HAPC
  have HT := Lib.hid hT
  have HK1 := Lib.hid hK1
  have HK2 := Lib.hid hK2
  obtain ⟨sr, rfl, hsr⟩ := h
  obtain ⟨A0, c, rfl, _, _⟩ := hsr
  obtain ⟨vs0, ⟨A2, c2, rfl, _, _⟩, _⟩ := h2
  obtain ⟨A3, c3, rfl, hm3, _⟩ := id h3
  have H0 := (Sep.start w).box 29 #[.int .i64 r.w, .slice A0 r.rows.length c]
  obtain ⟨g, hg⟩ : ∃ g, g = w.heap.size := ⟨_, rfl⟩
  rw [← hg] at H0
  obtain ⟨n, hnn⟩ : ∃ n, n = t.length := ⟨_, rfl⟩
  have hn63 : n ≤ 9223372036854775807 := by unfold maxLen at hm3; omega
  rw [← hnn] at HR3 ⊢
  have HN := Lib.hid hnn
  clear hT hK1 hK2 h3 hm3 hnn
  go_enter Tryz.func71, Tryz.ntmps71
  go_upto_region 1 with fail
  rw [← hg]
  generalize (w.alloc (.cells #[.int .i64 r.w, .slice A0 r.rows.length c] 29)) = W at *
  clear hg
  have c0 : W.cell? ⟨g, 0, none⟩ = some (.int .i64 r.w) := H0.h0.cell 0
  have c1 : W.cell? ⟨g, 1, none⟩ = some (.slice A0 r.rows.length c) := H0.h0.cell 1
  have HP := Lib.hid (spec_IsRegion_c W (HRD.out W H0.below))
  rw [← HK1.out] at HP
  go_wp2_with fail
  refine (HP.out).mono ?_
  rintro e w1 ⟨rfl, b1⟩
  have H1 := H0.step b1
  clear c0 c1 H0 HP b1
  cases K1
  · obtain rfl : T = false := by rw [HT.out, pkgB, ← HK1.out]; rfl
    go_wp2
    go_ret
    exact ⟨rfl, H1.below⟩
  have HP2 := Lib.hid (HAPC.out w1 H1.below)
  go_wp2_with fail
  refine (HP2.out).mono ?_
  rintro e w0 ⟨rfl, b2⟩
  replace H1 := H1.step b2
  clear HP2 b2 HAPC
  cases K2
  · obtain rfl : T = false := by rw [HT.out, pkgB, ← HK2.out, Bool.and_false]; rfl
    go_wp2
    go_ret
    exact ⟨rfl, H1.below⟩
  have HV := Lib.hid (Reg.valid_iff.1 HK1.out.symm)
  have HAP : Hid (arePcs ps = true) := Lib.hid HK2.out.symm
  have c0 : w0.cell? ⟨g, 0, none⟩ = some (.int .i64 r.w) := H1.h0.cell 0
  have c1 : w0.cell? ⟨g, 1, none⟩ = some (.slice A0 r.rows.length c) := H1.h0.cell 1
  have HALL := Lib.hid (spec_all_c w0 (HRD.out w0 H1.below) (HR2.out w0 H1.below) HV.out HAP.out)
  obtain ⟨A, hA⟩ : ∃ A, A = allN r ps := ⟨_, rfl⟩
  rw [← nl_allN HV.out, ← hA] at HALL
  have HAA : Hid (∀ m ∈ A, m < 2 ^ 36 ∧ 0 < m) := Lib.hid (fun m hm => by rw [hA] at hm; exact ⟨allN_lt HV.out m hm, (allN_sub HV.out HAP.out m hm).2⟩)
  have hal : (nl A).length ≤ 1048576 := by
    have h1 := allP_len HV.out (ps := ps)
    have h2 := (arePcs_on HAP.out).2.2
    have h3 : ps.length * 288 ≤ 5 * 288 := Nat.mul_le_mul_right _ (by omega)
    have h4 : (nl A).length = (allP r ps).length := by rw [hA, ← nl_allN HV.out]
    omega
  have HR0 : Hid (T = isAp (nl A) (prevN t 0) 0 (t.drop 0)) := Lib.hid (by rw [HT.out, pkgB, ← HK1.out, ← HK2.out, hA, Bool.true_and, Bool.true_and]; rfl)
  have HAL := Lib.hid hal
  clear hA hal
  go_wp2_with fail
  refine (HALL.out).mono ?_
  rintro e w2 ⟨va, rfl, oa, b3⟩
  have hrd : IntsRd w2 0 w2.heap.size va (nl A) := (IntsIn.rd oa).more (Nat.zero_le _) (Nat.le_refl _)
  have H2 := H1.step b3
  have HRA : Hid (∀ w3, Below w2.heap.size w2 w3 → IntsRd w3 0 w3.heap.size va (nl A)) := Lib.hid fun w3 b => (hrd.keep (SameIn.of_below b (Nat.le_refl _))).more (Nat.le_refl _) b.size
  obtain ⟨Av, cv, rfl, _, _⟩ := id hrd
  have HW : Hid (Below w.heap.size w w2) := Lib.hid H2.below
  have HTR : Hid (∀ w', Below w2.heap.size w2 w' → Below w.heap.size w w') := Lib.hid fun w' b => HW.out.trans (b.mono HW.out.size)
  have HO2 : Hid (Below w2.heap.size w2 w2) := Lib.hid (Below.refl _ _)
  have HIA : Hid (∀ (x : Int) (w' : World), Below w2.heap.size w2 w' → Calls Tryz.prog 129 #[.slice Av (nl A).length cv, .int .i64 x] w' fun e w'' => e = .returned (.bool (hasI (nl A) x)) ∧ w' = w'') := Lib.hid fun x w' b => spec_hasI_c w' (HRA.out w' b) HAL.out
  obtain ⟨la, hla⟩ : ∃ n, n = (nl A).length := ⟨_, rfl⟩
  rw [← hla] at HIA ⊢
  clear c0 c1 HALL oa b3 H1 hrd H2 hla HRA
  go_wp2
  go_loopw [8, 9] (fun uv iv wx => ∃ i u : Nat, i ≤ n ∧ iv = .int .i64 i ∧ uv = .int .i64 u ∧ u < 68719476736 ∧ Hid (T = isAp (nl A) (prevN t i) u (t.drop i)) ∧ Hid (Below w2.heap.size w2 wx)) (fun _ iv _ => n - (intOf iv).toNat)
  case atStart => exact ⟨0, 0, Nat.zero_le _, rfl, rfl, by decide, HR0, HO2⟩
  case round =>
    clear HO2
    obtain ⟨i, u, hin, rfl, rfl, hu36, HC, HO⟩ := hrel
    by_cases hlt : i < n
    · have hlti : (i : Int) < (n : Int) := by omega
      obtain ⟨x, hx⟩ : ∃ x, t[i]? = some x := ⟨t[i]'(by rw [← HN.out]; exact hlt), List.getElem?_eq_getElem _⟩
      obtain ⟨b, off, hA1, hb, y0⟩ := ints_atZ (HR3.out wr (HTR.out _ HO.out)) hx
      subst hA1
      have l0 := Later.cell y0 hb
      have HX := Lib.hid hx
      have HIL : Hid (∀ u : Later wr, Calls Tryz.prog 129 #[.slice Av la cv, .int .i64 x] u.w fun e w'' => e = .returned (.bool (hasI (nl A) x)) ∧ u.w = w'') := Lib.hid fun u => HIA.out x u.w (HO.out.trans (u.h.mono HO.out.size))
      cases hh : hasI (nl A) x
      · rw [hh] at HIL
        obtain rfl : T = false := by rw [HC.out]; exact isAp_no hx (.inl hh)
        clear hx hh y0
        go_wp2_with fail
        refine wp_region_later (by kernel_rfl) (by kernel_rfl) ?_
        repeat (go_big_quiet_step ((go_at_call 129; with_reducible exact Later.same (HIL.out _))))
        refine wpQuiet_nil ?_
        intro w5 hw5
        obtain ⟨u5, hu5⟩ := hw5
        subst hu5
        have HO5 : Hid (Below w2.heap.size w2 u5.w) := Lib.hid (HO.out.trans (u5.h.mono HO.out.size))
        clear l0 HIL
        generalize u5.w = w5 at *
        go_wp2
        go_ret
        exact ⟨rfl, HTR.out _ HO5.out⟩
      rw [hh] at HIL
      have HHH := Lib.hid hh
      obtain ⟨m, rfl, hmA⟩ := hasI_nl hh
      obtain ⟨hm36', hm0⟩ := HAA.out m hmA
      have hm36 : m < 68719476736 := hm36'
      have hand := i64_and_nat u m (by omega) (by omega)
      obtain ⟨a, ha⟩ : ∃ a, a = u &&& m := ⟨_, rfl⟩
      rw [← ha] at hand
      have HAND := Lib.hid ha
      clear hx hh hmA ha hm36' y0
      by_cases hz : a = 0
      · subst hz
        have hz1 : (((0 : Nat) : Int) != 0) = false := rfl
        have hor := i64_or_nat u m (by omega) (by omega)
        obtain ⟨u2, hu2⟩ : ∃ u2, u2 = u ||| m := ⟨_, rfl⟩
        rw [← hu2] at hor
        have hu236 : u2 < 68719476736 := by rw [hu2]; exact Nat.or_lt_two_pow (n := 36) hu36 hm36
        have HYES : Hid ((∀ q, prevN t i = some q → q < (m : Int)) → T = isAp (nl A) (prevN t (i + 1)) u2 (t.drop (i + 1))) := Lib.hid (fun hq => by
          rw [HC.out, isAp_yes HX.out HHH.out (by rw [Int.toNat_natCast]; exact HAND.out.symm) hq, prevN_succ HX.out, hu2]
          rfl)
        clear hu2
        by_cases hi0 : i = 0
        · have hi0i : ¬ (0 : Int) < (i : Int) := by omega
          have hi0n : ¬ 0 < i := by omega
          have hi0d : decide ((0 : Int) < (i : Int)) = false := decide_eq_false hi0i
          have HC2 := Lib.hid (HYES.out (fun q hq => by rw [hi0, prevN_zero] at hq; cases hq))
          clear hi0
          go_wp2_with fail
          refine wp_region_later (by kernel_rfl) (by kernel_rfl) ?_
          repeat (go_big_quiet_step ((go_at_call 129; with_reducible exact Later.same (HIL.out _))))
          refine wpQuiet_nil ?_
          intro w5 hw5
          obtain ⟨u5, hu5⟩ := hw5
          subst hu5
          have HO5 : Hid (Below w2.heap.size w2 u5.w) := Lib.hid (HO.out.trans (u5.h.mono HO.out.size))
          have y9 := l0 u5
          clear l0 HIL
          generalize u5.w = w5 at *
          go_wp2
          go_roundw
          case rel => exact ⟨i + 1, u2, by omega, by go_num, rfl, hu236, HC2, HO5⟩
          case measure => simp [intOf]; omega
        · obtain ⟨p, hp⟩ : ∃ p, i = p + 1 := ⟨i - 1, by omega⟩
          have hi0i : (0 : Int) < (i : Int) := by omega
          have hi0n : 0 < i := by omega
          have hi0d : decide ((0 : Int) < (i : Int)) = true := decide_eq_true hi0i
          obtain ⟨y, hy⟩ : ∃ y, t[p]? = some y := ⟨t[p]'(by rw [← HN.out]; omega), List.getElem?_eq_getElem _⟩
          obtain ⟨b', off', hA2, hb', y1⟩ := ints_atZ (HR3.out wr (HTR.out _ HO.out)) hy
          injection hA2 with hA2
          injection hA2 with hA21 hA22
          subst hA21
          subst hA22
          have l2 := Later.cell y1 hb'
          have e5 : (i : Int) - 1 = (p : Int) := by omega
          have e6 : IntKind.i64.wrap ((i : Int) - 1) = (p : Int) := by rw [e5]; exact IntWalk.i64_in _ (by omega)
          have e7 : (p : Int) < (n : Int) := by omega
          have e8 : p < n := by omega
          have e9 : (0 : Int) ≤ (p : Int) := by omega
          have HPL : Hid (prevN t i = some y) := Lib.hid (by rw [hp, prevN_succ hy])
          clear hp hy hb' y1 hi0
          by_cases hql : y < (m : Int)
          · have HC2 := Lib.hid (HYES.out (fun q' hq' => by rw [HPL.out] at hq'; injection hq' with hq'; omega))
            have c2 : ¬ (m : Int) ≤ y := by omega
            have c4 : decide ((m : Int) ≤ y) = false := decide_eq_false c2
            clear HYES
            go_wp2_with fail
            refine wp_region_later (by kernel_rfl) (by kernel_rfl) ?_
            repeat (go_big_quiet_step ((go_at_call 129; with_reducible exact Later.same (HIL.out _))))
            refine wpQuiet_nil ?_
            intro w5 hw5
            obtain ⟨u5, hu5⟩ := hw5
            subst hu5
            have HO5 : Hid (Below w2.heap.size w2 u5.w) := Lib.hid (HO.out.trans (u5.h.mono HO.out.size))
            clear l2 e5 e6
            have y9 := l0 u5
            clear l0 HIL
            generalize u5.w = w5 at *
            go_wp2
            go_roundw
            case rel => exact ⟨i + 1, u2, by omega, by go_num, rfl, hu236, HC2, HO5⟩
            case measure => simp [intOf]; omega
          · have c2 : (m : Int) ≤ y := by omega
            have c4 : decide ((m : Int) ≤ y) = true := decide_eq_true c2
            obtain rfl : T = false := by rw [HC.out]; exact isAp_no HX.out (.inr (.inr ⟨y, HPL.out, c2⟩))
            clear HYES
            go_wp2_with fail
            refine wp_region_later (by kernel_rfl) (by kernel_rfl) ?_
            repeat (go_big_quiet_step ((go_at_call 129; with_reducible exact Later.same (HIL.out _))))
            refine wpQuiet_nil ?_
            intro w5 hw5
            obtain ⟨u5, hu5⟩ := hw5
            subst hu5
            have HO5 : Hid (Below w2.heap.size w2 u5.w) := Lib.hid (HO.out.trans (u5.h.mono HO.out.size))
            clear l2 e5 e6
            clear l0 HIL
            generalize u5.w = w5 at *
            go_wp2
            go_ret
            exact ⟨rfl, HTR.out _ HO5.out⟩
      · have hz1 : ((a : Int) != 0) = true := by simp; omega
        obtain rfl : T = false := by rw [HC.out]; exact isAp_no HX.out (.inr (.inl (by rw [Int.toNat_natCast, ← HAND.out]; exact hz)))
        go_wp2_with fail
        refine wp_region_later (by kernel_rfl) (by kernel_rfl) ?_
        repeat (go_big_quiet_step ((go_at_call 129; with_reducible exact Later.same (HIL.out _))))
        refine wpQuiet_nil ?_
        intro w5 hw5
        obtain ⟨u5, hu5⟩ := hw5
        subst hu5
        have HO5 : Hid (Below w2.heap.size w2 u5.w) := Lib.hid (HO.out.trans (u5.h.mono HO.out.size))
        clear l0 HIL
        generalize u5.w = w5 at *
        go_wp2
        go_ret
        exact ⟨rfl, HTR.out _ HO5.out⟩
    · obtain rfl : n = i := by omega
      obtain rfl : T = true := by rw [HC.out]; exact isAp_end HN.out
      have HO5 := HO
      clear HC HR0 HO
      go_wp2
      go_ret
      exact ⟨rfl, HTR.out _ HO5.out⟩
end Go.Proofs.YtppbkiajcpdkiaaGreatDoor

namespace Go.Proofs.YtppbkiajcpdkiaaGreatDoor
open Go.RowKit

section
variable {P : Program} {ops : Array Oper} {md : Region.Mode} {C : World → Prop}
/-- the first n operations in whatever order, then L -/
def headQ (P : Program) (md : Region.Mode) (ops : Array Oper) (C : World → Prop) (n : Nat) (L : Array Bool → Act → Prop) : Nat → Array Bool → Act → Prop
  | 0, d, a => L d a
  | f + 1, d, a => Region.ready md ops d ≠ [] ∧ ∀ i ∈ Region.ready md ops d, i < n ∧ qOp P ops C i (headQ P md ops C n L f (d.setIfInBounds i true)) a
theorem any_of_headQ {n g : Nat} {L : Array Bool → Act → Prop} {Q' : Exit → Act → World → Prop} (hL : ∀ d a w, C w → L d a → wpAny P md ops Q' g d a w) : ∀ (f : Nat) (d : Array Bool) (a : Act) (w : World), C w → headQ P md ops C n L f d a → wpAny P md ops Q' (f + g) d a w
  | 0, d, a, w, hw, h => by rw [Nat.zero_add]; exact hL _ _ _ hw h
  | f + 1, d, a, w, hw, h => by
    rw [Nat.add_right_comm]
    exact ⟨fun h0 => absurd h0 h.1, fun i hi => wpOp_of_qOp hw (fun a' w' hw' h' => any_of_headQ hL f _ a' w' hw' h') (h.2 i hi).2⟩
theorem headQ_first {n i : Nat} {oi : Oper} {v : Value} {L : Array Bool → Act → Prop} (hi : ops[i]? = some oi) (hsel : ∀ (j : Nat) (o : Oper) cs b, ops[j]? = some o → o.op ≠ .select cs b)
    (hs : Region.sinkB md ops n = true) (hc : Region.chainB md ops n = true) (hn : n < ops.size) (hin : i < n) (hdone : ∀ d a, L d a → ∀ j ∈ Region.ready md ops d, n ≤ j) :
    ∀ (f : Nat) (d : Array Bool) (a : Act), HeadInv md ops n d →
      (∀ j oj, ops[j]? = some oj → j ≠ i → d.getD j true = false → (∀ e ∈ oj.after, Region.binds md e = true → e.on ≠ i) → oi.apart ops oj = true) →
      i ∈ Region.ready md ops d → YieldsIn P ops C oi v a → headQ P md ops C n L f (d.setIfInBounds i true) (a.put oi.dst v) → headQ P md ops C n L (f + 1) d a := by
  intro f
  induction f with
  | zero =>
    intro d a inv _ hr hy H
    refine ⟨fun h => (by rw [h] at hr; cases hr), fun j hj => ?_⟩
    have hjn : j < n := Nat.lt_of_not_le fun h => tail_waits hs hc hn inv _ i rfl hin (mem_ready.1 hr).1 j h hj
    refine ⟨hjn, ?_⟩
    by_cases hji : j = i
    · subst hji; exact hy.qOp hi H
    · have := hdone _ _ H j (ready_mono hj hji)
      omega
  | succ f ih =>
    intro d a inv hfree hr hy H
    refine ⟨fun h => (by rw [h] at hr; cases hr), fun j hj => ?_⟩
    have hjn : j < n := Nat.lt_of_not_le fun h => tail_waits hs hc hn inv _ i rfl hin (mem_ready.1 hr).1 j h hj
    refine ⟨hjn, ?_⟩
    by_cases hji : j = i
    · subst hji; exact hy.qOp hi H
    · obtain ⟨hjun, oj, hoj, hall⟩ := mem_ready.1 hj
      have hnot : ∀ e ∈ oj.after, Region.binds md e = true → e.on ≠ i := fun e he hb heq => by
        have h1 := hall e he hb
        rw [heq, getD_both (mem_ready.1 hr).1] at h1
        cases h1
      have h2 := qOp_put hoj (hfree j oj hoj hji hjun hnot) (fun cs b => hsel i oi cs b hi) (fun cs b => hsel j oj cs b hoj) hy (H.2 j (ready_mono hj hji)).2
      refine qOp_mono (fun a' h3 => ih (d.setIfInBounds j true) a' (inv.set hj hjn) (fun k ok hk hki hun hno => ?_) (ready_mono hr (Ne.symm hji)) h3.1 ?_) h2
      · refine hfree k ok hk hki ?_ hno
        by_cases hjk : j = k
        · subst hjk; exact hjun
        · rw [getD_set_ne true hjk] at hun; exact hun
      · rw [Array.setIfInBounds_comm _ _ hji]
        exact h3.2
theorem headQ_lex {n g : Nat} {Lq : Act → Prop} (hsel : Region.noSelect ops = true) (hs : Region.sinkB md ops n = true) (hc : Region.chainB md ops n = true) (hn : n < ops.size) :
    ∀ (l : List Oper) (k : Nat) (d : Array Bool) (a : Act), (∀ j, j < l.length → l[j]? = ops[k + j]?) → k + l.length = n → HeadInv md ops n d → Region.lexHead md ops g l.length k d = true → wpQuiet P ops C Lq l a →
    headQ P md ops C n (fun d' a' => Region.seqB md ops g n d' = true ∧ Lq a') l.length d a
  | [], k, d, a, _, hk, _, hB, h => by
    obtain rfl : k = n := by simpa using hk
    exact ⟨by simpa [Region.lexHead] using hB, h⟩
  | o :: l, k, d, a, hl, hk, inv, hB, h => by
    have h0 : ops[k]? = some o := by simpa using (hl 0 (by simp)).symm
    simp only [List.length_cons, Region.lexHead, Bool.and_eq_true] at hB
    have hkn : k < n := by simp only [List.length_cons] at hk; omega
    have hr' : k ∈ Region.ready md ops d := by simpa using hB.1.1
    have hst : qOp P ops C k (wpQuiet P ops C Lq l) a := by unfold qOp; simp only [h0]; exact h
    obtain ⟨v, hy, hK⟩ := yieldsIn_of_qOp h0 hst
    exact headQ_first h0 (Region.noSelect_spec hsel) hs hc hn hkn (fun d' a' hL => seqB_ready hL.1) l.length d a inv (Region.free_spec h0 hB.1.2) hr' hy
      (headQ_lex hsel hs hc hn l (k + 1) _ _ (fun j hj => by have := hl (j + 1) (by simp; omega); simpa [Nat.add_assoc, Nat.add_comm 1 j] using this) (by simp only [List.length_cons] at hk; omega) (inv.set hr' hkn) hB.2 hK)
/-- quiet in a class of worlds up to operation n, then one after the other -/
theorem wp_region_qtail {id : Nat} {Q : Exit → Act → World → Prop} {a : Act} {w : World} {l : List Oper} (n : Nat) (hm : P.follows .mixedOrders = true) (hB : Region.lexTailB .any l.toArray n = true) (hC : C w.drew)
    (h : wpQuiet P l.toArray C (fun a' => ∀ w', C w' → wpList P l.toArray Q (l.drop n) a' w') (l.take n) a) : (Code.region id l.toArray true).wp P Q a w := by
  simp only [Region.lexTailB, Bool.and_eq_true, decide_eq_true_eq] at hB
  obtain ⟨⟨⟨⟨hsel, hn⟩, hs⟩, hc⟩, hlex⟩ := hB
  have htl : (l.take n).length = n := by simp at hn ⊢; omega
  have hdl : (l.drop n).length = l.toArray.size - n := by simp
  have inv0 : HeadInv .any l.toArray n (Array.replicate l.toArray.size false) :=
    ⟨by simp, fun j oj _ hl => (by rw [getD_replicate_false] at hl; cases hl), fun t _ ht => getD_in (by simpa using ht) (getD_replicate_false _ _)⟩
  have H := headQ_lex (md := .any) (C := C) (g := l.toArray.size - n) hsel hs hc hn (l.take n) 0 _ a (fun j hj => by
    have hj' : j < n := by rw [htl] at hj; exact hj
    simp [hj']) (by simpa using htl) inv0 (by rw [htl]; exact hlex) h
  refine wp_region_any hm ?_
  have := any_of_headQ (Q' := Q) (g := l.toArray.size - n) (fun d a' w' hw' hL => by
    have := wpAny_of_seq (md := .any) (Q' := Q) (l.drop n) n d a' w' (fun j => by simp [List.getElem?_drop]) (by rw [hdl]; exact hL.1) (hL.2 w' hw')
    rwa [hdl] at this) _ _ _ w.drew hC H
  rw [htl, show n + (l.toArray.size - n) = l.toArray.size by omega] at this
  exact this
theorem wp_region_lqtail {W : World} {id : Nat} {Q : Exit → Act → World → Prop} {a : Act} {l : List Oper} (n : Nat) (hm : P.follows .mixedOrders = true) (hB : Region.lexTailB .any l.toArray n = true)
    (h : wpQuiet P l.toArray (fun w' => ∃ u : Later W, w' = u.w) (fun a' => ∀ w', (∃ u : Later W, w' = u.w) → wpList P l.toArray Q (l.drop n) a' w') (l.take n) a) : (Code.region id l.toArray true).wp P Q a W :=
  wp_region_qtail (C := fun w' => ∃ u : Later W, w' = u.w) n hm hB ⟨⟨_, below_drew (Below.refl _ _)⟩, rfl⟩ h
end
end Go.Proofs.YtppbkiajcpdkiaaGreatDoor

namespace Go.Proofs.YtppbkiajcpdkiaaGreatDoor
open Go.RowKit

/-- entry c of row i -/
def gel (M : List (List Int)) (i c : Nat) : Int := (M.getD i []).getD c 0
/-- the first row from t on whose entry c is not 0; their number if there is none -/
def fnd (M : List (List Int)) (c t : Nat) : Nat := t + (M.drop t).findIdx fun r => r.getD c 0 != 0
theorem fnd_is {M : List (List Int)} {c t k : Nat} (h1 : t ≤ k) (h2 : k ≤ M.length) (h3 : ∀ j, t ≤ j → j < k → gel M j c = 0) (h4 : k < M.length → gel M k c ≠ 0) : fnd M c t = k := by
  unfold fnd
  have h5 : (M.drop t).findIdx (fun r => r.getD c 0 != 0) = k - t := by
    rcases Nat.lt_or_ge k M.length with hk | hk
    · rw [List.findIdx_eq (by rw [List.length_drop]; omega)]
      refine ⟨?_, fun j hj => ?_⟩
      · rw [List.getElem_drop]
        have := h4 hk
        unfold gel at this
        rw [List.getD_eq_getElem?_getD (l := M), List.getElem?_eq_getElem hk] at this
        have e : t + (k - t) = k := by omega
        simp only [e, bne_iff_ne, ne_eq]
        exact this
      · rw [List.getElem_drop]
        have := h3 (t + j) (by omega) (by omega)
        unfold gel at this
        rw [List.getD_eq_getElem?_getD (l := M), List.getElem?_eq_getElem (by omega)] at this
        simpa using this
    · obtain rfl : k = M.length := by omega
      rw [List.findIdx_eq_length_of_false]
      · rw [List.length_drop]
      · intro r hr
        obtain ⟨j, hj, rfl⟩ := List.getElem_of_mem hr
        rw [List.length_drop] at hj
        rw [List.getElem_drop]
        have := h3 (t + j) (by omega) (by omega)
        unfold gel at this
        rw [List.getD_eq_getElem?_getD (l := M), List.getElem?_eq_getElem (by omega)] at this
        simpa using this
  omega
/-- the inverse of x -/
def invP (p x : Int) : Int := if p = 5 then (if x = 2 then 3 else if x = 3 then 2 else x) else x
theorem invP_is {p x : Int} (hp : p = 2 ∨ p = 3 ∨ p = 5) (h0 : 1 ≤ x) (h1 : x < p) : (1 ≤ invP p x ∧ invP p x < p) ∧ invP p x * x % p = 1 ∧ ∀ y, 1 ≤ y → y < invP p x → y * x % p ≠ 1 := by
  have hx : x = 1 ∨ x = 2 ∨ x = 3 ∨ x = 4 := by omega
  rcases hp with rfl | rfl | rfl <;> rcases hx with rfl | rfl | rfl | rfl <;> first | omega | (refine ⟨by decide, by decide, fun y hy1 hy2 => ?_⟩; simp [invP] at hy2; omega)
def scl (p y : Int) (r : List Int) : List Int := r.map fun x => x * y % p
/-- .. the first j entries -/
def sclTo (p y : Int) (r : List Int) : Nat → List Int
  | 0 => r
  | j + 1 => (sclTo p y r j).set j (r.getD j 0 * y % p)
theorem sclTo_len {p y : Int} {r : List Int} : ∀ j, (sclTo p y r j).length = r.length
  | 0 => rfl
  | j + 1 => by rw [sclTo, List.length_set]; exact sclTo_len j
theorem sclTo_at {p y : Int} {r : List Int} : ∀ (j i : Nat), (sclTo p y r j)[i]? = if i < j then (r[i]?).map (fun x => x * y % p) else r[i]?
  | 0, i => by simp [sclTo]
  | j + 1, i => by
    rw [sclTo]
    by_cases e : i = j
    · subst e
      by_cases hl : i < r.length
      · rw [List.getElem?_set_self (by rw [sclTo_len]; exact hl), if_pos (Nat.lt_succ_self _), List.getElem?_eq_getElem hl, Option.map_some]
        rw [List.getD_eq_getElem?_getD, List.getElem?_eq_getElem hl, Option.getD_some]
      · rw [List.getElem?_eq_none (by rw [List.length_set, sclTo_len]; omega), List.getElem?_eq_none (by omega)]; simp
    · rw [List.getElem?_set_ne (fun q => e q.symm), sclTo_at j i]
      by_cases h : i < j
      · rw [if_pos h, if_pos (by omega)]
      · rw [if_neg h, if_neg (by omega)]
theorem sclTo_end {p y : Int} {r : List Int} : sclTo p y r r.length = scl p y r := by
  apply List.ext_getElem?
  intro i
  rw [sclTo_at, scl, List.getElem?_map]
  by_cases h : i < r.length
  · rw [if_pos h]
  · rw [if_neg h, List.getElem?_eq_none (by omega)]; rfl
theorem sclTo_next {p y : Int} {r : List Int} {j : Nat} : (sclTo p y r j).getD j 0 = r.getD j 0 := by
  rw [List.getD_eq_getElem?_getD, sclTo_at, if_neg (Nat.lt_irrefl _), ← List.getD_eq_getElem?_getD]
def clr (p f : Int) (a b : List Int) : List Int := List.zipWith (fun x y => (x + (p - f) * y) % p) a b
/-- .. the first j entries -/
def clrTo (p f : Int) (a b : List Int) : Nat → List Int
  | 0 => a
  | j + 1 => (clrTo p f a b j).set j ((a.getD j 0 + (p - f) * b.getD j 0) % p)
theorem clrTo_len {p f : Int} {a b : List Int} : ∀ j, (clrTo p f a b j).length = a.length
  | 0 => rfl
  | j + 1 => by rw [clrTo, List.length_set]; exact clrTo_len j
theorem clrTo_at {p f : Int} {a b : List Int} : ∀ (j i : Nat), (clrTo p f a b j)[i]? = if i < j ∧ i < a.length then some ((a.getD i 0 + (p - f) * b.getD i 0) % p) else a[i]?
  | 0, i => by simp [clrTo]
  | j + 1, i => by
    rw [clrTo]
    by_cases e : i = j
    · subst e
      by_cases hl : i < a.length
      · rw [List.getElem?_set_self (by rw [clrTo_len]; exact hl), if_pos ⟨Nat.lt_succ_self _, hl⟩]
      · rw [List.getElem?_eq_none (by rw [List.length_set, clrTo_len]; omega), if_neg (fun h => hl h.2), List.getElem?_eq_none (by omega)]
    · rw [List.getElem?_set_ne (fun q => e q.symm), clrTo_at j i]
      by_cases h : i < j ∧ i < a.length
      · rw [if_pos h, if_pos ⟨by omega, h.2⟩]
      · rw [if_neg h, if_neg (fun h2 => h ⟨by omega, h2.2⟩)]
theorem clrTo_end {p f : Int} {a b : List Int} (hl : a.length = b.length) : clrTo p f a b a.length = clr p f a b := by
  apply List.ext_getElem?
  intro i
  rw [clrTo_at]
  by_cases h : i < a.length
  · rw [if_pos ⟨h, h⟩]
    unfold clr
    rw [List.getElem?_eq_getElem (by simp; omega), List.getElem_zipWith, List.getD_eq_getElem?_getD, List.getD_eq_getElem?_getD, List.getElem?_eq_getElem h, List.getElem?_eq_getElem (by omega)]
    rfl
  · rw [if_neg (fun h2 => h h2.2), List.getElem?_eq_none (by omega), List.getElem?_eq_none (by unfold clr; simp; omega)]
theorem clrTo_next {p f : Int} {a b : List Int} {j : Nat} : (clrTo p f a b j).getD j 0 = a.getD j 0 := by
  rw [List.getD_eq_getElem?_getD, clrTo_at, if_neg (fun h => Nat.lt_irrefl _ h.1), ← List.getD_eq_getElem?_getD]
/-- n columns, residues -/
structure Mok (p : Int) (n : Nat) (M : List (List Int)) : Prop where
  len : ∀ r ∈ M, r.length = n
  res : ∀ r ∈ M, ∀ x ∈ r, 0 ≤ x ∧ x < p
theorem scl_ok {p y : Int} (hp : 0 < p) {r : List Int} : (scl p y r).length = r.length ∧ ∀ x ∈ scl p y r, 0 ≤ x ∧ x < p := by
  refine ⟨by simp [scl], fun x hx => ?_⟩
  obtain ⟨a, _, rfl⟩ := List.mem_map.1 hx
  exact ⟨Int.emod_nonneg _ (by omega), Int.emod_lt_of_pos _ hp⟩
theorem clr_ok {p f : Int} (hp : 0 < p) {a b : List Int} (h : a.length = b.length) : (clr p f a b).length = a.length ∧ ∀ x ∈ clr p f a b, 0 ≤ x ∧ x < p := by
  refine ⟨by simp [clr, h], fun x hx => ?_⟩
  unfold clr at hx
  obtain ⟨i, hi, rfl⟩ := List.getElem_of_mem hx
  rw [List.getElem_zipWith]
  exact ⟨Int.emod_nonneg _ (by omega), Int.emod_lt_of_pos _ hp⟩
/-- the reference's way to clear an entry -/
theorem clr_two {p f a b : Int} (hp : p = 2 ∨ p = 3 ∨ p = 5) (hf : 0 ≤ f ∧ f < p) (ha : 0 ≤ a ∧ a < p) (hb : 0 ≤ b ∧ b < p) : ((a - f * b).tmod p + p).tmod p = (a + (p - f) * b) % p := by
  have h5 : ∀ q : Int, 0 ≤ q → q < 5 → q = 0 ∨ q = 1 ∨ q = 2 ∨ q = 3 ∨ q = 4 := fun q h1 h2 => by omega
  have hf' := h5 f hf.1 (by omega)
  have ha' := h5 a ha.1 (by omega)
  have hb' := h5 b hb.1 (by omega)
  rcases hp with rfl | rfl | rfl <;> rcases hf' with rfl | rfl | rfl | rfl | rfl <;> rcases ha' with rfl | rfl | rfl | rfl | rfl <;> rcases hb' with rfl | rfl | rfl | rfl | rfl <;> first | omega | decide
theorem clr_zero {p a b : Int} (ha : 0 ≤ a ∧ a < p) : (a + (p - 0) * b) % p = a := by
  rw [Int.sub_zero, Int.add_mul_emod_self_left]
  exact Int.emod_eq_of_lt ha.1 ha.2
def swp (M : List (List Int)) (t k : Nat) : List (List Int) := (M.set t (M.getD k [])).set k (M.getD t [])
theorem swp_len {M : List (List Int)} {t k : Nat} : (swp M t k).length = M.length := by simp [swp]
theorem getD_mem {M : List (List Int)} {k : Nat} (h : k < M.length) : M.getD k [] ∈ M := by
  rw [List.getD_eq_getElem?_getD, List.getElem?_eq_getElem h]
  exact List.getElem_mem h
theorem set_mem2 {M : List (List Int)} {k : Nat} {r x : List Int} (h : x ∈ M.set k r) : x = r ∨ x ∈ M := by
  rcases List.mem_or_eq_of_mem_set h with h | h
  · exact .inr h
  · exact .inl h
theorem gel_set {M : List (List Int)} {i t c : Nat} {r : List Int} (h : t < M.length) : gel (M.set t r) i c = if i = t then r.getD c 0 else gel M i c := by
  unfold gel
  rw [List.getD_eq_getElem?_getD, List.getD_eq_getElem?_getD]
  by_cases e : i = t
  · subst e
    rw [if_pos rfl, List.getElem?_set_self h]; rfl
  · rw [if_neg e, List.getElem?_set_ne (fun q => e q.symm), ← List.getD_eq_getElem?_getD, ← List.getD_eq_getElem?_getD]
theorem gel_swp {M : List (List Int)} {t k c : Nat} (ht : t < M.length) (hk : k < M.length) : gel (swp M t k) t c = gel M k c := by
  unfold swp
  rw [gel_set (by rw [List.length_set]; exact hk)]
  by_cases e : t = k
  · subst e
    rw [if_pos rfl]; rfl
  · rw [if_neg e, gel_set ht, if_pos rfl]; rfl
theorem Mok.el {p : Int} {n : Nat} {M : List (List Int)} (h : Mok p n M) {i c : Nat} (hi : i < M.length) (hc : c < n) : 0 ≤ gel M i c ∧ gel M i c < p := by
  have hm := getD_mem hi
  have hl := h.len _ hm
  unfold gel
  have : (M.getD i []).getD c 0 = (M.getD i [])[c]'(by omega) := by rw [List.getD_eq_getElem?_getD, List.getElem?_eq_getElem (by omega)]; rfl
  rw [this]
  exact h.res _ hm _ (List.getElem_mem _)
theorem Mok.set {p : Int} {n : Nat} {M : List (List Int)} (h : Mok p n M) {k : Nat} {r : List Int} (hr : r.length = n) (hx : ∀ x ∈ r, 0 ≤ x ∧ x < p) : Mok p n (M.set k r) :=
  ⟨fun q hq => (set_mem2 hq).elim (fun e => e ▸ hr) (h.len q), fun q hq => (set_mem2 hq).elim (fun e => e ▸ hx) (h.res q)⟩
theorem Mok.swp {p : Int} {n : Nat} {M : List (List Int)} (h : Mok p n M) {t k : Nat} (ht : t < M.length) (hk : k < M.length) : Mok p n (swp M t k) :=
  (h.set (h.len _ (getD_mem hk)) (h.res _ (getD_mem hk))).set (h.len _ (getD_mem ht)) (h.res _ (getD_mem ht))
/-- the rows but t, entry c cleared, the first i of them -/
def clrM (p : Int) (c t : Nat) (M : List (List Int)) : Nat → List (List Int)
  | 0 => M
  | i + 1 => if i = t ∨ gel M i c = 0 then clrM p c t M i else (clrM p c t M i).set i (clr p (gel M i c) (M.getD i []) (M.getD t []))
theorem clrM_len {p : Int} {c t : Nat} {M : List (List Int)} : ∀ i, (clrM p c t M i).length = M.length
  | 0 => rfl
  | i + 1 => by
    unfold clrM
    split
    · exact clrM_len i
    · rw [List.length_set]; exact clrM_len i
/-- rows from i on are as they were, and so is row t -/
theorem clrM_at {p : Int} {c t : Nat} {M : List (List Int)} : ∀ (i j : Nat), (i ≤ j ∨ j = t) → (clrM p c t M i)[j]? = M[j]?
  | 0, _, _ => rfl
  | i + 1, j, h => by
    unfold clrM
    split
    · exact clrM_at i j (by omega)
    · rename_i hn
      rw [not_or] at hn
      rw [List.getElem?_set_ne (by omega)]
      exact clrM_at i j (by omega)
theorem clrM_row {p : Int} {c t : Nat} {M : List (List Int)} {i j : Nat} (h : i ≤ j ∨ j = t) : (clrM p c t M i).getD j [] = M.getD j [] := by
  rw [List.getD_eq_getElem?_getD, clrM_at i j h, ← List.getD_eq_getElem?_getD]
theorem clrM_gel {p : Int} {c t d : Nat} {M : List (List Int)} {i j : Nat} (h : i ≤ j ∨ j = t) : gel (clrM p c t M i) j d = gel M j d := by
  unfold gel
  rw [clrM_row h]
theorem clrM_ok {p : Int} {n c t : Nat} {M : List (List Int)} (hp : 0 < p) (h : Mok p n M) (ht : t < M.length) : ∀ i, i ≤ M.length → Mok p n (clrM p c t M i)
  | 0, _ => h
  | i + 1, hi => by
    unfold clrM
    split
    · exact clrM_ok hp h ht i (by omega)
    · have hl : (M.getD i []).length = (M.getD t []).length := by rw [h.len _ (getD_mem (by omega)), h.len _ (getD_mem ht)]
      have hc := clr_ok (f := gel M i c) hp hl
      exact (clrM_ok hp h ht i (by omega)).set (by rw [hc.1]; exact h.len _ (getD_mem (by omega))) hc.2
/-- one column -/
def gjS (p : Int) (c : Nat) (S : List (List Int) × List Nat) : List (List Int) × List Nat :=
  if S.2.length < S.1.length then
    if fnd S.1 c S.2.length < S.1.length then
      (clrM p c S.2.length ((swp S.1 S.2.length (fnd S.1 c S.2.length)).set S.2.length (scl p (invP p (gel (swp S.1 S.2.length (fnd S.1 c S.2.length)) S.2.length c)) ((swp S.1 S.2.length (fnd S.1 c S.2.length)).getD S.2.length []))) S.1.length, S.2 ++ [c])
    else S
  else S
def gjTo (p : Int) (M : List (List Int)) : Nat → List (List Int) × List Nat
  | 0 => (M, [])
  | c + 1 => gjS p c (gjTo p M c)
theorem gjTo_ok {p : Int} {n : Nat} {M : List (List Int)} (hp : 0 < p) (h : Mok p n M) : ∀ c, Mok p n (gjTo p M c).1 ∧ (gjTo p M c).1.length = M.length ∧ (gjTo p M c).2.length ≤ M.length ∧ (gjTo p M c).2.length ≤ c ∧ ∀ x ∈ (gjTo p M c).2, x < c
  | 0 => ⟨h, rfl, Nat.zero_le _, Nat.zero_le _, fun x hx => by simp [gjTo] at hx⟩
  | c + 1 => by
    obtain ⟨h1, h2, h3, h4, h5⟩ := gjTo_ok hp h c
    have h5' : ∀ x ∈ (gjTo p M c).2, x < c + 1 := fun x hx => Nat.lt_succ_of_lt (h5 x hx)
    unfold gjTo gjS
    split
    · rename_i ht
      split
      · rename_i hk
        have hs := h1.swp ht hk
        have hsl := scl_ok (p := p) (y := invP p (gel (swp (gjTo p M c).1 (gjTo p M c).2.length (fnd (gjTo p M c).1 c (gjTo p M c).2.length)) (gjTo p M c).2.length c)) hp (r := (swp (gjTo p M c).1 (gjTo p M c).2.length (fnd (gjTo p M c).1 c (gjTo p M c).2.length)).getD (gjTo p M c).2.length [])
        refine ⟨clrM_ok hp (hs.set ?_ hsl.2) (by rw [List.length_set, swp_len]; exact ht) _ (by rw [List.length_set, swp_len]; exact Nat.le_refl _), ?_, ?_, ?_, ?_⟩
        · rw [hsl.1]
          exact hs.len _ (getD_mem (by rw [swp_len]; exact ht))
        · rw [clrM_len, List.length_set, swp_len, h2]
        · rw [List.length_append]; simp only [List.length_cons, List.length_nil]; omega
        · rw [List.length_append]; simp only [List.length_cons, List.length_nil]; omega
        · intro x hx
          rcases List.mem_append.1 hx with hx | hx
          · exact h5' x hx
          · simp at hx; omega
      · exact ⟨h1, h2, h3, by omega, h5'⟩
    · exact ⟨h1, h2, h3, by omega, h5'⟩
/-- once every row has its leading one, nothing turns -/
theorem gjTo_full {p : Int} {M : List (List Int)} {c : Nat} (h : (gjTo p M c).1.length ≤ (gjTo p M c).2.length) : ∀ d, gjTo p M (c + d) = gjTo p M c
  | 0 => rfl
  | d + 1 => by
    show gjS p (c + d) (gjTo p M (c + d)) = _
    rw [gjTo_full h d]
    unfold gjS
    rw [if_neg (by omega)]
/-- the weights for a column without a leading one -/
def wgtTo (p : Int) (S : List (List Int) × List Nat) (n c : Nat) : Nat → List Int
  | 0 => (List.replicate n 0).set c 1
  | i + 1 => (wgtTo p S n c i).set (S.2.getD i 0) ((p - gel S.1 i c) % p)
def wgtOf (p : Int) (S : List (List Int) × List Nat) (n c : Nat) : List Int := wgtTo p S n c S.2.length
theorem wgtTo_len {p : Int} {S : List (List Int) × List Nat} {n c : Nat} : ∀ i, (wgtTo p S n c i).length = n
  | 0 => by simp [wgtTo]
  | i + 1 => by rw [wgtTo, List.length_set]; exact wgtTo_len i
theorem wgtTo_res {p : Int} (hp : 2 ≤ p) {S : List (List Int) × List Nat} {n c : Nat} : ∀ i, ∀ x ∈ wgtTo p S n c i, 0 ≤ x ∧ x < p
  | 0, x, hx => by
    rcases List.mem_or_eq_of_mem_set hx with h | h
    · have := List.eq_of_mem_replicate h; omega
    · omega
  | i + 1, x, hx => by
    rcases List.mem_or_eq_of_mem_set hx with h | h
    · exact wgtTo_res hp i x h
    · subst h
      exact ⟨Int.emod_nonneg _ (by omega), Int.emod_lt_of_pos _ (by omega)⟩
/-- the sum over a mask, of the first k -/
def sumW (m : Nat) (w : List Int) : Nat → Int
  | 0 => 0
  | k + 1 => if m.testBit k = true then sumW m w k + w.getD k 0 else sumW m w k
/-- the first weights found among columns from c on, d of them -/
def fwFrom (p : Int) (S : List (List Int) × List Nat) (n mask : Nat) : Nat → Nat → Option (List Int)
  | _, 0 => none
  | c, d + 1 => if c ∈ S.2 then fwFrom p S n mask (c + 1) d else if sumW mask (wgtOf p S n c) n % p ≠ 0 then some (wgtOf p S n c) else fwFrom p S n mask (c + 1) d
/-- a mask's bits -/
def bitR (n : Nat) (m : Nat) : List Int := (List.range n).map fun k => if m.testBit k = true then 1 else 0
theorem bitR_ok {p : Int} (hp : 2 ≤ p) {n : Nat} {A : List Nat} : Mok p n (A.map (bitR n)) := by
  refine ⟨fun r hr => ?_, fun r hr x hx => ?_⟩
  · obtain ⟨m, _, rfl⟩ := List.mem_map.1 hr
    simp [bitR]
  · obtain ⟨m, _, rfl⟩ := List.mem_map.1 hr
    obtain ⟨k, _, rfl⟩ := List.mem_map.1 hx
    split <;> omega
/-- weights that forbid a tiling -/
def fwM (p : Int) (n mask : Nat) (A : List Nat) : Option (List Int) := fwFrom p (gjTo p (A.map (bitR n)) n) n mask 0 n
end Go.Proofs.YtppbkiajcpdkiaaGreatDoor

namespace Go.Proofs.YtppbkiajcpdkiaaGreatDoor
open Go.RowKit

section
variable {w0 w : World} {L : List Res} {vs : List Value} {M : List (List Int)}
theorem rows_at {g m cap n i j : Nat} (H : Sep w0 w (Res.row (.slice (some ⟨g, 0, none⟩) m cap) 27 1 m vs :: Res.rows vs M :: L)) (hM : ∀ r ∈ M, r.length = n) (hm : m = M.length) (hi : i < m) (hj : j < n) :
    ∃ b cp, vs[i]? = some (.slice (some ⟨b, 0, none⟩) n cp) ∧ b < w.heap.size ∧ w.cell? ⟨g, i, none⟩ = some (.slice (some ⟨b, 0, none⟩) n cp) ∧ w.cell? ⟨b, j, none⟩ = some (.int .i64 (gel M i j)) ∧ w.frozen? ⟨b, j, none⟩ = false := by
  have hR : RowsAt w vs M := H.h1
  have hiM : i < M.length := by omega
  obtain ⟨u, hu⟩ : ∃ u, vs[i]? = some u := ⟨vs[i]'(by rw [hR.len]; exact hiM), List.getElem?_eq_getElem _⟩
  have hr : M[i]? = some M[i] := List.getElem?_eq_getElem hiM
  have hrl := hM _ (List.getElem_mem hiM)
  have ho := hR.own i u _ hu hr
  rw [hrl] at ho
  obtain ⟨b, off, cp, rfl, _, _, hb⟩ := own_shape ho (by omega)
  obtain ⟨rfl, _⟩ := own_blk ho
  have x0 := own_cell H.h0 hu
  have hel : gel M i j = M[i][j]'(by omega) := by
    unfold gel
    have e1 : M.getD i [] = M[i] := by rw [List.getD_eq_getElem?_getD, hr, Option.getD_some]
    rw [e1, List.getD_eq_getElem?_getD, List.getElem?_eq_getElem (by omega), Option.getD_some]
  have x1 := own_cell1 ho (j := j) (u := gel M i j) (by rw [hel]; exact List.getElem?_eq_getElem (by omega))
  have f1 := own_free ho j
  rw [Nat.zero_add] at x0 x1 f1
  exact ⟨b, cp, hu, hb, x0, x1, f1⟩
theorem Sep.rowsRe {vs' : List Value} {M' : List (List Int)} (h : Sep w0 w (Res.rows vs M :: L)) (σ : Nat → Nat) (hσ : ∀ i j, i ≠ j → σ i ≠ σ j) (hv : ∀ j, vs'[j]? = vs[σ j]?) (hm : ∀ j, M'[j]? = M[σ j]?) (hl : vs'.length = M'.length) : Sep w0 w (Res.rows vs' M' :: L) :=
  h.say (fun hR => ⟨hl, fun i u r hu hr => RowsAt.own hR (σ i) u r (by rw [← hv]; exact hu) (by rw [← hm]; exact hr), fun i j u u' hij hu hu' => RowsAt.apart hR (σ i) (σ j) u u' (hσ i j hij) (by rw [← hv]; exact hu) (by rw [← hv]; exact hu')⟩)
    (fun b ⟨u, hu, hb⟩ => by
      obtain ⟨j, hj⟩ := List.getElem?_of_mem hu
      rw [hv] at hj
      exact ⟨u, List.mem_of_getElem? hj, hb⟩)
def swI (t k j : Nat) : Nat := if j = k then t else if j = t then k else j
theorem swI_inj {t k i j : Nat} (h : i ≠ j) : swI t k i ≠ swI t k j := by unfold swI; split <;> split <;> (try split) <;> (try split) <;> omega
theorem set_swap {α : Type} {l : List α} {t k : Nat} {a b : α} (ha : l[t]? = some a) (hb : l[k]? = some b) (j : Nat) : ((l.set t b).set k a)[j]? = l[swI t k j]? := by
  have ht := (List.getElem?_eq_some_iff.1 ha).1
  have hk := (List.getElem?_eq_some_iff.1 hb).1
  unfold swI
  by_cases e : j = k
  · subst e
    rw [if_pos rfl, List.getElem?_set_self (by rw [List.length_set]; exact hk), ha]
  · rw [if_neg e, List.getElem?_set_ne (fun q => e q.symm)]
    by_cases e2 : j = t
    · subst e2
      rw [if_pos rfl, List.getElem?_set_self ht, hb]
    · rw [if_neg e2, List.getElem?_set_ne (fun q => e2 q.symm)]
theorem getD_get {t : Nat} (h : t < M.length) : M[t]? = some (M.getD t []) := by
  rw [List.getD_eq_getElem?_getD, List.getElem?_eq_getElem h]; rfl
/-- two rows change places -/
theorem Sep.rowsSwap {g m cap t k : Nat} {a b : Value} (H : Sep w0 w (Res.row (.slice (some ⟨g, 0, none⟩) m cap) 27 1 m vs :: Res.rows vs M :: L)) (hm : m = M.length) (ht : t < m) (hk : k < m) (ha : vs[t]? = some a) (hb : vs[k]? = some b) :
    Sep w0 ((w.setCell ⟨g, t, none⟩ b).setCell ⟨g, k, none⟩ a) (Res.row (.slice (some ⟨g, 0, none⟩) m cap) 27 1 m ((vs.set t b).set k a) :: Res.rows ((vs.set t b).set k a) (swp M t k) :: L) := by
  have hvl : vs.length = M.length := RowsAt.len H.h1
  have h1 := H.setRow (j := t) (by omega) b
  have h2 := h1.setRow (j := k) (by rw [List.length_set]; omega) a
  rw [Nat.zero_add, Nat.zero_add] at h2
  exact (h2.g1.rowsRe (swI t k) (fun _ _ => swI_inj) (set_swap ha hb) (by
    unfold swp
    exact set_swap (getD_get (by omega)) (getD_get (by omega))) (by simp [swp, hvl])).g1
end
end Go.Proofs.YtppbkiajcpdkiaaGreatDoor

namespace Go.Proofs.YtppbkiajcpdkiaaGreatDoor

theorem clr_none {p : Int} {a b : List Int} (hl : a.length = b.length) (ha : ∀ x ∈ a, 0 ≤ x ∧ x < p) : clr p 0 a b = a := by
  unfold clr
  refine List.ext_getElem (by simp [hl]) fun i h1 h2 => ?_
  rw [List.getElem_zipWith]
  exact clr_zero (ha _ (List.getElem_mem h2))
/-- one row of the reference's clearing: any row but t -/
theorem clrM_any {p : Int} {n c t i : Nat} {M : List (List Int)} (h : Mok p n M) (ht : t < M.length) (hi : i < M.length) (hit : i ≠ t) : (clrM p c t M i).set i (clr p (gel M i c) (M.getD i []) (M.getD t [])) = clrM p c t M (i + 1) := by
  by_cases hf : gel M i c = 0
  · have e1 : clrM p c t M (i + 1) = clrM p c t M i := by rw [clrM, if_pos (.inr hf)]
    rw [e1, hf, clr_none (by rw [h.len _ (getD_mem hi), h.len _ (getD_mem ht)]) (h.res _ (getD_mem hi))]
    obtain ⟨h1, h2⟩ := List.getElem?_eq_some_iff.1 (show (clrM p c t M i)[i]? = some (M.getD i []) by rw [clrM_at i i (.inl (Nat.le_refl _))]; exact getD_get hi)
    rw [← h2]
    exact List.set_getElem_self h1
  · rw [clrM, if_neg (by rw [not_or]; exact ⟨hit, hf⟩)]
/-- the reference looks for a row from the end: what it knows once rows behind z are seen -/
def SrchR (M : List (List Int)) (c m : Nat) (z t : Int) : Prop := (t = -1 ∧ ∀ j : Nat, z < j → j < m → gel M j c = 0) ∨ (∃ a : Nat, t = a ∧ z < a ∧ a < m ∧ gel M a c ≠ 0 ∧ ∀ j : Nat, z < j → j < a → gel M j c = 0)
theorem SrchR.start {M : List (List Int)} {c m : Nat} : SrchR M c m ((m : Int) - 1) (-1) := .inl ⟨rfl, fun j h1 h2 => by omega⟩
theorem SrchR.skip {M : List (List Int)} {c m q : Nat} {t : Int} (h : SrchR M c m q t) (h0 : gel M q c = 0) : SrchR M c m ((q : Int) - 1) t := by
  rcases h with ⟨h1, h2⟩ | ⟨a, h1, h2, h3, h4, h5⟩
  · refine .inl ⟨h1, fun j h3 h4 => ?_⟩
    by_cases e : j = q
    · rw [e]; exact h0
    · exact h2 j (by omega) h4
  · refine .inr ⟨a, h1, by omega, h3, h4, fun j h6 h7 => ?_⟩
    by_cases e : j = q
    · rw [e]; exact h0
    · exact h5 j (by omega) h7
theorem SrchR.take {M : List (List Int)} {c m q : Nat} (hq : q < m) (h0 : gel M q c ≠ 0) : SrchR M c m ((q : Int) - 1) q := .inr ⟨q, rfl, by omega, hq, h0, fun j h1 h2 => by omega⟩
theorem SrchR.none {M : List (List Int)} {c m k : Nat} {z t : Int} (h : SrchR M c m z t) (hz : z < k) (hm : m = M.length) (hk : k ≤ m) (ht : t < 0) : fnd M c k = m := by
  rcases h with ⟨h1, h2⟩ | ⟨a, h1, _⟩
  · exact fnd_is hk (by omega) (fun j h3 h4 => h2 j (by omega) h4) (fun h => by omega)
  · omega
theorem SrchR.some {M : List (List Int)} {c m k : Nat} {z t : Int} (h : SrchR M c m z t) (hz : z < k) (hz2 : (k : Int) ≤ z + 1) (hm : m = M.length) (ht : ¬ t < 0) : ∃ a : Nat, t = a ∧ k ≤ a ∧ a < m ∧ gel M a c ≠ 0 ∧ fnd M c k = a := by
  rcases h with ⟨h1, _⟩ | ⟨a, h1, h2, h3, h4, h5⟩
  · omega
  · exact ⟨a, h1, by omega, h3, h4, fnd_is (by omega) (by omega) (fun j h6 h7 => h5 j (by omega) h7) (fun _ => h4)⟩
theorem SrchR.lt {M : List (List Int)} {c m : Nat} {z t : Int} (h : SrchR M c m z t) : -1 ≤ t ∧ t < m := by
  rcases h with ⟨h1, _⟩ | ⟨a, h1, h2, h3, _⟩ <;> omega
end Go.Proofs.YtppbkiajcpdkiaaGreatDoor

namespace Go.Proofs.YtppbkiajcpdkiaaGreatDoor
open Go.RowKit

set_option maxRecDepth 100000 in
theorem infoIntE : (Tryz.prog.info? 3).map (fun i => (i.zero, i.size, i.bytes)) = some (some (.int .i64 0), 1, 8) := by kernel_rfl
theorem nle_append {l : List Nat} {c : Nat} : ic ((l ++ [c]).map fun x : Nat => (x : Int)) = ic (l.map fun x : Nat => (x : Int)) ++ [.int .i64 (c : Int)] := by rw [List.map_append, ic_append]; rfl
/-- what the reduction owns -/
def ecL (pv : Value) (v : Value) (m : Nat) (vs : List Value) (S : List (List Int) × List Nat) (k : Nat) (L : List Res) : List Res :=
  Res.row v 27 1 m vs :: Res.rows vs S.1 :: Res.row pv 3 1 k (ic (S.2.map fun x : Nat => (x : Int))) :: L
def EcPost (p : Int) (n m g cap : Nat) (M : List (List Int)) (w0 : World) (L : List Res) : Ending → World → Prop := fun e w' => ∃ pv vs' k, e = .returned pv ∧ k = (gjTo p M n).2.length ∧ Sep w0 w' (ecL pv (.slice (some ⟨g, 0, none⟩) m cap) m vs' (gjTo p M n) k L)
theorem EcPost.mk {p : Int} {n m g cap k : Nat} {M : List (List Int)} {w0 w' : World} {L : List Res} {pv : Value} {vs : List Value} {S : List (List Int) × List Nat} (hS : gjTo p M n = S) (hk : k = S.2.length) (h : Sep w0 w' (ecL pv (.slice (some ⟨g, 0, none⟩) m cap) m vs S k L)) : EcPost p n m g cap M w0 L (.returned pv) w' :=
  ⟨pv, vs, k, rfl, by rw [hS]; exact hk, by rw [hS]; exact h⟩
end Go.Proofs.YtppbkiajcpdkiaaGreatDoor

namespace Go.Proofs.YtppbkiajcpdkiaaGreatDoor
open Go.RowKit

set_option maxRecDepth 100000 in
theorem infoIntS : (Tryz.prog.info? 3).map (fun i => (i.zero, i.size, i.bytes)) = some (some (.int .i64 0), 1, 8) := by kernel_rfl
def bitI (m k : Nat) : Int := if m.testBit k = true then 1 else 0
theorem bitI_is {m k : Nat} (hm : m < 9223372036854775808) : bits .and .i64 ((m : Int) / 2 ^ k) 1 = bitI m k := by
  have h0 := bit_test (x := k) hm
  have hd : m / 2 ^ k < 9223372036854775808 := Nat.lt_of_le_of_lt (Nat.div_le_self _ _) hm
  have e1 : ((m : Int) / 2 ^ k) = ((m / 2 ^ k : Nat) : Int) := by simp
  rw [e1, show (1 : Int) = ((1 : Nat) : Int) from rfl, i64_and_nat _ 1 hd (by decide), nat_mask1] at h0 ⊢
  have := Nat.mod_lt (m / 2 ^ k) (show 0 < 2 by decide)
  unfold bitI
  rw [← h0]
  generalize (m / 2 ^ k) % 2 = t at *
  have h2 : t = 0 ∨ t = 1 := by omega
  rcases h2 with rfl | rfl <;> rfl
theorem bitR_len {n m : Nat} : (bitR n m).length = n := by simp [bitR]
theorem bitR_succ {n m : Nat} : bitR (n + 1) m = bitR n m ++ [bitI m n] := by simp [bitR, bitI, List.range_succ]
end Go.Proofs.YtppbkiajcpdkiaaGreatDoor

namespace Go.Proofs.YtppbkiajcpdkiaaGreatDoor
open Go.RowKit

def prm (p : Int) : Bool := p == 2 || p == 3 || p == 5
set_option maxRecDepth 100000 in
set_option maxHeartbeats 400000 in
theorem spec_prime_c (p : Int) (w : World) : Calls Tryz.prog 171 #[.int .i64 p] w fun e w' => e = .returned (.bool (prm p)) ∧ w = w' := by
  by_cases h2 : p = 2
  · subst h2
    go_enter Tryz.func171, Tryz.ntmps171
    go_wp2
    go_ret
    exact ⟨rfl, rfl⟩
  · have e2 : (p == 2) = false := by simpa using h2
    by_cases h3 : p = 3
    · subst h3
      go_enter Tryz.func171, Tryz.ntmps171
      go_wp2
      go_ret
      exact ⟨rfl, rfl⟩
    · have e3 : (p == 3) = false := by simpa using h3
      have HP : Hid (prm p = (p == 5)) := Lib.hid (by unfold prm; rw [e2, e3]; rfl)
      obtain ⟨R, hR⟩ : ∃ R, R = prm p := ⟨_, rfl⟩
      rw [← hR] at HP ⊢
      clear hR
      go_enter Tryz.func171, Tryz.ntmps171
      go_wp2
      go_ret
      exact ⟨by rw [HP.out]; rfl, rfl⟩
set_option maxRecDepth 100000 in
set_option maxHeartbeats 400000 in
theorem impl_prime_c (p : Int) (w : World) : Calls Tryz.prog 141 #[.int .i64 p] w fun e w' => e = .returned (.bool (prm p)) ∧ w = w' := by
  by_cases h2 : p = 2
  · subst h2
    go_enter Tryz.func141, Tryz.ntmps141
    go_wp2
    go_ret
    exact ⟨rfl, rfl⟩
  · have e2 : (p == 2) = false := by simpa using h2
    by_cases h3 : p = 3
    · subst h3
      go_enter Tryz.func141, Tryz.ntmps141
      go_wp2
      go_ret
      exact ⟨rfl, rfl⟩
    · have e3 : (p == 3) = false := by simpa using h3
      have HP : Hid (prm p = (p == 5)) := Lib.hid (by unfold prm; rw [e2, e3]; rfl)
      obtain ⟨R, hR⟩ : ∃ R, R = prm p := ⟨_, rfl⟩
      rw [← hR] at HP ⊢
      clear hR
      go_enter Tryz.func141, Tryz.ntmps141
      go_wp2
      go_ret
      exact ⟨by rw [HP.out]; rfl, rfl⟩
end Go.Proofs.YtppbkiajcpdkiaaGreatDoor

namespace Go.Proofs.YtppbkiajcpdkiaaGreatDoor
open Go.RowKit

theorem sumW_le {m : Nat} {W : List Int} {p : Int} (hp : 0 < p) (hW : ∀ x ∈ W, 0 ≤ x ∧ x < p) : ∀ k, 0 ≤ sumW m W k ∧ sumW m W k ≤ k * p
  | 0 => by simp [sumW]
  | k + 1 => by
    have h := sumW_le hp hW k (m := m)
    have hx : 0 ≤ W.getD k 0 ∧ W.getD k 0 < p := by
      rw [List.getD_eq_getElem?_getD]
      by_cases hk : k < W.length
      · rw [List.getElem?_eq_getElem hk]
        exact hW _ (List.getElem_mem hk)
      · rw [List.getElem?_eq_none (by omega)]
        exact ⟨Int.le_refl _, hp⟩
    have e : ((k + 1 : Nat) : Int) * p = k * p + p := by rw [Int.natCast_add, Int.add_mul]; simp
    unfold sumW
    rw [e]
    split <;> omega
set_option maxRecDepth 100000 in
set_option maxHeartbeats 1600000 in
theorem weigh_c {v : Value} {m : Nat} {W : List Int} {p : Int} (w : World) (hp : p = 2 ∨ p = 3 ∨ p = 5) (hm : m < 2 ^ 36) (h : IntsRd w 0 w.heap.size v W) (hl : W.length ≤ 36) (hW : ∀ x ∈ W, 0 ≤ x ∧ x < p) :
    Calls Tryz.prog 144 #[.int .i64 m, v, .int .i64 p] w fun e w' => e = .returned (.int .i64 (sumW m W W.length % p)) ∧ w = w' := by
  obtain ⟨A, c, rfl, hmm, hr⟩ := h
  have hm2 : m < 9223372036854775808 := by omega
  have hp0 : 0 < p := by omega
  have hp5 : p ≤ 5 := by omega
  have HS := Lib.hid (sumW_le (m := m) hp0 hW)
  have HW := Lib.hid hW
  obtain ⟨n, hn⟩ : ∃ n, n = W.length := ⟨_, rfl⟩
  rw [← hn] at hl hr ⊢
  have HN := Lib.hid hn
  have HR := Lib.hid hr
  clear hn hr hmm hp hW
  go_enter Tryz.func144, Tryz.ntmps144
  go_wp2
  go_loopw [7, 12] (fun sv iv wx => ∃ i : Nat, i ≤ n ∧ iv = .int .i64 i ∧ sv = .int .i64 (sumW m W i) ∧ w = wx) (fun _ iv _ => n - (intOf iv).toNat)
  case atStart => exact ⟨0, Nat.zero_le _, rfl, rfl, rfl⟩
  case round =>
    obtain ⟨i, hi, rfl, rfl, rfl⟩ := hrel
    have hs := HS.out i
    have hs2 : (i : Int) * p ≤ 36 * 5 := Int.mul_le_mul (by omega) hp5 (by omega) (by omega)
    obtain ⟨s, hsd⟩ : ∃ s, s = sumW m W i := ⟨_, rfl⟩
    rw [← hsd] at hs ⊢
    obtain ⟨hs0, hs1⟩ := hs
    by_cases hlt : i < n
    · have hlti : (i : Int) < (n : Int) := by omega
      obtain ⟨y, hy⟩ : ∃ y, W[i]? = some y := ⟨W[i]'(by rw [← HN.out]; exact hlt), List.getElem?_eq_getElem _⟩
      obtain ⟨b, off, hA1, _, hb, hc⟩ := HR.out.2 (by omega)
      subst hA1
      have y1 := hc i (.int .i64 y) (by simp [ic, hy])
      have hyW := HW.out y (List.mem_of_getElem? hy)
      have hgy : W.getD i 0 = y := by rw [List.getD_eq_getElem?_getD, hy]; rfl
      have hbt := bit_test (x := i) hm2
      have ew : IntKind.i64.wrap (s + y) = s + y := IntWalk.i64_in _ (by omega)
      clear hc hb hy
      cases hb0 : m.testBit i
      · rw [hb0] at hbt
        have HST : Hid (sumW m W (i + 1) = s) := Lib.hid (by rw [sumW, hb0, hsd]; rfl)
        clear hsd hb0 hgy
        go_wp2
        go_roundw
        case rel => exact ⟨i + 1, by omega, by go_num, by rw [HST.out], trivial⟩
        case measure => simp [intOf]; omega
      · rw [hb0] at hbt
        have HST : Hid (sumW m W (i + 1) = s + y) := Lib.hid (by rw [sumW, hb0, if_pos rfl, ← hsd, hgy])
        clear hsd hb0 hgy
        go_wp2
        go_roundw
        case rel => exact ⟨i + 1, by omega, by go_num, by rw [HST.out], trivial⟩
        case measure => simp [intOf]; omega
    · obtain rfl : i = n := by omega
      have hp2 : (p == 0) = false := by simp; omega
      obtain ⟨r, hr⟩ : ∃ r, r = s % p := ⟨_, rfl⟩
      have e3 : Int.tmod s p = r := by rw [hr]; exact Int.tmod_eq_emod_of_nonneg (by omega)
      have hr0 : 0 ≤ r := by rw [hr]; exact Int.emod_nonneg _ (by omega)
      have hr5 : r < p := by rw [hr]; exact Int.emod_lt_of_pos _ hp0
      have e2 : IntKind.i64.wrap (Int.tmod s p) = r := by rw [e3]; exact IntWalk.i64_in _ (by omega)
      have HRS : Hid (r = sumW m W i % p) := Lib.hid (by rw [hr, hsd])
      clear hr hsd
      go_wp2
      go_ret
      exact ⟨by rw [← HRS.out]; rfl, rfl⟩
end Go.Proofs.YtppbkiajcpdkiaaGreatDoor

namespace Go.Proofs.YtppbkiajcpdkiaaGreatDoor
open Go.RowKit

set_option maxRecDepth 100000 in
set_option maxHeartbeats 1600000 in
theorem spec_are_c {v v2 : Value} {r : Reg} {W : List Int} {p : Int} (w : World) (h : RegRd w 0 w.heap.size v r) (hv : r.Valid) (h2 : IntsRd w 0 w.heap.size v2 W) (hp : p = 2 ∨ p = 3 ∨ p = 5) (hl : (W.length : Int) = r.w * r.rows.length) (hl36 : W.length ≤ 36) (hW : ∀ x ∈ W, 0 ≤ x ∧ x < p) :
    Calls Tryz.prog 132 #[v, v2, .int .i64 p] w fun e w' => e = .returned (.bool true) ∧ Below w.heap.size w w' := by
  have HSR : Hid (∀ w1, Below w.heap.size w w1 → Calls Tryz.prog 105 #[v] w1 fun e w' => e = .returned (.bool true) ∧ Below w1.heap.size w1 w') := Lib.hid fun w1 b1 => by
    rw [← Reg.valid_iff.2 hv]
    exact spec_IsRegion_c w1 ((h.keep (SameIn.of_below b1 (Nat.le_refl _))).more (Nat.le_refl _) b1.size)
  have HPR : Hid (∀ w1, Calls Tryz.prog 171 #[.int .i64 p] w1 fun e w' => e = .returned (.bool true) ∧ w1 = w') := Lib.hid fun w1 => by
    have := spec_prime_c p w1
    rwa [show prm p = true by rcases hp with rfl | rfl | rfl <;> rfl] at this
  have HL : Hid (∀ x ∈ W, ∀ w1, Calls Tryz.prog 36 #[.int .i64 x, .int .i64 0, .int .i64 (p - 1)] w1 fun e w' => e = .returned (.bool true) ∧ w1 = w') := Lib.hid fun x hx w1 => by
    have := l1In_any x 0 (p - 1) w1
    have hb := hW x hx
    rwa [show (decide (0 ≤ x) && decide (x ≤ p - 1)) = true by simp; omega] at this
  have HRD : Hid (∀ w1, Below w.heap.size w w1 → IntsRd w1 0 w1.heap.size v2 W) := Lib.hid fun w1 b1 => (h2.keep (SameIn.of_below b1 (Nat.le_refl _))).more (Nat.le_refl _) b1.size
  obtain ⟨q, hq⟩ : ∃ q, q = p - 1 := ⟨_, rfl⟩
  rw [← hq] at HL
  have hpq : IntKind.i64.wrap (p - 1) = q := by rw [hq]; exact IntWalk.i64_in _ (by omega)
  obtain ⟨n, hn⟩ : ∃ n, n = W.length := ⟨_, rfl⟩
  rw [← hn] at hl hl36
  have hmul : IntKind.i64.wrap (r.w * (r.rows.length : Int)) = (n : Int) := by rw [← hl]; exact IntWalk.i64_in _ (by omega)
  have hne : ((n : Int) != (n : Int)) = false := by simp
  have HN := Lib.hid hn
  obtain ⟨s, rfl, hs⟩ := h
  obtain ⟨A, c, rfl, hm, hr⟩ := id hs
  obtain ⟨B, cB, rfl, hmB, hrB⟩ := id h2
  rw [← hn] at HRD ⊢
  have H0 := (Sep.start w).box 29 #[.int .i64 r.w, .slice A r.rows.length c]
  obtain ⟨bR, hbR⟩ : ∃ bR, bR = w.heap.size := ⟨_, rfl⟩
  rw [← hbR] at H0
  clear hr hs hrB hmB h2 hq hl hn hW hp
  go_enter Tryz.func132, Tryz.ntmps132
  go_upto_region 1 with fail
  rw [← hbR]
  generalize w.alloc (.cells #[.int .i64 r.w, .slice A r.rows.length c] 29) = W0 at *
  clear hbR
  have c0 : W0.cell? ⟨bR, 0, none⟩ = some (.int .i64 r.w) := H0.h0.cell 0
  have c1 : W0.cell? ⟨bR, 1, none⟩ = some (.slice A r.rows.length c) := H0.h0.cell 1
  have HI := Lib.hid (HSR.out W0 H0.below)
  go_wp2_with fail
  refine (HI.out).mono ?_
  rintro e w1 ⟨rfl, b1⟩
  have H1 := H0.step b1
  clear H0 HI b1 c0 c1
  have c0 : w1.cell? ⟨bR, 0, none⟩ = some (.int .i64 r.w) := H1.h0.cell 0
  have c1 : w1.cell? ⟨bR, 1, none⟩ = some (.slice A r.rows.length c) := H1.h0.cell 1
  go_wp2_with fail
  refine (HPR.out w1).mono ?_
  rintro e w1 ⟨rfl, rfl⟩
  obtain ⟨_, _, hi1, _, hrB⟩ := HRD.out w1 H1.below
  have HR := Lib.hid hrB
  have HB := Lib.hid H1.below
  injection hi1 with e1 e2 e3
  subst e1
  clear hrB H1
  go_wp2
  clear hne hmul c0 c1
  go_loopw [7] (fun iv wx => ∃ i : Nat, i ≤ n ∧ iv = .int .i64 i ∧ w1 = wx) (fun iv _ => n - (intOf iv).toNat)
  case atStart => exact ⟨0, Nat.zero_le _, rfl, rfl⟩
  case round =>
    obtain ⟨i, hi, rfl, rfl⟩ := hrel
    by_cases hlt : i < n
    · have hlti : (i : Int) < (n : Int) := by omega
      obtain ⟨y, hy⟩ : ∃ y, W[i]? = some y := ⟨W[i]'(by rw [← HN.out]; exact hlt), List.getElem?_eq_getElem _⟩
      obtain ⟨b, off, hA1, _, hb, hc⟩ := HR.out.2 (by rw [← HN.out]; omega)
      subst hA1
      have y1 := hc i (.int .i64 y) (by simp [ic, hy])
      have HC := Lib.hid (HL.out y (List.mem_of_getElem? hy) w1)
      clear hc hb hy
      go_wp2_with fail
      refine (HC.out).mono ?_
      rintro e w2 ⟨rfl, rfl⟩
      clear HC
      go_wp2
      go_roundw
      case rel => exact ⟨i + 1, by omega, by go_num, trivial⟩
      case measure => simp [intOf]; omega
    · obtain rfl : i = n := by omega
      go_wp2
      go_ret
      exact ⟨rfl, HB.out⟩
set_option maxRecDepth 100000 in
set_option maxHeartbeats 1600000 in
theorem spec_sum_c {v v2 : Value} {r : Reg} {m : Nat} {W : List Int} {p : Int} (w : World) (h : RegRd w 0 w.heap.size v r) (hv : r.Valid) (h2 : IntsRd w 0 w.heap.size v2 W) (hp : p = 2 ∨ p = 3 ∨ p = 5) (hl : (W.length : Int) = r.w * r.rows.length) (hl36 : W.length ≤ 36) (hW : ∀ x ∈ W, 0 ≤ x ∧ x < p) (hm : m < 2 ^ 36) (hmr : m &&& r.mask = m) :
    Calls Tryz.prog 133 #[v, .int .i64 m, v2, .int .i64 p] w fun e w' => e = .returned (.int .i64 (sumW m W W.length % p)) ∧ Below w.heap.size w w' := by
  have HRD : Hid (∀ w1, Below w.heap.size w w1 → IntsRd w1 0 w1.heap.size v2 W) := Lib.hid fun w1 b1 => (h2.keep (SameIn.of_below b1 (Nat.le_refl _))).more (Nat.le_refl _) b1.size
  have HAR : Hid (∀ w1, Below w.heap.size w w1 → Calls Tryz.prog 132 #[v, v2, .int .i64 p] w1 fun e w' => e = .returned (.bool true) ∧ Below w1.heap.size w1 w') := Lib.hid fun w1 b1 =>
    spec_are_c w1 ((h.keep (SameIn.of_below b1 (Nat.le_refl _))).more (Nat.le_refl _) b1.size) hv (HRD.out w1 b1) hp hl hl36 hW
  have HMK : Hid (∀ w1, Below w.heap.size w w1 → Calls Tryz.prog 57 #[v] w1 fun e w' => e = .returned (.int .i64 (r.mask : Int)) ∧ Below w1.heap.size w1 w') := Lib.hid fun w1 b1 =>
    spec_mask_c w1 ((h.keep (SameIn.of_below b1 (Nat.le_refl _))).more (Nat.le_refl _) b1.size) hv
  have hml := Reg.mask_lt hv
  have hm2 : m < 9223372036854775808 := by omega
  have hp0 : 0 < p := by omega
  have hp5 : p ≤ 5 := by omega
  have HS := Lib.hid (sumW_le (m := m) hp0 hW)
  have HW := Lib.hid hW
  have hma : bits .and .i64 (m : Int) (r.mask : Int) = (m : Int) := by rw [i64_and_nat _ _ hm2 (by omega), hmr]
  have hmi : decide ((m : Int) < 0) = false := decide_eq_false (by omega)
  have hme : ((m : Int) != (m : Int)) = false := by simp
  obtain ⟨n, hn⟩ : ∃ n, n = W.length := ⟨_, rfl⟩
  rw [← hn] at hl36 ⊢
  have HN := Lib.hid hn
  obtain ⟨s, rfl, hs⟩ := h
  obtain ⟨A, c, rfl, _, hr⟩ := id hs
  obtain ⟨B, cB, rfl, hmB, hrB⟩ := id h2
  rw [← hn] at HRD HAR
  have H0 := (Sep.start w).box 29 #[.int .i64 r.w, .slice A r.rows.length c]
  obtain ⟨bR, hbR⟩ : ∃ bR, bR = w.heap.size := ⟨_, rfl⟩
  rw [← hbR] at H0
  rw [← hn]
  clear hr hs hrB hmB h2 hl hn hW hp hmr
  go_enter Tryz.func133, Tryz.ntmps133
  go_upto_region 1 with fail
  rw [← hbR]
  generalize w.alloc (.cells #[.int .i64 r.w, .slice A r.rows.length c] 29) = W0 at *
  clear hbR
  have c0 : W0.cell? ⟨bR, 0, none⟩ = some (.int .i64 r.w) := H0.h0.cell 0
  have c1 : W0.cell? ⟨bR, 1, none⟩ = some (.slice A r.rows.length c) := H0.h0.cell 1
  have HI := Lib.hid (HAR.out W0 H0.below)
  go_wp2_with fail
  refine (HI.out).mono ?_
  rintro e w1 ⟨rfl, b1⟩
  have H1 := H0.step b1
  clear H0 HI b1 c0 c1
  have c0 : w1.cell? ⟨bR, 0, none⟩ = some (.int .i64 r.w) := H1.h0.cell 0
  have c1 : w1.cell? ⟨bR, 1, none⟩ = some (.slice A r.rows.length c) := H1.h0.cell 1
  have HI := Lib.hid (HMK.out w1 H1.below)
  go_wp2_with fail
  refine (HI.out).mono ?_
  rintro e w2 ⟨rfl, b1⟩
  have H2 := H1.step b1
  clear H1 HI b1 c0 c1
  obtain ⟨_, _, hi1, _, hrB⟩ := HRD.out w2 H2.below
  have HR := Lib.hid hrB
  have HB := Lib.hid H2.below
  injection hi1 with e1 e2 e3
  subst e1
  clear hrB H2
  go_wp2
  clear hma hmi hme
  go_loopw [9, 10] (fun sv iv wx => ∃ i : Nat, i ≤ n ∧ iv = .int .i64 i ∧ sv = .int .i64 (sumW m W i) ∧ w2 = wx) (fun _ iv _ => n - (intOf iv).toNat)
  case atStart => exact ⟨0, Nat.zero_le _, rfl, rfl, rfl⟩
  case round =>
    obtain ⟨i, hi, rfl, rfl, rfl⟩ := hrel
    have hs := HS.out i
    have hs2 : (i : Int) * p ≤ 36 * 5 := Int.mul_le_mul (by omega) hp5 (by omega) (by omega)
    obtain ⟨s, hsd⟩ : ∃ s, s = sumW m W i := ⟨_, rfl⟩
    rw [← hsd] at hs ⊢
    obtain ⟨hs0, hs1⟩ := hs
    by_cases hlt : i < n
    · have hlti : (i : Int) < (n : Int) := by omega
      obtain ⟨y, hy⟩ : ∃ y, W[i]? = some y := ⟨W[i]'(by rw [← HN.out]; exact hlt), List.getElem?_eq_getElem _⟩
      obtain ⟨b, off, hA1, _, hb, hc⟩ := HR.out.2 (by rw [← HN.out]; omega)
      subst hA1
      have y1 := hc i (.int .i64 y) (by simp [ic, hy])
      have hyW := HW.out y (List.mem_of_getElem? hy)
      have hgy : W.getD i 0 = y := by rw [List.getD_eq_getElem?_getD, hy]; rfl
      have hbt := bit_test (x := i) hm2
      have ew : IntKind.i64.wrap (s + y) = s + y := IntWalk.i64_in _ (by omega)
      clear hc hb hy
      cases hb0 : m.testBit i
      · rw [hb0] at hbt
        have HST : Hid (sumW m W (i + 1) = s) := Lib.hid (by rw [sumW, hb0, hsd]; rfl)
        clear hsd hb0 hgy
        go_wp2
        go_roundw
        case rel => exact ⟨i + 1, by omega, by go_num, by rw [HST.out], trivial⟩
        case measure => simp [intOf]; omega
      · rw [hb0] at hbt
        have HST : Hid (sumW m W (i + 1) = s + y) := Lib.hid (by rw [sumW, hb0, if_pos rfl, ← hsd, hgy])
        clear hsd hb0 hgy
        go_wp2
        go_roundw
        case rel => exact ⟨i + 1, by omega, by go_num, by rw [HST.out], trivial⟩
        case measure => simp [intOf]; omega
    · obtain rfl : i = n := by omega
      have hp2 : (p == 0) = false := by simp; omega
      obtain ⟨r', hr⟩ : ∃ r', r' = s % p := ⟨_, rfl⟩
      have e3 : Int.tmod s p = r' := by rw [hr]; exact Int.tmod_eq_emod_of_nonneg (by omega)
      have hr0 : 0 ≤ r' := by rw [hr]; exact Int.emod_nonneg _ (by omega)
      have hr5 : r' < p := by rw [hr]; exact Int.emod_lt_of_pos _ hp0
      have e2 : IntKind.i64.wrap (Int.tmod s p) = r' := by rw [e3]; exact IntWalk.i64_in _ (by omega)
      have HRS : Hid (r' = sumW m W i % p) := Lib.hid (by rw [hr, hsd])
      clear hr hsd
      go_wp2
      go_ret
      exact ⟨by rw [← HRS.out]; rfl, HB.out⟩
end Go.Proofs.YtppbkiajcpdkiaaGreatDoor

namespace Go.Proofs.YtppbkiajcpdkiaaGreatDoor
open Go.RowKit

/-- the masks of all placements -/
def mskA (r : Reg) (ps : List (List Cell)) : List Nat := (allP r ps).map Int.toNat
def Reg.size (r : Reg) : Nat := r.w.toNat * r.rows.length
def fwR (r : Reg) (ps : List (List Cell)) (p : Int) : Option (List Int) := if (r.valid && arePcs ps) = true ∧ prm p = true then fwM p r.size r.mask (mskA r ps) else none
theorem Reg.size_le {r : Reg} (hv : r.Valid) : 0 < r.size ∧ r.size ≤ 36 := by
  obtain ⟨h1, h2, h3, h4, _⟩ := hv
  unfold Reg.size
  have hw : 0 < r.w.toNat ∧ r.w.toNat ≤ 6 := by omega
  exact ⟨Nat.mul_pos hw.1 h3, Nat.le_trans (Nat.mul_le_mul hw.2 h4) (by decide)⟩
theorem Reg.size_int {r : Reg} (hv : r.Valid) : r.w * (r.rows.length : Int) = (r.size : Int) := by
  unfold Reg.size
  rw [Int.natCast_mul, Int.toNat_of_nonneg (by have := hv.1; omega)]
theorem prm_is {p : Int} (h : prm p = true) : p = 2 ∨ p = 3 ∨ p = 5 := by
  unfold prm at h
  simp only [Bool.or_eq_true, beq_iff_eq] at h
  omega
theorem mskA_len {r : Reg} {ps : List (List Cell)} : (mskA r ps).length = (allP r ps).length := by simp [mskA]
theorem mskA_at {r : Reg} (hv : r.Valid) {ps : List (List Cell)} {i : Nat} (h : i < (mskA r ps).length) : ∃ x : Nat, (mskA r ps)[i]? = some x ∧ (allP r ps)[i]? = some (x : Int) ∧ x < 68719476736 := by
  rw [mskA_len] at h
  have hm := allP_mk hv (List.getElem_mem h)
  refine ⟨((allP r ps)[i]).toNat, ?_, ?_, ?_⟩
  · unfold mskA
    rw [List.getElem?_map, List.getElem?_eq_getElem h]; rfl
  · rw [List.getElem?_eq_getElem h, Int.toNat_of_nonneg hm.1]
  · have := hm.2; have := hm.1; omega
/-- a mask's bits, the first k set -/
def bitTo (n m : Nat) : Nat → List Int
  | 0 => List.replicate n 0
  | k + 1 => (bitTo n m k).set k (bitI m k)
theorem bitTo_len {n m : Nat} : ∀ k, (bitTo n m k).length = n
  | 0 => by simp [bitTo]
  | k + 1 => by rw [bitTo, List.length_set]; exact bitTo_len k
theorem bitTo_at {n m : Nat} : ∀ (k i : Nat), i < n → (bitTo n m k)[i]? = some (if i < k then bitI m i else 0)
  | 0, i, h => by
    rw [bitTo, if_neg (Nat.not_lt_zero _)]
    simp [h]
  | k + 1, i, h => by
    rw [bitTo]
    by_cases e : i = k
    · subst e
      rw [List.getElem?_set_self (by rw [bitTo_len]; exact h), if_pos (Nat.lt_succ_self _)]
    · rw [List.getElem?_set_ne (fun q => e q.symm), bitTo_at k i h]
      by_cases h2 : i < k
      · rw [if_pos h2, if_pos (by omega)]
      · rw [if_neg h2, if_neg (by omega)]
theorem bitTo_end {n m : Nat} : bitTo n m n = bitR n m := by
  apply List.ext_getElem?
  intro i
  by_cases h : i < n
  · rw [bitTo_at n i h, if_pos h]
    simp [bitR, bitI, h]
  · rw [List.getElem?_eq_none (by rw [bitTo_len]; omega), List.getElem?_eq_none (by simp [bitR]; omega)]
theorem ints_at {w : World} {A : Option Addr} {n c i : Nat} {l : List Int} {y : Int} (h : IntsRd w 0 w.heap.size (.slice A n c) l) (hy : l[i]? = some y) : ∃ b off, A = some ⟨b, off, none⟩ ∧ b < w.heap.size ∧ w.cell? ⟨b, off + i, none⟩ = some (.int .i64 y) := by
  obtain ⟨A', c', e, _, hr⟩ := h
  injection e with e1 e2 e3
  subst e1
  obtain ⟨b, off, e4, _, hb, hc⟩ := hr.2 (by have := (List.getElem?_eq_some_iff.1 hy).1; omega)
  exact ⟨b, off, e4, hb, hc i _ (by simp [ic, hy])⟩
theorem row_rd {w : World} {v : Value} {n : Nat} {l : List Int} (h : w.ownsRow 0 3 1 v n (ic l)) (hn : n = l.length) : IntsRd w 0 w.heap.size v l := by
  subst hn
  exact IntsIn.rd (lo := 0) ⟨h, fun k hk => own_lt h k hk⟩
theorem hasI_nat {l : List Nat} {c : Nat} : hasI (l.map fun x : Nat => (x : Int)) c = decide (c ∈ l) := by
  unfold hasI
  congr 1
  apply propext
  constructor
  · intro h
    obtain ⟨x, hx, e⟩ := List.mem_map.1 h
    rwa [← Int.ofNat_inj.1 e]
  · exact fun h => List.mem_map.2 ⟨c, h, rfl⟩
/-- what a finder of weights answers -/
def FwPost (R : Option (List Int)) (w : World) : Ending → World → Prop := fun e w' => ∃ v' b, e = .returned (.tuple #[v', .bool b]) ∧ b = R.isSome ∧ IntsIn w' w.heap.size w'.heap.size v' (R.getD []) ∧ Below w.heap.size w w'
theorem FwPost.nope {R : Option (List Int)} {w w' : World} (h : R = none) (hb : Below w.heap.size w w') : FwPost R w (.returned (.tuple #[.slice none 0 0, .bool false])) w' := by
  subst h
  exact ⟨_, _, rfl, rfl, IntsIn.nil, hb⟩
theorem FwPost.empty {R : Option (List Int)} {w w' : World} {v : Value} {L : List Res} (h : R = none) (H : Sep w w' (Res.row v 3 1 0 [] :: L)) : FwPost R w (.returned (.tuple #[v, .bool false])) w' := by
  subst h
  exact ⟨_, _, rfl, rfl, H.oi, H.below⟩
theorem FwPost.yes {R : Option (List Int)} {w w' : World} {v : Value} {n : Nat} {l : List Int} {L : List Res} (h : R = some l) (hn : n = l.length) (H : Sep w w' (Res.row v 3 1 n (ic l) :: L)) : FwPost R w (.returned (.tuple #[v, .bool true])) w' := by
  subst h hn
  exact ⟨_, _, rfl, rfl, H.oi, H.below⟩
theorem fwFrom_skip {p : Int} {S : List (List Int) × List Nat} {n mask c : Nat} (hc : c < n) (h : c ∈ S.2) : fwFrom p S n mask c (n - c) = fwFrom p S n mask (c + 1) (n - (c + 1)) := by
  rw [show n - c = (n - (c + 1)) + 1 by omega, fwFrom, if_pos h]
theorem fwFrom_not {p : Int} {S : List (List Int) × List Nat} {n mask c : Nat} (hc : c < n) (h : ¬ c ∈ S.2) (h2 : sumW mask (wgtOf p S n c) n % p = 0) : fwFrom p S n mask c (n - c) = fwFrom p S n mask (c + 1) (n - (c + 1)) := by
  rw [show n - c = (n - (c + 1)) + 1 by omega, fwFrom, if_neg h, if_neg (fun h3 => h3 h2)]
theorem fwFrom_yes {p : Int} {S : List (List Int) × List Nat} {n mask c : Nat} (hc : c < n) (h : ¬ c ∈ S.2) (h2 : sumW mask (wgtOf p S n c) n % p ≠ 0) : fwFrom p S n mask c (n - c) = some (wgtOf p S n c) := by
  rw [show n - c = (n - (c + 1)) + 1 by omega, fwFrom, if_neg h, if_pos h2]
theorem fwFrom_end {p : Int} {S : List (List Int) × List Nat} {n mask : Nat} : fwFrom p S n mask n (n - n) = none := by
  rw [Nat.sub_self]; rfl
end Go.Proofs.YtppbkiajcpdkiaaGreatDoor

namespace Go.Proofs.YtppbkiajcpdkiaaGreatDoor
open Go.RowKit

def okW (p x : Int) : Bool := decide (0 ≤ x) && decide (x ≤ p - 1)
/-- are the weights right? -/
def resB (r : Reg) (W : List Int) (p : Int) : Bool := prm p && (decide ((W.length : Int) = r.w * r.rows.length) && W.all (okW p))
/-- do they forbid a tiling? -/
def wgF (r : Reg) (ps : List (List Cell)) (W : List Int) (p : Int) : Bool := (allN r ps).all (fun m => decide (sumW m W W.length % p = 0)) && !decide (sumW r.mask W W.length % p = 0)
def wpfB (r : Reg) (ps : List (List Cell)) (p : Int) (W : List Int) : Bool := (r.valid && arePcs ps) && (resB r W p && wgF r ps W p)
theorem prm_iff {p : Int} : prm p = true ↔ p = 2 ∨ p = 3 ∨ p = 5 := by
  unfold prm
  simp only [Bool.or_eq_true, beq_iff_eq]
  omega
theorem all_end {α : Type} {l : List α} {f : α → Bool} {i : Nat} (h : i = l.length) : (l.drop i).all f = true := by rw [h, List.drop_length]; rfl
theorem all_at {α : Type} {l : List α} {f : α → Bool} {i : Nat} {x : α} (h : l[i]? = some x) : (l.drop i).all f = (f x && (l.drop (i + 1)).all f) := by
  obtain ⟨h1, h2⟩ := List.getElem?_eq_some_iff.1 h
  rw [List.drop_eq_getElem_cons h1, h2]
  rfl
theorem resB_is {r : Reg} {W : List Int} {p : Int} (hv : r.Valid) (h : resB r W p = true) : (p = 2 ∨ p = 3 ∨ p = 5) ∧ (W.length : Int) = r.w * r.rows.length ∧ W.length ≤ 36 ∧ ∀ x ∈ W, 0 ≤ x ∧ x < p := by
  unfold resB at h
  simp only [Bool.and_eq_true, decide_eq_true_eq, List.all_eq_true] at h
  obtain ⟨h1, h2, h3⟩ := h
  refine ⟨prm_iff.1 h1, h2, ?_, fun x hx => ?_⟩
  · have h4 := Reg.size_int hv
    have h5 := (Reg.size_le hv).2
    rw [h4] at h2
    omega
  · have := h3 x hx
    unfold okW at this
    simp only [Bool.and_eq_true, decide_eq_true_eq] at this
    omega
set_option maxRecDepth 100000 in
theorem impl_sizeW_c {v : Value} {r : Reg} (w : World) (h : RegRd w 0 w.heap.size v r) (hv : r.Valid) :
    Calls Tryz.prog 143 #[v] w fun e w' => e = .returned (.int .i64 (r.size : Int)) ∧ Below w.heap.size w w' := by
  obtain ⟨s, rfl, hs⟩ := h
  obtain ⟨A, c, rfl, _, _⟩ := hs
  have H := (Sep.start w).box 29 #[.int .i64 r.w, .slice A r.rows.length c]
  have hsz := Reg.size_int hv
  have h36 := (Reg.size_le hv).2
  have hw : IntKind.i64.wrap (r.w * (r.rows.length : Int)) = (r.size : Int) := by rw [hsz]; exact IntWalk.i64_in _ (by omega)
  clear hsz
  go_enter Tryz.func143, Tryz.ntmps143
  go_upto_region 1 with fail
  generalize (w.alloc (.cells #[.int .i64 r.w, .slice A r.rows.length c] 29)) = W at *
  have c0 : W.cell? ⟨w.heap.size, 0, none⟩ = some (.int .i64 r.w) := H.h0.cell 0
  have c1 : W.cell? ⟨w.heap.size, 1, none⟩ = some (.slice A r.rows.length c) := H.h0.cell 1
  go_wp2
  go_ret
  exact ⟨rfl, H.below⟩
set_option maxRecDepth 100000 in
set_option maxHeartbeats 1600000 in
theorem impl_areRes_c {v : Value} {W : List Int} {p m : Int} (w : World) (h : IntsRd w 0 w.heap.size v W) (hp : p = 2 ∨ p = 3 ∨ p = 5) :
    Calls Tryz.prog 142 #[v, .int .i64 m, .int .i64 p] w fun e w' => e = .returned (.bool (W.all (okW p) && decide ((W.length : Int) = m))) ∧ w = w' := by
  obtain ⟨T, hT⟩ : ∃ T, T = W.all (okW p) := ⟨_, rfl⟩
  rw [← hT]
  have HT0 : Hid (T = (W.drop 0).all (okW p)) := Lib.hid hT
  obtain ⟨q, hq⟩ : ∃ q, q = p - 1 := ⟨_, rfl⟩
  have HQ := Lib.hid hq
  have hpq : wrap64 (p - 1) = q := by rw [hq]; exact IntWalk.wrap64_in _ (by omega)
  have hpq2 : IntKind.i64.wrap (p - 1) = q := by rw [hq]; exact IntWalk.i64_in _ (by omega)
  obtain ⟨A, c, rfl, hm, _⟩ := id h
  obtain ⟨n, hn⟩ : ∃ n, n = W.length := ⟨_, rfl⟩
  have hn63 : n ≤ 9223372036854775807 := by unfold maxLen at hm; omega
  rw [← hn] at h ⊢
  have HRW := Lib.hid h
  have HN := Lib.hid hn
  obtain ⟨w1, hw1⟩ : ∃ x, x = w := ⟨_, rfl⟩
  subst hw1
  clear hT hq hm hn h hp
  go_enter Tryz.func142, Tryz.ntmps142
  go_wp2
  go_loopw [11] (fun iv wx => ∃ i : Nat, i ≤ n ∧ iv = .int .i64 i ∧ Hid (T = (W.drop i).all (okW p)) ∧ w1 = wx) (fun iv _ => n - (intOf iv).toNat)
  case atStart => exact ⟨0, Nat.zero_le _, rfl, HT0, rfl⟩
  case round =>
    obtain ⟨i, hi, rfl, HC, rfl⟩ := hrel
    by_cases hlt : i < n
    · have hlti : (i : Int) < (n : Int) := by omega
      obtain ⟨y, hy⟩ : ∃ y, W[i]? = some y := ⟨W[i]'(by rw [← HN.out]; exact hlt), List.getElem?_eq_getElem _⟩
      obtain ⟨b, off, hA1, hb, y1⟩ := ints_atZ HRW.out hy
      subst hA1
      have HBT := Lib.hid (between_any y 0 q w1)
      obtain ⟨O, hO⟩ : ∃ O, O = (decide (0 ≤ y) && decide (y ≤ q)) := ⟨_, rfl⟩
      rw [← hO] at HBT
      have HC2 : Hid (T = (O && (W.drop (i + 1)).all (okW p))) := Lib.hid (by rw [HC.out, all_at hy, hO, HQ.out]; rfl)
      clear hO hy HC
      cases O
      · obtain rfl : T = false := HC2.out
        go_wp2_with fail
        refine (HBT.out).mono ?_
        rintro e w2 ⟨rfl, rfl⟩
        go_wp2
        go_ret
        exact ⟨rfl, rfl⟩
      · have HC3 : Hid (T = (W.drop (i + 1)).all (okW p)) := Lib.hid (by rw [HC2.out]; rfl)
        clear HC2
        go_wp2_with fail
        refine (HBT.out).mono ?_
        rintro e w2 ⟨rfl, rfl⟩
        go_wp2
        go_roundw
        case rel => exact ⟨i + 1, by omega, by go_num, HC3, trivial⟩
        case measure => simp [intOf]; omega
    · obtain rfl : i = n := by omega
      obtain rfl : T = true := by rw [HC.out]; exact all_end HN.out
      clear HC
      go_wp2
      go_ret
      exact ⟨by rw [Bool.true_and]; congr 2, rfl⟩
set_option maxRecDepth 100000 in
set_option maxHeartbeats 1600000 in
theorem spec_areG_c {v v2 : Value} {r : Reg} {W : List Int} {p : Int} (w : World) (h : RegRd w 0 w.heap.size v r) (h2 : IntsRd w 0 w.heap.size v2 W) :
    Calls Tryz.prog 132 #[v, v2, .int .i64 p] w fun e w' => e = .returned (.bool (r.valid && resB r W p)) ∧ Below w.heap.size w w' := by
  have HRD : Hid (∀ w1, Below w.heap.size w w1 → RegRd w1 0 w1.heap.size v r) := Lib.hid fun w1 b1 => (h.keep (SameIn.of_below b1 (Nat.le_refl _))).more (Nat.le_refl _) b1.size
  have HR2 : Hid (∀ w1, Below w.heap.size w w1 → IntsRd w1 0 w1.heap.size v2 W) := Lib.hid fun w1 b1 => (h2.keep (SameIn.of_below b1 (Nat.le_refl _))).more (Nat.le_refl _) b1.size
  obtain ⟨K, hK⟩ : ∃ K, K = r.valid := ⟨_, rfl⟩
  obtain ⟨P, hP⟩ : ∃ P, P = prm p := ⟨_, rfl⟩
  obtain ⟨R, hR⟩ : ∃ R, R = (r.valid && resB r W p) := ⟨_, rfl⟩
  rw [← hR]
  have HK := Lib.hid hK
  have HPM := Lib.hid hP
  have HR := Lib.hid hR
  obtain ⟨n, hn⟩ : ∃ n, n = W.length := ⟨_, rfl⟩
  obtain ⟨s, rfl, hs⟩ := h
  obtain ⟨A, c, rfl, hm, hr⟩ := id hs
  obtain ⟨B, cB, rfl, hmB, hrB⟩ := id h2
  have hn63 : n ≤ 9223372036854775807 := by unfold maxLen at hmB; omega
  rw [← hn] at HR2 ⊢
  have HN := Lib.hid hn
  have H0 := (Sep.start w).box 29 #[.int .i64 r.w, .slice A r.rows.length c]
  obtain ⟨bR, hbR⟩ : ∃ bR, bR = w.heap.size := ⟨_, rfl⟩
  rw [← hbR] at H0
  clear hr hs hrB hmB h2 hn hK hP hR
  go_enter Tryz.func132, Tryz.ntmps132
  go_upto_region 1 with fail
  rw [← hbR]
  generalize w.alloc (.cells #[.int .i64 r.w, .slice A r.rows.length c] 29) = W0 at *
  clear hbR
  have c0 : W0.cell? ⟨bR, 0, none⟩ = some (.int .i64 r.w) := H0.h0.cell 0
  have c1 : W0.cell? ⟨bR, 1, none⟩ = some (.slice A r.rows.length c) := H0.h0.cell 1
  have HI := Lib.hid (spec_IsRegion_c W0 (HRD.out W0 H0.below))
  rw [← HK.out] at HI
  go_wp2_with fail
  refine (HI.out).mono ?_
  rintro e w1 ⟨rfl, b1⟩
  have H1 := H0.step b1
  clear H0 HI b1 c0 c1
  cases K
  · obtain rfl : R = false := by rw [HR.out, ← HK.out]; rfl
    go_wp2
    go_ret
    exact ⟨rfl, H1.below⟩
  have HV := Lib.hid (Reg.valid_iff.1 HK.out.symm)
  have c0 : w1.cell? ⟨bR, 0, none⟩ = some (.int .i64 r.w) := H1.h0.cell 0
  have c1 : w1.cell? ⟨bR, 1, none⟩ = some (.slice A r.rows.length c) := H1.h0.cell 1
  have HPR := Lib.hid (spec_prime_c p w1)
  rw [← HPM.out] at HPR
  cases P
  · obtain rfl : R = false := by rw [HR.out, resB, ← HPM.out, Bool.false_and, Bool.and_false]
    go_wp2_with fail
    refine (HPR.out).mono ?_
    rintro e w2 ⟨rfl, rfl⟩
    go_wp2
    go_ret
    exact ⟨rfl, H1.below⟩
  have hsz := Reg.size_int HV.out
  have h36 := (Reg.size_le HV.out).2
  obtain ⟨z, hz⟩ : ∃ z, z = r.size := ⟨_, rfl⟩
  rw [← hz] at hsz h36
  have hmul : IntKind.i64.wrap (r.w * (r.rows.length : Int)) = (z : Int) := by rw [← hsz]; exact IntWalk.i64_in _ (by omega)
  have hmul2 : wrap64 (r.w * (r.rows.length : Int)) = (z : Int) := by rw [← hsz]; exact IntWalk.wrap64_in _ (by omega)
  have HZ : Hid ((z : Int) = r.w * r.rows.length) := Lib.hid hsz.symm
  clear hsz hz
  by_cases hnz : n = z
  rotate_left
  · have hne : ((n : Int) != (z : Int)) = true := by simp; omega
    obtain rfl : R = false := by rw [HR.out, resB, ← HZ.out, decide_eq_false (by rw [← HN.out]; omega), Bool.false_and, Bool.and_false, Bool.and_false]
    go_wp2_with fail
    refine (HPR.out).mono ?_
    rintro e w2 ⟨rfl, rfl⟩
    go_wp2
    go_ret
    exact ⟨rfl, H1.below⟩
  have hne : ((n : Int) != (z : Int)) = false := by simp; omega
  have HRT : R = W.all (okW p) := by rw [HR.out, resB, ← HK.out, ← HPM.out, ← HZ.out, decide_eq_true (by rw [← HN.out]; omega)]; rfl
  have hp := prm_iff.1 HPM.out.symm
  obtain ⟨q, hq⟩ : ∃ q, q = p - 1 := ⟨_, rfl⟩
  have HQ := Lib.hid hq
  have hpq : wrap64 (p - 1) = q := by rw [hq]; exact IntWalk.wrap64_in _ (by omega)
  have hpq2 : IntKind.i64.wrap (p - 1) = q := by rw [hq]; exact IntWalk.i64_in _ (by omega)
  obtain ⟨T, hT⟩ : ∃ T, T = R := ⟨_, rfl⟩
  subst hT
  have HT0 : Hid (T = (W.drop 0).all (okW p)) := Lib.hid HRT
  go_wp2_with fail
  refine (HPR.out).mono ?_
  rintro e w2 ⟨rfl, rfl⟩
  have HRW := Lib.hid (HR2.out w1 H1.below)
  have HB := Lib.hid H1.below
  clear HPR HRT hq hp HR H1 HR2 HRD
  go_wp2
  clear hne hmul hmul2 c0 c1
  go_loopw [7] (fun iv wx => ∃ i : Nat, i ≤ n ∧ iv = .int .i64 i ∧ Hid (T = (W.drop i).all (okW p)) ∧ w1 = wx) (fun iv _ => n - (intOf iv).toNat)
  case atStart => exact ⟨0, Nat.zero_le _, rfl, HT0, rfl⟩
  case round =>
    obtain ⟨i, hi, rfl, HC, rfl⟩ := hrel
    by_cases hlt : i < n
    · have hlti : (i : Int) < (n : Int) := by omega
      obtain ⟨y, hy⟩ : ∃ y, W[i]? = some y := ⟨W[i]'(by rw [← HN.out]; exact hlt), List.getElem?_eq_getElem _⟩
      obtain ⟨b, off, hA1, hb, y1⟩ := ints_atZ HRW.out hy
      subst hA1
      have HBT := Lib.hid (l1In_any y 0 q w1)
      obtain ⟨O, hO⟩ : ∃ O, O = (decide (0 ≤ y) && decide (y ≤ q)) := ⟨_, rfl⟩
      rw [← hO] at HBT
      have HC2 : Hid (T = (O && (W.drop (i + 1)).all (okW p))) := Lib.hid (by rw [HC.out, all_at hy, hO, HQ.out]; rfl)
      clear hO hy HC
      cases O
      · obtain rfl : T = false := HC2.out
        go_wp2_with fail
        refine (HBT.out).mono ?_
        rintro e w2 ⟨rfl, rfl⟩
        go_wp2
        go_ret
        exact ⟨rfl, HB.out⟩
      · have HC3 : Hid (T = (W.drop (i + 1)).all (okW p)) := Lib.hid (by rw [HC2.out]; rfl)
        clear HC2
        go_wp2_with fail
        refine (HBT.out).mono ?_
        rintro e w2 ⟨rfl, rfl⟩
        go_wp2
        go_roundw
        case rel => exact ⟨i + 1, by omega, by go_num, HC3, trivial⟩
        case measure => simp [intOf]; omega
    · obtain rfl : i = n := by omega
      obtain rfl : T = true := by rw [HC.out]; exact all_end HN.out
      clear HC
      go_wp2
      go_ret
      exact ⟨rfl, HB.out⟩
end Go.Proofs.YtppbkiajcpdkiaaGreatDoor

namespace Go.Proofs.YtppbkiajcpdkiaaGreatDoor
open Go.RowKit

theorem wpf_no1 {r : Reg} {ps : List (List Cell)} {p : Int} {W : List Int} (h : (r.valid && arePcs ps) = false) : wpfB r ps p W = false := by unfold wpfB; rw [h]; rfl
theorem wpf_no2 {r : Reg} {ps : List (List Cell)} {p : Int} {W : List Int} (h : resB r W p = false) : wpfB r ps p W = false := by unfold wpfB; rw [h, Bool.false_and, Bool.and_false]
theorem wpf_yes {r : Reg} {ps : List (List Cell)} {p : Int} {W : List Int} (h : (r.valid && arePcs ps) = true) (h2 : resB r W p = true) : wpfB r ps p W = wgF r ps W p := by unfold wpfB; rw [h, h2]; rfl
/-- the sum of a mask's weights, modulo p -/
def sm (W : List Int) (p : Int) (m : Nat) : Int := sumW m W W.length % p
theorem wgF_eq {r : Reg} {ps : List (List Cell)} {p : Int} {W : List Int} : wgF r ps W p = ((allN r ps).all (fun m => decide (sm W p m = 0)) && !decide (sm W p r.mask = 0)) := rfl
set_option maxRecDepth 100000 in
set_option maxHeartbeats 3200000 in
theorem impl_wpf_c {v v2 v3 : Value} {r : Reg} {ps : List (List Cell)} {p : Int} {W : List Int} (w : World) (h : RegRd w 0 w.heap.size v r) (h2 : CellSSRd w 0 w.heap.size v2 ps) (h3 : IntsRd w 0 w.heap.size v3 W) (hn : ps.length ≤ 1048576) (hl : ∀ s ∈ ps, s.length ≤ 1048576) :
    Calls Tryz.prog 82 #[v, v2, .int .i64 p, v3] w fun e w' => e = .returned (.bool (wpfB r ps p W)) ∧ Below w.heap.size w w' := by
  have HRD : Hid (∀ w1, Below w.heap.size w w1 → RegRd w1 0 w1.heap.size v r) := Lib.hid fun w1 b1 => (h.keep (SameIn.of_below b1 (Nat.le_refl _))).more (Nat.le_refl _) b1.size
  have HR2 : Hid (∀ w1, Below w.heap.size w w1 → CellSSRd w1 0 w1.heap.size v2 ps) := Lib.hid fun w1 b1 => (h2.keep (SameIn.of_below b1 (Nat.le_refl _))).more (Nat.le_refl _) b1.size
  have HR3 : Hid (∀ w1, Below w.heap.size w w1 → IntsRd w1 0 w1.heap.size v3 W) := Lib.hid fun w1 b1 => (h3.keep (SameIn.of_below b1 (Nat.le_refl _))).more (Nat.le_refl _) b1.size
  obtain ⟨T, hT⟩ : ∃ T, T = wpfB r ps p W := ⟨_, rfl⟩
  rw [← hT]
  have HT := Lib.hid hT
  obtain ⟨sr, rfl, hsr⟩ := h
  obtain ⟨A0, c, rfl, _, _⟩ := hsr
  obtain ⟨vs0, ⟨A2, c2, rfl, _, _⟩, _⟩ := h2
  obtain ⟨A3, c3, rfl, _, _⟩ := id h3
  have H0 := (Sep.start w).box 29 #[.int .i64 r.w, .slice A0 r.rows.length c]
  obtain ⟨g, hg⟩ : ∃ g, g = w.heap.size := ⟨_, rfl⟩
  rw [← hg] at H0
  clear hT h3
  go_enter Tryz.func82, Tryz.ntmps82
  go_upto_region 1 with fail
  rw [← hg]
  generalize (w.alloc (.cells #[.int .i64 r.w, .slice A0 r.rows.length c] 29)) = W1 at *
  clear hg
  have c0 : W1.cell? ⟨g, 0, none⟩ = some (.int .i64 r.w) := H0.h0.cell 0
  have c1 : W1.cell? ⟨g, 1, none⟩ = some (.slice A0 r.rows.length c) := H0.h0.cell 1
  obtain ⟨K, hK⟩ : ∃ K, K = (r.valid && arePcs ps) := ⟨_, rfl⟩
  have HK := Lib.hid hK
  have HP := Lib.hid (impl_prob_c W1 (HRD.out W1 H0.below) (HR2.out W1 H0.below) hn hl)
  rw [← hK] at HP
  clear hK
  go_wp2_with fail
  refine (HP.out).mono ?_
  rintro e w1 ⟨rfl, b1⟩
  have H1 := H0.step b1
  clear c0 c1 H0 HP b1
  cases K
  · obtain rfl : T = false := by rw [HT.out]; exact wpf_no1 HK.out.symm
    go_wp2
    go_ret
    exact ⟨rfl, H1.below⟩
  have hkk := HK.out.symm
  rw [Bool.and_eq_true] at hkk
  have HV := Lib.hid (Reg.valid_iff.1 hkk.1)
  have HAP := Lib.hid hkk.2
  have HPR := Lib.hid (impl_prime_c p w1)
  obtain ⟨P, hP⟩ : ∃ P, P = prm p := ⟨_, rfl⟩
  rw [← hP] at HPR
  have HPM := Lib.hid hP
  clear hkk hP
  cases P
  · obtain rfl : T = false := by rw [HT.out]; exact wpf_no2 (by unfold resB; rw [← HPM.out]; rfl)
    go_wp2_with fail
    refine (HPR.out).mono ?_
    rintro e w2 ⟨rfl, rfl⟩
    go_wp2
    go_ret
    exact ⟨rfl, H1.below⟩
  have HPP := Lib.hid (prm_iff.1 HPM.out.symm)
  have c0 : w1.cell? ⟨g, 0, none⟩ = some (.int .i64 r.w) := H1.h0.cell 0
  have c1 : w1.cell? ⟨g, 1, none⟩ = some (.slice A0 r.rows.length c) := H1.h0.cell 1
  have HSZ := Lib.hid (impl_sizeW_c w1 (HRD.out w1 H1.below) HV.out)
  go_wp2_with fail
  refine (HPR.out).mono ?_
  rintro e w2 ⟨rfl, rfl⟩
  go_wp2_with fail
  refine (HSZ.out).mono ?_
  rintro e w2 ⟨rfl, b2⟩
  have H2 := H1.step b2
  have HAR := Lib.hid (impl_areRes_c (m := (r.size : Int)) w2 (HR3.out w2 H2.below) HPP.out)
  obtain ⟨E, hE⟩ : ∃ E, E = resB r W p := ⟨_, rfl⟩
  have hE2 : (W.all (okW p) && decide ((W.length : Int) = (r.size : Int))) = E := by
    rw [hE, resB, ← HPM.out, ← Reg.size_int HV.out, Bool.true_and, Bool.and_comm]
  rw [hE2] at HAR
  have HE := Lib.hid hE
  clear c0 c1 H1 HPR HSZ b2 hE hE2
  go_wp2_with fail
  refine (HAR.out).mono ?_
  rintro e w3 ⟨rfl, rfl⟩
  clear HAR
  cases E
  · obtain rfl : T = false := by rw [HT.out]; exact wpf_no2 HE.out.symm
    go_wp2
    go_ret
    exact ⟨rfl, H2.below⟩
  have HW := Lib.hid (resB_is HV.out HE.out.symm)
  have HTW : Hid (T = ((allN r ps).all (fun m => decide (sm W p m = 0)) && !decide (sm W p r.mask = 0))) := Lib.hid (by rw [HT.out, wpf_yes HK.out.symm HE.out.symm]; rfl)
  have c0 : w2.cell? ⟨g, 0, none⟩ = some (.int .i64 r.w) := H2.h0.cell 0
  have c1 : w2.cell? ⟨g, 1, none⟩ = some (.slice A0 r.rows.length c) := H2.h0.cell 1
  have HALL := Lib.hid (impl_all_c w2 (HRD.out w2 H2.below) (HR2.out w2 H2.below) HV.out HAP.out)
  rw [← nl_allN HV.out] at HALL
  have HAL := Lib.hid (allN_lenC HV.out HAP.out)
  have HLT := Lib.hid (allN_lt HV.out (ps := ps))
  obtain ⟨A, hA⟩ : ∃ A, A = allN r ps := ⟨_, rfl⟩
  rw [← hA] at HALL HAL HLT HTW
  clear hA
  go_wp2_with fail
  refine (HALL.out).mono ?_
  rintro e w4 ⟨va, rfl, oa, b4⟩
  have H4 := H2.step b4
  have HRA := Lib.hid ((IntsIn.rd oa).more (Nat.zero_le _) (Nat.le_refl _))
  have hlen := HAL.out
  obtain ⟨Aa, ca, rfl, _, _⟩ := IntsIn.rd oa
  obtain ⟨n, hnn⟩ : ∃ n, n = (nl A).length := ⟨_, rfl⟩
  have hnA : n = A.length := by rw [hnn]; simp [nl]
  rw [← hnn] at HRA ⊢
  have hn1440 : n ≤ 1440 := by omega
  have HN := Lib.hid hnA
  have HWC : Hid (∀ m : Nat, m < 2 ^ 36 → Calls Tryz.prog 144 #[.int .i64 (m : Int), .slice A3 W.length c3, .int .i64 p] w4 fun e w' => e = .returned (.int .i64 (sm W p m)) ∧ w4 = w') := Lib.hid fun m hm => weigh_c w4 HPP.out hm (HR3.out w4 H4.below) HW.out.2.2.1 HW.out.2.2.2
  have HT0 : Hid (∀ (j x : Nat), j < 0 → A[j]? = some x → sm W p x = 0) := Lib.hid (fun j x hj => absurd hj (Nat.not_lt_zero _))
  clear c0 c1 H2 HALL b4 oa hlen hnn hnA
  go_wp2
  go_loopw [32] (fun iv wx => ∃ i : Nat, i ≤ n ∧ iv = .int .i64 i ∧ Hid (∀ (j x : Nat), j < i → A[j]? = some x → sm W p x = 0) ∧ w4 = wx) (fun iv _ => n - (intOf iv).toNat)
  case atStart => exact ⟨0, Nat.zero_le _, rfl, HT0, rfl⟩
  case round =>
    clear HT0
    obtain ⟨i, hi, rfl, HC, rfl⟩ := hrel
    by_cases hlt : i < n
    · have hlti : (i : Int) < (n : Int) := by omega
      obtain ⟨m, hm⟩ : ∃ m, A[i]? = some m := ⟨A[i]'(by rw [← HN.out]; exact hlt), List.getElem?_eq_getElem _⟩
      obtain ⟨b, off, hA1, hb, y0⟩ := ints_atZ HRA.out (show (nl A)[i]? = some (m : Int) by simp [nl, hm])
      subst hA1
      have HMM := Lib.hid hm
      have HWG := Lib.hid (HWC.out m (HLT.out m (List.mem_of_getElem? hm)))
      obtain ⟨S, hS⟩ : ∃ S, S = sm W p m := ⟨_, rfl⟩
      rw [← hS] at HWG
      have HS := Lib.hid hS
      clear hm hS
      go_wp2_with fail
      refine (HWG.out).mono ?_
      rintro e w5 ⟨rfl, rfl⟩
      by_cases hz : S = 0
      · have hz1 : (S != 0) = false := by simpa using hz
        have HC2 : Hid (∀ (j x : Nat), j < i + 1 → A[j]? = some x → sm W p x = 0) := Lib.hid (fun j x hj hx => by
          by_cases e : j = i
          · subst e
            rw [HMM.out] at hx
            injection hx with hx
            rw [← hx, ← HS.out]
            exact hz
          · exact HC.out j x (by omega) hx)
        clear hz HWG
        go_wp2
        go_roundw
        case rel => exact ⟨i + 1, by omega, by go_num, HC2, trivial⟩
        case measure => simp [intOf]; omega
      · have hz1 : (S != 0) = true := by simpa using hz
        obtain rfl : T = false := by
          rw [HTW.out]
          have : A.all (fun m => decide (sm W p m = 0)) = false := by
            rw [List.all_eq_false]
            exact ⟨m, List.mem_of_getElem? HMM.out, by rw [← HS.out]; simpa using hz⟩
          rw [this]
          rfl
        clear hz HWG
        go_wp2
        go_ret
        exact ⟨rfl, H4.below⟩
    · obtain rfl : i = n := by omega
      have hall : A.all (fun m => decide (sm W p m = 0)) = true := by
        rw [List.all_eq_true]
        intro x hx
        obtain ⟨j, hj⟩ := List.getElem?_of_mem hx
        simpa using HC.out j x (by have := (List.getElem?_eq_some_iff.1 hj).1; rw [HN.out]; exact this) hj
      have HT2 : Hid (T = !decide (sm W p r.mask = 0)) := Lib.hid (by rw [HTW.out, hall, Bool.true_and])
      have c0 : w4.cell? ⟨g, 0, none⟩ = some (.int .i64 r.w) := H4.h0.cell 0
      have c1 : w4.cell? ⟨g, 1, none⟩ = some (.slice A0 r.rows.length c) := H4.h0.cell 1
      have HMK := Lib.hid (impl_mask_c w4 (HRD.out w4 H4.below) HV.out)
      have HM36 := Lib.hid (Reg.mask_lt HV.out)
      obtain ⟨M, hM⟩ : ∃ M, M = r.mask := ⟨_, rfl⟩
      rw [← hM] at HMK HM36 HT2
      have HWG : Hid (∀ w', Below w.heap.size w w' → Calls Tryz.prog 144 #[.int .i64 (M : Int), .slice A3 W.length c3, .int .i64 p] w' fun e w'' => e = .returned (.int .i64 (sm W p M)) ∧ w' = w'') := Lib.hid fun w' b => weigh_c w' HPP.out HM36.out (HR3.out w' b) HW.out.2.2.1 HW.out.2.2.2
      obtain ⟨S, hS⟩ : ∃ S, S = sm W p M := ⟨_, rfl⟩
      rw [← hS] at HWG HT2
      have hTS : (S != 0) = T := by
        rw [HT2.out]
        by_cases hz : S = 0 <;> simp [hz]
      clear hall hM hS HC
      go_wp2_with fail
      refine (HMK.out).mono ?_
      rintro e w5 ⟨rfl, b5⟩
      have H5 := H4.step b5
      have HW5 := Lib.hid (HWG.out w5 H5.below)
      clear c0 c1 HMK b5 H4 HWG
      go_wp2_with fail
      refine (HW5.out).mono ?_
      rintro e w6 ⟨rfl, rfl⟩
      go_wp2
      go_ret
      exact ⟨rfl, H5.below⟩
set_option maxRecDepth 100000 in
set_option maxHeartbeats 3200000 in
theorem spec_wpf_c {v v2 v3 : Value} {r : Reg} {ps : List (List Cell)} {p : Int} {W : List Int} (w : World) (h : RegRd w 0 w.heap.size v r) (h2 : CellSSRd w 0 w.heap.size v2 ps) (h3 : IntsRd w 0 w.heap.size v3 W) (hn : ps.length ≤ 1048576) (hl : ∀ s ∈ ps, s.length ≤ 1048576) :
    Calls Tryz.prog 70 #[v, v2, .int .i64 p, v3] w fun e w' => e = .returned (.bool (wpfB r ps p W)) ∧ Below w.heap.size w w' := by
  have HRD : Hid (∀ w1, Below w.heap.size w w1 → RegRd w1 0 w1.heap.size v r) := Lib.hid fun w1 b1 => (h.keep (SameIn.of_below b1 (Nat.le_refl _))).more (Nat.le_refl _) b1.size
  have HR2 : Hid (∀ w1, Below w.heap.size w w1 → CellSSRd w1 0 w1.heap.size v2 ps) := Lib.hid fun w1 b1 => (h2.keep (SameIn.of_below b1 (Nat.le_refl _))).more (Nat.le_refl _) b1.size
  have HR3 : Hid (∀ w1, Below w.heap.size w w1 → IntsRd w1 0 w1.heap.size v3 W) := Lib.hid fun w1 b1 => (h3.keep (SameIn.of_below b1 (Nat.le_refl _))).more (Nat.le_refl _) b1.size
  obtain ⟨T, hT⟩ : ∃ T, T = wpfB r ps p W := ⟨_, rfl⟩
  rw [← hT]
  have HT := Lib.hid hT
  obtain ⟨sr, rfl, hsr⟩ := h
  obtain ⟨A0, c, rfl, _, _⟩ := hsr
  obtain ⟨vs0, ⟨A2, c2, rfl, _, _⟩, _⟩ := h2
  obtain ⟨A3, c3, rfl, _, _⟩ := id h3
  have H0 := (Sep.start w).box 29 #[.int .i64 r.w, .slice A0 r.rows.length c]
  obtain ⟨g, hg⟩ : ∃ g, g = w.heap.size := ⟨_, rfl⟩
  rw [← hg] at H0
  clear hT h3
  go_enter Tryz.func70, Tryz.ntmps70
  go_upto_region 1 with fail
  rw [← hg]
  generalize (w.alloc (.cells #[.int .i64 r.w, .slice A0 r.rows.length c] 29)) = W1 at *
  clear hg
  have c0 : W1.cell? ⟨g, 0, none⟩ = some (.int .i64 r.w) := H0.h0.cell 0
  have c1 : W1.cell? ⟨g, 1, none⟩ = some (.slice A0 r.rows.length c) := H0.h0.cell 1
  have hgl : g < W1.heap.size := H0.h0.lt
  have HB0 := Lib.hid H0.below
  obtain ⟨K1, hK1⟩ : ∃ K, K = (r.valid && resB r W p) := ⟨_, rfl⟩
  obtain ⟨K2, hK2⟩ : ∃ K, K = arePcs ps := ⟨_, rfl⟩
  have HK1 := Lib.hid hK1
  have HK2 := Lib.hid hK2
  have HTR : Hid (∀ w', Below W1.heap.size W1 w' → Below w.heap.size w w') := Lib.hid fun w' b => HB0.out.trans (b.mono HB0.out.size)
  have HL1 : Hid (∀ u : Later W1, Calls Tryz.prog 132 #[.agg #[.int .i64 r.w, .slice A0 r.rows.length c], .slice A3 W.length c3, .int .i64 p] u.w fun e w'' => e = .returned (.bool K1) ∧ Below u.w.heap.size u.w w'') := Lib.hid fun u => by rw [hK1]; exact spec_areG_c u.w (HRD.out u.w (HTR.out u.w u.h)) (HR3.out u.w (HTR.out u.w u.h))
  have HL2 : Hid (∀ u : Later W1, Calls Tryz.prog 106 #[.slice A2 ps.length c2] u.w fun e w'' => e = .returned (.bool K2) ∧ Below u.w.heap.size u.w w'') := Lib.hid fun u => by rw [hK2]; exact spec_arePcs_c u.w (HR2.out u.w (HTR.out u.w u.h)) hn hl
  clear hK1 hK2
  cases K1
  · obtain rfl : T = false := by
      rw [HT.out]
      cases hv : r.valid
      · exact wpf_no1 (by rw [hv]; rfl)
      · exact wpf_no2 (by have := HK1.out; rw [hv, Bool.true_and] at this; exact this.symm)
    have HL3 : Hid True := Lib.hid trivial
    have HL4 : Hid True := Lib.hid trivial
    have l0 := Later.cell c0 hgl
    have l1 := Later.cell c1 hgl
    clear c0 c1
    refine wp_region_later (by kernel_rfl) (by kernel_rfl) ?_
    repeat (go_big_quiet_step ((first
      | (go_at_call 132; with_reducible exact Later.call (HL1.out _))
      | (go_at_call 106; with_reducible exact Later.call (HL2.out _)))))
    refine wpQuiet_nil ?_
    intro w5 hw5
    obtain ⟨u5, hu5⟩ := hw5
    subst hu5
    have H1 := H0.later u5
    clear l0 l1 HL1 HL2 HL3 HL4 H0
    generalize u5.w = w1 at *
    go_wp2
    go_ret
    exact ⟨rfl, H1.below⟩
  cases K2
  · obtain rfl : T = false := by rw [HT.out]; exact wpf_no1 (by rw [← HK2.out, Bool.and_false])
    have HL3 : Hid True := Lib.hid trivial
    have HL4 : Hid True := Lib.hid trivial
    have l0 := Later.cell c0 hgl
    have l1 := Later.cell c1 hgl
    clear c0 c1
    refine wp_region_later (by kernel_rfl) (by kernel_rfl) ?_
    repeat (go_big_quiet_step ((first
      | (go_at_call 132; with_reducible exact Later.call (HL1.out _))
      | (go_at_call 106; with_reducible exact Later.call (HL2.out _)))))
    refine wpQuiet_nil ?_
    intro w5 hw5
    obtain ⟨u5, hu5⟩ := hw5
    subst hu5
    have H1 := H0.later u5
    clear l0 l1 HL1 HL2 HL3 HL4 H0
    generalize u5.w = w1 at *
    go_wp2
    go_ret
    exact ⟨rfl, H1.below⟩
  have hkk := HK1.out.symm
  rw [Bool.and_eq_true] at hkk
  have HV := Lib.hid (Reg.valid_iff.1 hkk.1)
  have HAP : Hid (arePcs ps = true) := Lib.hid HK2.out.symm
  have HPV : Hid ((r.valid && arePcs ps) = true) := Lib.hid (by rw [hkk.1, HAP.out]; rfl)
  have HRS := Lib.hid hkk.2
  have HW := Lib.hid (resB_is HV.out hkk.2)
  have HTW : Hid (T = ((allN r ps).all (fun m => decide (sm W p m = 0)) && !decide (sm W p r.mask = 0))) := Lib.hid (by rw [HT.out, wpf_yes HPV.out HRS.out]; rfl)
  have HM36 := Lib.hid (Reg.mask_lt HV.out)
  have HSM : Hid (∀ w' (m : Nat), Below w.heap.size w w' → m < 2 ^ 36 → m &&& r.mask = m → Calls Tryz.prog 133 #[.agg #[.int .i64 r.w, .slice A0 r.rows.length c], .int .i64 (m : Int), .slice A3 W.length c3, .int .i64 p] w' fun e w'' => e = .returned (.int .i64 (sm W p m)) ∧ Below w'.heap.size w' w'') := Lib.hid fun w' m b hm hmr => spec_sum_c w' (HRD.out w' b) HV.out (HR3.out w' b) HW.out.1 HW.out.2.1 HW.out.2.2.1 HW.out.2.2.2 hm hmr
  obtain ⟨M, hM⟩ : ∃ M, M = r.mask := ⟨_, rfl⟩
  obtain ⟨S, hS⟩ : ∃ S, S = sm W p M := ⟨_, rfl⟩
  have HL3 : Hid (∀ u : Later W1, Calls Tryz.prog 57 #[.agg #[.int .i64 r.w, .slice A0 r.rows.length c]] u.w fun e w'' => e = .returned (.int .i64 (M : Int)) ∧ Below u.w.heap.size u.w w'') := Lib.hid fun u => by rw [hM]; exact spec_mask_c u.w (HRD.out u.w (HTR.out u.w u.h)) HV.out
  have HL4 : Hid (∀ u : Later W1, Calls Tryz.prog 133 #[.agg #[.int .i64 r.w, .slice A0 r.rows.length c], .int .i64 (M : Int), .slice A3 W.length c3, .int .i64 p] u.w fun e w'' => e = .returned (.int .i64 S) ∧ Below u.w.heap.size u.w w'') := Lib.hid fun u => by rw [hS, hM]; exact HSM.out u.w r.mask (HTR.out u.w u.h) HM36.out (Nat.and_self _)
  rw [← hM, ← hS] at HTW
  clear hkk hM hS
  by_cases hz : S = 0
  · have hz1 : (S == 0) = true := by simpa using hz
    obtain rfl : T = false := by rw [HTW.out, decide_eq_true hz, Bool.not_true, Bool.and_false]
    clear hz
    have l0 := Later.cell c0 hgl
    have l1 := Later.cell c1 hgl
    clear c0 c1
    refine wp_region_later (by kernel_rfl) (by kernel_rfl) ?_
    repeat (go_big_quiet_step ((first
      | (go_at_call 132; with_reducible exact Later.call (HL1.out _))
      | (go_at_call 106; with_reducible exact Later.call (HL2.out _))
      | (go_at_call 57; with_reducible exact Later.call (HL3.out _))
      | (go_at_call 133; with_reducible exact Later.call (HL4.out _)))))
    refine wpQuiet_nil ?_
    intro w5 hw5
    obtain ⟨u5, hu5⟩ := hw5
    subst hu5
    have H1 := H0.later u5
    clear l0 l1 HL1 HL2 HL3 HL4 H0
    generalize u5.w = w1 at *
    go_wp2
    go_ret
    exact ⟨rfl, H1.below⟩
  have hz1 : (S == 0) = false := by simpa using hz
  have HTW2 : Hid (T = (allN r ps).all (fun m => decide (sm W p m = 0))) := Lib.hid (by rw [HTW.out, decide_eq_false hz, Bool.not_false, Bool.and_true])
  clear hz
  have l0 := Later.cell c0 hgl
  have l1 := Later.cell c1 hgl
  clear c0 c1
  refine wp_region_later (by kernel_rfl) (by kernel_rfl) ?_
  repeat (go_big_quiet_step ((first
    | (go_at_call 132; with_reducible exact Later.call (HL1.out _))
    | (go_at_call 106; with_reducible exact Later.call (HL2.out _))
    | (go_at_call 57; with_reducible exact Later.call (HL3.out _))
    | (go_at_call 133; with_reducible exact Later.call (HL4.out _)))))
  refine wpQuiet_nil ?_
  intro w5 hw5
  obtain ⟨u5, hu5⟩ := hw5
  subst hu5
  have H1 := H0.later u5
  clear l0 l1 HL1 HL2 HL3 HL4 H0
  generalize u5.w = w1 at *
  have c0 : w1.cell? ⟨g, 0, none⟩ = some (.int .i64 r.w) := H1.h0.cell 0
  have c1 : w1.cell? ⟨g, 1, none⟩ = some (.slice A0 r.rows.length c) := H1.h0.cell 1
  have HALL := Lib.hid (spec_all_c w1 (HRD.out w1 H1.below) (HR2.out w1 H1.below) HV.out HAP.out)
  rw [← nl_allN HV.out] at HALL
  have HAL := Lib.hid (allN_lenC HV.out HAP.out)
  have HLT := Lib.hid (allN_lt HV.out (ps := ps))
  have HSB : Hid (∀ m ∈ allN r ps, m &&& r.mask = m) := Lib.hid (fun m hm => (allN_sub HV.out HAP.out m hm).1)
  obtain ⟨A, hA⟩ : ∃ A, A = allN r ps := ⟨_, rfl⟩
  rw [← hA] at HALL HAL HLT HTW2 HSB
  clear hA
  go_wp2_with fail
  refine (HALL.out).mono ?_
  rintro e w4 ⟨va, rfl, oa, b4⟩
  have H4 := H1.step b4
  have HRA : Hid (∀ w', Below w4.heap.size w4 w' → IntsRd w' 0 w'.heap.size va (nl A)) := Lib.hid fun w' b => ((((IntsIn.rd oa).more (Nat.zero_le _) (Nat.le_refl _)).keep (SameIn.of_below b (Nat.le_refl _))).more (Nat.le_refl _) b.size)
  have hlen := HAL.out
  obtain ⟨Aa, ca, rfl, _, _⟩ := IntsIn.rd oa
  obtain ⟨n, hnn⟩ : ∃ n, n = (nl A).length := ⟨_, rfl⟩
  have hnA : n = A.length := by rw [hnn]; simp [nl]
  rw [← hnn] at HRA ⊢
  have hn1440 : n ≤ 1440 := by omega
  have HN := Lib.hid hnA
  have HB4 := Lib.hid H4.below
  have HT0 : Hid (∀ (j x : Nat), j < 0 → A[j]? = some x → sm W p x = 0) := Lib.hid (fun j x hj => absurd hj (Nat.not_lt_zero _))
  have HO0 : Hid (Below w4.heap.size w4 w4) := Lib.hid (Below.refl _ _)
  clear c0 c1 H1 HALL b4 oa hlen hnn hnA hgl
  go_wp2
  go_loopw [10] (fun iv wx => ∃ i : Nat, i ≤ n ∧ iv = .int .i64 i ∧ Hid (∀ (j x : Nat), j < i → A[j]? = some x → sm W p x = 0) ∧ Hid (Below w4.heap.size w4 wx)) (fun iv _ => n - (intOf iv).toNat)
  case atStart => exact ⟨0, Nat.zero_le _, rfl, HT0, HO0⟩
  case round =>
    clear HT0 HO0
    obtain ⟨i, hi, rfl, HC, HO⟩ := hrel
    have HSP := H4.step HO.out
    by_cases hlt : i < n
    · have hlti : (i : Int) < (n : Int) := by omega
      obtain ⟨m, hm⟩ : ∃ m, A[i]? = some m := ⟨A[i]'(by rw [← HN.out]; exact hlt), List.getElem?_eq_getElem _⟩
      obtain ⟨b, off, hA1, hb, y0⟩ := ints_atZ (HRA.out wr HO.out) (show (nl A)[i]? = some (m : Int) by simp [nl, hm])
      subst hA1
      have HMM := Lib.hid hm
      have hmm := List.mem_of_getElem? hm
      have l2 := Later.cell y0 hb
      have l0 := Later.cell (p := ⟨g, 0, none⟩) (v := .int .i64 r.w) (W := wr) (HSP.h0.cell 0) HSP.h0.lt
      have l1 := Later.cell (p := ⟨g, 1, none⟩) (v := .slice A0 r.rows.length c) (W := wr) (HSP.h0.cell 1) HSP.h0.lt
      obtain ⟨S2, hS⟩ : ∃ S, S = sm W p m := ⟨_, rfl⟩
      have HLS : Hid (∀ u : Later wr, Calls Tryz.prog 133 #[.agg #[.int .i64 r.w, .slice A0 r.rows.length c], .int .i64 (m : Int), .slice A3 W.length c3, .int .i64 p] u.w fun e w'' => e = .returned (.int .i64 S2) ∧ Below u.w.heap.size u.w w'') := Lib.hid fun u => by
        rw [hS]
        exact HSM.out u.w m (HSP.below.trans (u.h.mono HSP.size)) (HLT.out m hmm) (HSB.out m hmm)
      have HS := Lib.hid hS
      have HBW := Lib.hid HSP.below
      clear hm hS y0 hmm
      by_cases hz : S2 = 0
      · have hz1 : (S2 != 0) = false := by simpa using hz
        have HC2 : Hid (∀ (j x : Nat), j < i + 1 → A[j]? = some x → sm W p x = 0) := Lib.hid (fun j x hj hx => by
          by_cases e : j = i
          · subst e
            rw [HMM.out] at hx
            injection hx with hx
            rw [← hx, ← HS.out]
            exact hz
          · exact HC.out j x (by omega) hx)
        clear hz
        go_wp2_with fail
        refine wp_region_later (by kernel_rfl) (by kernel_rfl) ?_
        repeat (go_big_quiet_step ((go_at_call 133; with_reducible exact Later.call (HLS.out _))))
        refine wpQuiet_nil ?_
        intro w5 hw5
        obtain ⟨u5, hu5⟩ := hw5
        subst hu5
        have hb5 := u5.h
        clear l0 l1 l2 HLS HSP
        generalize u5.w = w5 at *
        have HO5 : Hid (Below w4.heap.size w4 w5) := Lib.hid (HO.out.trans (hb5.mono HO.out.size))
        clear hb5
        go_wp2
        go_roundw
        case rel => exact ⟨i + 1, by omega, by go_num, HC2, HO5⟩
        case measure => simp [intOf]; omega
      · have hz1 : (S2 != 0) = true := by simpa using hz
        obtain rfl : T = false := by
          rw [HTW2.out, List.all_eq_false]
          exact ⟨m, List.mem_of_getElem? HMM.out, by rw [← HS.out]; simpa using hz⟩
        clear hz
        go_wp2_with fail
        refine wp_region_later (by kernel_rfl) (by kernel_rfl) ?_
        repeat (go_big_quiet_step ((go_at_call 133; with_reducible exact Later.call (HLS.out _))))
        refine wpQuiet_nil ?_
        intro w5 hw5
        obtain ⟨u5, hu5⟩ := hw5
        subst hu5
        have hb5 := u5.h
        clear l0 l1 l2 HLS HSP
        generalize u5.w = w5 at *
        have HO5 := Lib.hid (HBW.out.trans (hb5.mono HBW.out.size))
        clear hb5
        go_wp2
        go_ret
        exact ⟨rfl, HO5.out⟩
    · obtain rfl : i = n := by omega
      obtain rfl : T = true := by
        rw [HTW2.out, List.all_eq_true]
        intro x hx
        obtain ⟨j, hj⟩ := List.getElem?_of_mem hx
        simpa using HC.out j x (by have := (List.getElem?_eq_some_iff.1 hj).1; rw [HN.out]; exact this) hj
      have hb := HSP.below
      clear HSP
      go_wp2
      go_ret
      exact ⟨rfl, hb⟩
end Go.Proofs.YtppbkiajcpdkiaaGreatDoor
