
/-
  Words that lead back: plain; one step under any letter. Words that lead back: the walks of both sides. The area inside a word: both walks. The turns of a word: both walks. The walks of both number writers at a single digit. A word's runs, written: plain. A word's runs, written: both walks, for runs of at most nine.
-/
import Derived.Test.YtghpkfihdcjlaaaGreatDoorBdW
import Derived.Test.YtghpkfihdcjlaaaGreatDoorBdB
import Derived.Test.YtghpkfihdcjlaaaGreatDoorMapCell
import Derived.Deep.DeepCutAuto
import Derived.Test.YtghpkfihdcjlaaaGreatDoorProg
import Derived.Test.YtghpkfihdcjlaaaGreatDoorCwWalks
import Derived.Laws.IdiomStrings
namespace Go.Proofs.YtghpkfihdcjlaaaGreatDoor
open Go.RowKit

def okL (w : List UInt8) : Bool := w.all fun u => decide (dirN u < 4)
def clB (w : List UInt8) : Bool := decide (w.length ≤ 40) && (okL w && decide (wayW w w.length = ⟨0, 0⟩))
def stepU (c : Cell) (u : UInt8) : Cell := if dirN u < 4 then stepC c (dirN u) else c
theorem dir_cases (u : UInt8) : (u = 114 ∧ dirN u = 0) ∨ (u = 100 ∧ dirN u = 1) ∨ (u = 108 ∧ dirN u = 2) ∨ (u = 117 ∧ dirN u = 3) ∨ (¬ u = 114 ∧ ¬ u = 100 ∧ ¬ u = 108 ∧ ¬ u = 117 ∧ dirN u = 4) := by
  by_cases h1 : u = 114
  · subst h1; exact .inl ⟨rfl, rfl⟩
  by_cases h2 : u = 100
  · subst h2; exact .inr (.inl ⟨rfl, rfl⟩)
  by_cases h3 : u = 108
  · subst h3; exact .inr (.inr (.inl ⟨rfl, rfl⟩))
  by_cases h4 : u = 117
  · subst h4; exact .inr (.inr (.inr (.inl ⟨rfl, rfl⟩)))
  · exact .inr (.inr (.inr (.inr ⟨h1, h2, h3, h4, by unfold dirN; rw [if_neg h1, if_neg h2, if_neg h3, if_neg h4]⟩)))
theorem dirN_le (u : UInt8) : dirN u ≤ 4 := by
  rcases dir_cases u with ⟨_, h⟩ | ⟨_, h⟩ | ⟨_, h⟩ | ⟨_, h⟩ | ⟨_, _, _, _, h⟩ <;> omega
theorem dirB_U {u : UInt8} (h : dirN u < 4) : (u.toNat : Int) = dirB (dirN u) := by
  rcases dir_cases u with ⟨rfl, _⟩ | ⟨rfl, _⟩ | ⟨rfl, _⟩ | ⟨rfl, _⟩ | ⟨_, _, _, _, h⟩
  · rfl
  · rfl
  · rfl
  · rfl
  · omega
theorem dir_bad {u : UInt8} (h : ¬ dirN u < 4) : ¬ (u.toNat : Int) = 114 ∧ ¬ (u.toNat : Int) = 100 ∧ ¬ (u.toNat : Int) = 108 ∧ ¬ (u.toNat : Int) = 117 := by
  have key : ∀ v : UInt8, ¬ u = v → ¬ (u.toNat : Int) = (v.toNat : Int) := fun v hv e => hv (UInt8.toNat_inj.1 (by omega))
  rcases dir_cases u with ⟨_, h'⟩ | ⟨_, h'⟩ | ⟨_, h'⟩ | ⟨_, h'⟩ | ⟨h1, h2, h3, h4, _⟩
  · omega
  · omega
  · omega
  · omega
  · exact ⟨key 114 h1, key 100 h2, key 108 h3, key 117 h4⟩
theorem wayW_at {w : List UInt8} {i : Nat} {u : UInt8} (h : w[i]? = some u) : wayW w (i + 1) = stepC (wayW w i) (dirN u) := by rw [wayW, h]
theorem wayW_ok {w : List UInt8} {i : Nat} {u : UInt8} (h : w[i]? = some u) (hd : dirN u < 4) : wayW w (i + 1) = stepU (wayW w i) u := by rw [wayW_at h, stepU, if_pos hd]
theorem stepC_bd (c : Cell) (d : Nat) : (c.x - 1 ≤ (stepC c d).x ∧ (stepC c d).x ≤ c.x + 1) ∧ (c.y - 1 ≤ (stepC c d).y ∧ (stepC c d).y ≤ c.y + 1) := by
  unfold stepC
  split <;> simp only <;> omega
theorem wayW_bd (w : List UInt8) : ∀ i : Nat, (-(i : Int) ≤ (wayW w i).x ∧ (wayW w i).x ≤ i) ∧ (-(i : Int) ≤ (wayW w i).y ∧ (wayW w i).y ≤ i)
  | 0 => by simp [wayW]
  | i + 1 => by
    have ih := wayW_bd w i
    rw [wayW]
    cases w[i]? with
    | none => simp only; omega
    | some u =>
      have := stepC_bd (wayW w i) (dirN u)
      simp only
      omega
/-- the first places of a word -/
def wayL (w : List UInt8) (n : Nat) : List Cell := (List.range n).map (wayW w)
theorem wayL_len {w : List UInt8} {n : Nat} : (wayL w n).length = n := by simp [wayL]
theorem wayL_at {w : List UInt8} {n i : Nat} (h : i < n) : (wayL w n)[i]? = some (wayW w i) := by
  unfold wayL
  rw [List.getElem?_map, List.getElem?_range h]; rfl
theorem wayL_succ {w : List UInt8} {n : Nat} : wayL w (n + 1) = wayL w n ++ [wayW w n] := by simp [wayL, List.range_succ]
theorem okL_take {w : List UInt8} {i : Nat} {u : UInt8} (h : w[i]? = some u) (hi : okL (w.take i) = true) (hd : dirN u < 4) : okL (w.take (i + 1)) = true := by
  unfold okL at *
  rw [List.take_add_one, h, List.all_append, hi]
  simp [hd]
theorem okL_bad {w : List UInt8} {i : Nat} {u : UInt8} (h : w[i]? = some u) (hd : ¬ dirN u < 4) : okL w = false := by
  rw [Bool.eq_false_iff]
  intro h2
  unfold okL at h2
  rw [List.all_eq_true] at h2
  exact hd (of_decide_eq_true (h2 u (List.mem_of_getElem? h)))
theorem okL_at {w : List UInt8} {i : Nat} {u : UInt8} (h : w[i]? = some u) (hw : okL w = true) : dirN u < 4 := by
  unfold okL at hw
  rw [List.all_eq_true] at hw
  exact of_decide_eq_true (hw u (List.mem_of_getElem? h))
theorem clB_iff {w : List UInt8} : clB w = true ↔ w.length ≤ 40 ∧ okL w = true ∧ wayW w w.length = ⟨0, 0⟩ := by
  unfold clB
  rw [Bool.and_eq_true, Bool.and_eq_true, decide_eq_true_iff, decide_eq_true_iff]
theorem clB_long {w : List UInt8} (h : ¬ w.length ≤ 40) : clB w = false := by unfold clB; rw [decide_eq_false h, Bool.false_and]
theorem clB_bad {w : List UInt8} (h : okL w = false) : clB w = false := by unfold clB; rw [h, Bool.false_and, Bool.and_false]
theorem clB_ok {w : List UInt8} (h : w.length ≤ 40) (h2 : okL w = true) : clB w = decide (wayW w w.length = ⟨0, 0⟩) := by unfold clB; rw [decide_eq_true h, h2, Bool.true_and, Bool.true_and]
theorem wstr_at {W : List UInt8} {i : Nat} {u : UInt8} {B : ByteArray} (hB : B = wstr W) (h : W[i]? = some u) : ∃ hk : i < B.size, ((B[i]'hk).toNat : Int) = (u.toNat : Int) := by
  subst hB
  obtain ⟨hi, rfl⟩ := List.getElem?_eq_some_iff.1 h
  exact ⟨by rw [wstr_size]; exact hi, rfl⟩
set_option maxRecDepth 100000 in
set_option maxHeartbeats 800000 in
theorem impl_stepU_c (c : Cell) (u : UInt8) (w : World) (hx : -100 ≤ c.x ∧ c.x ≤ 100) (hy : -100 ≤ c.y ∧ c.y ≤ 100) :
    Calls Tryz.prog 29 #[.agg #[.int .i64 c.x, .int .i64 c.y], .int .u8 (u.toNat : Int)] w fun e w' => e = .returned (.tuple #[.agg #[.int .i64 (stepU c u).x, .int .i64 (stepU c u).y], .bool (decide (dirN u < 4))]) ∧ Below w.heap.size w w' := by
  by_cases h : dirN u < 4
  · rw [stepU, if_pos h, decide_eq_true h, dirB_U h]
    exact impl_step_c c (dirN u) w h hx hy
  · rw [stepU, if_neg h, decide_eq_false h]
    obtain ⟨h1, h2, h3, h4⟩ := dir_bad h
    obtain ⟨b, hb⟩ : ∃ b : Int, b = (u.toNat : Int) := ⟨_, rfl⟩
    rw [← hb] at h1 h2 h3 h4 ⊢
    have e1 : (b == 114) = false := beq_eq_false_iff_ne.2 h1
    have e2 : (b == 100) = false := beq_eq_false_iff_ne.2 h2
    have e3 : (b == 108) = false := beq_eq_false_iff_ne.2 h3
    have e4 : (b == 117) = false := beq_eq_false_iff_ne.2 h4
    clear hb h h1 h2 h3 h4
    have H1 := ((Sep.start w).box 46 #[.int .i64 c.x, .int .i64 c.y]).box 46 #[.int .i64 c.x, .int .i64 c.y]
    simp only [World.size_alloc] at H1
    go_enter Tryz.func29, Tryz.ntmps29
    go_wp2
    refine bodyPost_ret (v := .tuple #[.agg #[.int .i64 c.x, .int .i64 c.y], .bool false]) (results_ct Tryz.results29 _ _ (w.heap.size + 1) 46 _ _ _ rfl H1.h0 Tryz.underlying46 rfl (by kernel_rfl)) rfl ?_
    exact ⟨rfl, H1.below⟩
set_option maxRecDepth 100000 in
set_option maxHeartbeats 800000 in
theorem spec_stepU_c (c : Cell) (u : UInt8) (w : World) (hx : -100 ≤ c.x ∧ c.x ≤ 100) (hy : -100 ≤ c.y ∧ c.y ≤ 100) :
    Calls Tryz.prog 33 #[.agg #[.int .i64 c.x, .int .i64 c.y], .int .u8 (u.toNat : Int)] w fun e w' => e = .returned (.tuple #[.agg #[.int .i64 (stepU c u).x, .int .i64 (stepU c u).y], .bool (decide (dirN u < 4))]) ∧ Below w.heap.size w w' := by
  by_cases h : dirN u < 4
  · rw [stepU, if_pos h, decide_eq_true h, dirB_U h]
    exact spec_step_c c (dirN u) w h hx hy
  · rw [stepU, if_neg h, decide_eq_false h]
    obtain ⟨h1, h2, h3, h4⟩ := dir_bad h
    obtain ⟨b, hb⟩ : ∃ b : Int, b = (u.toNat : Int) := ⟨_, rfl⟩
    rw [← hb] at h1 h2 h3 h4 ⊢
    have e1 : (b == 114) = false := beq_eq_false_iff_ne.2 h1
    have e2 : (b == 100) = false := beq_eq_false_iff_ne.2 h2
    have e3 : (b == 108) = false := beq_eq_false_iff_ne.2 h3
    have e4 : (b == 117) = false := beq_eq_false_iff_ne.2 h4
    clear hb h h1 h2 h3 h4
    have H1 := ((Sep.start w).box 46 #[.int .i64 c.x, .int .i64 c.y]).box 46 #[.int .i64 c.x, .int .i64 c.y]
    simp only [World.size_alloc] at H1
    go_enter Tryz.func33, Tryz.ntmps33
    go_wp2
    refine bodyPost_ret (v := .tuple #[.agg #[.int .i64 c.x, .int .i64 c.y], .bool false]) (results_ct Tryz.results33 _ _ (w.heap.size + 1) 46 _ _ _ rfl H1.h0 Tryz.underlying46 rfl (by kernel_rfl)) rfl ?_
    exact ⟨rfl, H1.below⟩
end Go.Proofs.YtghpkfihdcjlaaaGreatDoor

namespace Go.Proofs.YtghpkfihdcjlaaaGreatDoor
open Go.RowKit

set_option maxRecDepth 100000 in
theorem infoCellW : (Tryz.prog.info? 46).map (fun i => (i.zero, i.size, i.bytes)) = some (some (.agg #[.int .i64 0, .int .i64 0]), 2, 16) := by kernel_rfl
set_option maxRecDepth 100000 in
set_option maxHeartbeats 3200000 in
theorem impl_wayOf_c {W : List UInt8} (w : World) :
    Calls Tryz.prog 60 #[.string (wstr W), .int .i64 40] w fun e w' => ∃ v, e = .returned (.tuple #[v, .bool (decide (W.length ≤ 40) && okL W)]) ∧ ((decide (W.length ≤ 40) && okL W) = true → CellsIn w' w.heap.size w'.heap.size v (wayL W (W.length + 1))) ∧ (∃ A n c, v = .slice A n c) ∧ Below w.heap.size w w' := by
  obtain ⟨i0, hi, hz0, hz1, hz2⟩ := info_parts infoCellW
  have hsz : (wstr W).size = W.length := wstr_size
  obtain ⟨B, hB⟩ : ∃ B, B = wstr W := ⟨_, rfl⟩
  rw [← hB] at hsz ⊢
  have HB := Lib.hid hB
  obtain ⟨R, hR⟩ : ∃ R, R = (decide (W.length ≤ 40) && okL W) := ⟨_, rfl⟩
  rw [← hR]
  have HR := Lib.hid hR
  obtain ⟨n, hn⟩ : ∃ n, n = W.length := ⟨_, rfl⟩
  rw [← hn] at hsz ⊢
  have HN := Lib.hid hn
  clear hB hR hn
  by_cases h40 : n ≤ 40
  case neg =>
    have HRF : Hid (R = false) := Lib.hid (by rw [HR.out, ← HN.out, decide_eq_false h40, Bool.false_and])
    obtain rfl : R = false := HRF.out
    have hd : decide ((40 : Int) < (n : Int)) = true := decide_eq_true (by omega)
    have hd2 : (40 : Int) < (n : Int) := by omega
    clear HRF
    go_enter Tryz.func60, Tryz.ntmps60
    go_wp2
    refine bodyPost_ret (results_tmp2 rfl _ _ _) rfl ?_
    first | exact ⟨_, rfl, ⟨_, _, _, rfl⟩, Below.refl _ _⟩ | exact ⟨_, rfl, (fun h => by cases h), ⟨_, _, _, rfl⟩, Below.refl _ _⟩
  have hd : decide ((40 : Int) < (n : Int)) = false := decide_eq_false (by omega)
  have hd2 : ¬ (40 : Int) < (n : Int) := by omega
  have H0 := (Sep.start w).rowBox 46 #[.int .i64 0, .int .i64 0] 2 1 rfl (by decide)
  go_enter Tryz.func60, Tryz.ntmps60
  go_wp2
  generalize w.alloc (.cells #[.int .i64 0, .int .i64 0] 46) = W0 at *
  go_loopw [6, 7] (fun sv iv wr => ∃ i : Nat, i ≤ n ∧ iv = .int .i64 i ∧ Hid (okL (W.take i) = true) ∧ Sep w wr [Res.row sv 46 2 (i + 1) (cc (wayL W (i + 1)))]) (fun _ iv _ => n - (intOf iv).toNat)
  case atStart => exact ⟨0, Nat.zero_le _, rfl, Lib.hid rfl, H0⟩
  case round =>
    clear H0
    obtain ⟨i, hin, rfl, HOK, H⟩ := hrel
    by_cases hlt : i < n
    · have hlti : (i : Int) < (n : Int) := by omega
      obtain ⟨u, hu⟩ : ∃ u, W[i]? = some u := ⟨W[i]'(by rw [← HN.out]; exact hlt), List.getElem?_eq_getElem _⟩
      obtain ⟨hk2, hbk⟩ := wstr_at HB.out hu
      obtain ⟨b, hb⟩ : ∃ b : Int, b = (u.toNat : Int) := ⟨_, rfl⟩
      rw [← hb] at hbk
      obtain ⟨p, hp⟩ : ∃ p, p = wayW W i := ⟨_, rfl⟩
      obtain ⟨q, hq⟩ : ∃ q, q = stepU p u := ⟨_, rfl⟩
      obtain ⟨g, hg⟩ : ∃ g, g = decide (dirN u < 4) := ⟨_, rfl⟩
      have hbd := wayW_bd W i
      rw [← hp] at hbd
      have HST : Hid (∀ w', Calls Tryz.prog 29 #[.agg #[.int .i64 p.x, .int .i64 p.y], .int .u8 b] w' fun e w'' => e = .returned (.tuple #[.agg #[.int .i64 q.x, .int .i64 q.y], .bool g]) ∧ Below w'.heap.size w' w'') := Lib.hid fun w' => by
        rw [hq, hb, hg]
        exact impl_stepU_c p u w' (by omega) (by omega)
      have hpa : (wayL W (i + 1))[i]? = some p := by rw [wayL_at (by omega), hp]
      obtain ⟨A, ca, rfl, hcn, hcm, _⟩ := Res.row_at H.h0
      obtain ⟨bs, os, cs2, hAe, _, _, _⟩ := own_shape H.h0 (by omega)
      injection hAe with hAe _ hcc
      subst hAe; subst hcc
      obtain ⟨rfl, _⟩ := own_blk H.h0
      obtain ⟨q1, q2⟩ := row_at2 H.h0 hpa
      rw [Nat.zero_add] at q1 q2
      have HU := Lib.hid hu
      have HQ := Lib.hid hq
      have HP := Lib.hid hp
      have HG := Lib.hid hg
      clear hu hb hq hp hg hbd hpa
      have hbl : bs < wr.heap.size := by obtain ⟨_, _, hB, _⟩ := own_blk H.h0; exact hB.lt
      have h0i : (0 : Int) ≤ (i : Int) := by omega
      have h1i : (i : Int) < ((i + 1 : Nat) : Int) := by omega
      have h2i : (i : Int) < (i : Int) + 1 := by omega
      go_upto_region 7 with fail
      go_region_held3 (fun w' => w'.cell? ⟨bs, i * 2, none⟩ = some (.int .i64 p.x) ∧ w'.cell? ⟨bs, i * 2 + 1, none⟩ = some (.int .i64 p.y))
        (first | ((try dsimp only); refine ⟨?_, ?_⟩ <;> assumption) | go_keep)
        ((first
          | (go_at_call 29; (with_reducible refine (HST.out _).mono ?_); rintro e w3 ⟨rfl, b3⟩; replace b3 := below_undrew b3; have H3 := H.step b3; have hpb : (wayL W (i + 1))[i]? = some p := (by rw [wayL_at (by omega), HP.out]); obtain ⟨k0', k1'⟩ := row_at2 H3.h0 hpb; rw [Nat.zero_add] at k0' k1')
          | (go_at_call 29; (with_reducible refine (HST.out _).mono ?_); rintro e w3 ⟨rfl, b3⟩; have H3 := (H.box 46 #[.int .i64 0, .int .i64 0]).drew.step b3; have hpb : (wayL W (i + 1))[i]? = some p := (by rw [wayL_at (by omega), HP.out]); obtain ⟨k0', k1'⟩ := row_at2 H3.h1 hpb; rw [Nat.zero_add] at k0' k1'; have g0' := H3.h0.cell 0; have g1' := H3.h0.cell 1; have f0' := H3.h0.frozen 0; have f1' := H3.h0.frozen 1; simp at g0' g1'; have H4 := (H3.set_ 0 (.int .i64 q.x)).set_ 1 (.int .i64 q.y); obtain ⟨k0'', k1''⟩ := row_at2 H4.h1 hpb; rw [Nat.zero_add] at k0'' k1'')))
      · have H8 := H3.box 46 #[.int .i64 q.x, .int .i64 q.y]
        clear H H3 b3 q1 q2 k0' k1' HST
        generalize hW8 : w3.alloc (.cells #[.int .i64 q.x, .int .i64 q.y] 46) = W8 at *
        generalize hgn : w3.heap.size = gn at *
        clear hW8 hgn
        cases g
        case false =>
          have HRF : Hid (R = false) := Lib.hid (by rw [HR.out, okL_bad HU.out (of_decide_eq_false HG.out.symm), Bool.and_false])
          obtain rfl : R = false := HRF.out
          have hbe := H8.below
          clear H8
          go_wp2
          refine bodyPost_ret (results_tmp2 rfl _ _ _) rfl ?_
          first | exact ⟨_, rfl, ⟨_, _, _, rfl⟩, hbe⟩ | exact ⟨_, rfl, (fun h => by cases h), ⟨_, _, _, rfl⟩, hbe⟩
        case true =>
          have hlt4 := of_decide_eq_true HG.out.symm
          have HOK2 : Hid (okL (W.take (i + 1)) = true) := Lib.hid (okL_take HU.out HOK.out hlt4)
          have HQW : Hid (q = wayW W (i + 1)) := Lib.hid (by rw [HQ.out, HP.out]; exact (wayW_ok HU.out hlt4).symm)
          have k0 : W8.cell? ⟨gn, 0, none⟩ = some (.int .i64 q.x) := H8.h0.cell 0
          have k1 : W8.cell? ⟨gn, 1, none⟩ = some (.int .i64 q.y) := H8.h0.cell 1
          have H9 := H8.drop
          clear H8 hlt4
          go_wp2_with (at_builtin; refine wpList_app rfl _ _ 24 rfl 46 i0 _ 2 16 Tryz.underlying24 hi hz0 hz1 hz2 rfl (by decide) _ _ _ rfl (H9.alloc _) _ _ _ [.int .i64 q.x, .int .i64 q.y] rfl (Rd.fresh W8 _ #[.int .i64 q.x, .int .i64 q.y] 2 1 rfl) oc2 (by unfold maxLen; omega) (by omega) ?_; intro v3 w3' H3; clear H9 k0 k1)
          have H4 : Sep w w3' [Res.row v3 46 2 (i + 1 + 1) (cc (wayL W (i + 1 + 1)))] := by
            rw [wayL_succ (n := i + 1), cc_append, ← HQW.out]
            exact H3
          clear H3
          go_roundw
          case rel => exact ⟨i + 1, by omega, by go_num, HOK2, H4⟩
          case measure => simp [intOf]; omega
      all_goals
        have H8 := H4
        clear H H3 H4 b3 q1 q2 k0' k1' g0' g1' f0' f1' k0'' k1'' HST
        generalize hW8 : (w3.setCell ⟨wr.heap.size, 0, none⟩ (.int .i64 q.x)).setCell ⟨wr.heap.size, 1, none⟩ (.int .i64 q.y) = W8 at *
        generalize hgn : wr.heap.size = gn at *
        clear hW8 hgn
        cases g
        case false =>
          have HRF : Hid (R = false) := Lib.hid (by rw [HR.out, okL_bad HU.out (of_decide_eq_false HG.out.symm), Bool.and_false])
          obtain rfl : R = false := HRF.out
          have hbe := H8.below
          clear H8
          go_wp2
          refine bodyPost_ret (results_tmp2 rfl _ _ _) rfl ?_
          first | exact ⟨_, rfl, ⟨_, _, _, rfl⟩, hbe⟩ | exact ⟨_, rfl, (fun h => by cases h), ⟨_, _, _, rfl⟩, hbe⟩
        case true =>
          have hlt4 := of_decide_eq_true HG.out.symm
          have HOK2 : Hid (okL (W.take (i + 1)) = true) := Lib.hid (okL_take HU.out HOK.out hlt4)
          have HQW : Hid (q = wayW W (i + 1)) := Lib.hid (by rw [HQ.out, HP.out]; exact (wayW_ok HU.out hlt4).symm)
          have k0 : W8.cell? ⟨gn, 0, none⟩ = some (.int .i64 q.x) := H8.h0.cell 0
          have k1 : W8.cell? ⟨gn, 1, none⟩ = some (.int .i64 q.y) := H8.h0.cell 1
          have H9 := H8.drop
          clear H8 hlt4
          go_wp2_with (at_builtin; refine wpList_app rfl _ _ 24 rfl 46 i0 _ 2 16 Tryz.underlying24 hi hz0 hz1 hz2 rfl (by decide) _ _ _ rfl (H9.alloc _) _ _ _ [.int .i64 q.x, .int .i64 q.y] rfl (Rd.fresh W8 _ #[.int .i64 q.x, .int .i64 q.y] 2 1 rfl) oc2 (by unfold maxLen; omega) (by omega) ?_; intro v3 w3' H3; clear H9 k0 k1)
          have H4 : Sep w w3' [Res.row v3 46 2 (i + 1 + 1) (cc (wayL W (i + 1 + 1)))] := by
            rw [wayL_succ (n := i + 1), cc_append, ← HQW.out]
            exact H3
          clear H3
          go_roundw
          case rel => exact ⟨i + 1, by omega, by go_num, HOK2, H4⟩
          case measure => simp [intOf]; omega
    · obtain rfl : i = n := by omega
      have HRF : Hid (R = true) := Lib.hid (by
        have h2 := HOK.out
        rw [HN.out, List.take_length] at h2
        rw [HR.out, ← HN.out, decide_eq_true h40, h2]
        rfl)
      obtain rfl : R = true := HRF.out
      obtain ⟨A, ca, rfl, hcn, hcm, _⟩ := Res.row_at H.h0
      clear HRF
      go_wp2
      refine bodyPost_ret (results_tmp2 rfl _ _ _) rfl ?_
      first | exact ⟨_, rfl, CellsIn.mk H.oi.1 wayL_len.symm rfl, ⟨_, _, _, rfl⟩, H.below⟩ | exact ⟨_, rfl, (fun _ => CellsIn.mk H.oi.1 wayL_len.symm rfl), ⟨_, _, _, rfl⟩, H.below⟩
set_option maxRecDepth 100000 in
set_option maxHeartbeats 1600000 in
theorem impl_closed_c {W : List UInt8} (w : World) :
    Calls Tryz.prog 35 #[.string (wstr W)] w fun e w' => ∃ v, e = .returned (.tuple #[v, .bool (clB W)]) ∧ (clB W = true → CellsIn w' w.heap.size w'.heap.size v (wayL W (W.length + 1))) ∧ (∃ A n c, v = .slice A n c) ∧ Below w.heap.size w w' := by
  have HW := Lib.hid (impl_wayOf_c (W := W) w)
  obtain ⟨B, hB⟩ : ∃ B, B = wstr W := ⟨_, rfl⟩
  rw [← hB] at HW ⊢
  obtain ⟨R, hR⟩ : ∃ R, R = (decide (W.length ≤ 40) && okL W) := ⟨_, rfl⟩
  rw [← hR] at HW
  obtain ⟨C, hC⟩ : ∃ C, C = clB W := ⟨_, rfl⟩
  rw [← hC]
  have HR := Lib.hid hR
  have HC := Lib.hid hC
  clear hB hR hC
  go_enter Tryz.func35, Tryz.ntmps35
  go_wp2_with fail
  refine (HW.out).mono ?_
  rintro e w1 ⟨v, rfl, ho, ⟨A, n, c, rfl⟩, b1⟩
  cases R
  case false =>
    have HRF : Hid (C = false) := Lib.hid (by
      rw [HC.out, clB, ← Bool.and_assoc, ← HR.out, Bool.false_and])
    obtain rfl : C = false := HRF.out
    clear HRF ho HW
    go_wp2_with fail
    go_quiet (fail)
    have hb := below_drewN b1 nq
    generalize w1.drewN nq = w2 at *
    go_wp2
    refine bodyPost_ret (results_tmp2 rfl _ _ _) rfl ?_
    first | exact ⟨_, rfl, ⟨_, _, _, rfl⟩, hb⟩ | exact ⟨_, rfl, (fun h => by cases h), ⟨_, _, _, rfl⟩, hb⟩
  case true =>
    have hO := ho rfl
    have HO := Lib.hid hO
    have HL40 : Hid (W.length ≤ 40) := Lib.hid (by
      have h2 := HR.out.symm
      rw [Bool.and_eq_true, decide_eq_true_iff] at h2
      exact h2.1)
    obtain ⟨p, hp⟩ : ∃ p, p = wayW W W.length := ⟨_, rfl⟩
    obtain ⟨g, hg⟩ : ∃ g, g = decide (p = ⟨0, 0⟩) := ⟨_, rfl⟩
    have HRF : Hid (C = g) := Lib.hid (by
      rw [HC.out, clB, ← Bool.and_assoc, ← HR.out, Bool.true_and, hg, hp])
    obtain rfl : C = g := HRF.out
    have H1 := (Sep.start w).oiNew b1 hO
    have hn : n = W.length + 1 := by
      have := H1.h0
      obtain ⟨A', c', e, _⟩ := Res.row_at this
      injection e with _ e2
      rw [e2, wayL_len]
    subst hn
    have hn40 := HL40.out
    obtain ⟨m, hm⟩ : ∃ m, m = W.length := ⟨_, rfl⟩
    have hpa : (wayL W (W.length + 1))[W.length]? = some p := by rw [wayL_at (by omega), hp]
    rw [wayL_len] at H1
    have HOO : Hid (CellsIn w1 w.heap.size w1.heap.size (.slice A (W.length + 1) c) (wayL W (W.length + 1))) := HO
    obtain ⟨bs, os, cs2, hAe, _, _, _⟩ := own_shape H1.h0 (by omega)
    injection hAe with hAe _ hcc
    subst hAe; subst hcc
    obtain ⟨rfl, _⟩ := own_blk H1.h0
    obtain ⟨q1, q2⟩ := row_at2 H1.h0 hpa
    rw [Nat.zero_add, ← hm] at q1 q2
    have hb1 := H1.below
    obtain ⟨N1, hN1⟩ : ∃ N1, N1 = W.length + 1 := ⟨_, rfl⟩
    rw [← hm] at hn40
    rw [← hN1] at HOO ⊢
    have hNm : N1 = m + 1 := by omega
    have e1 : wrap64 ((N1 : Int) - 1) = (m : Int) := by rw [IntWalk.wrap64_in _ (by omega)]; omega
    have e2 : IntKind.i64.wrap ((N1 : Int) - 1) = (m : Int) := by rw [IntWalk.i64_in _ (by omega)]; omega
    have h0i : (0 : Int) ≤ (m : Int) := by omega
    have h1i : (m : Int) < (N1 : Int) := by omega
    clear hNm
    have HCV : Hid (C = (decide (p.x = 0) && decide (p.y = 0))) := Lib.hid (by
      rw [hg, Bool.eq_iff_iff, Bool.and_eq_true, decide_eq_true_iff, decide_eq_true_iff, decide_eq_true_iff]
      cases p
      simp)
    have HN1 := Lib.hid hN1
    clear HW ho hO HO HRF HL40 H1 hpa hm hp hg b1 HR HC hN1
    go_wp2_with fail
    refine wp_region_quiet_lit (by kernel_rfl) (by kernel_rfl) ?_
    repeat (go_big_quiet_step (fail))
    go_big_quiet_want
    go_big_quiet_op
    refine ⟨.bool C, fun aa => ?_, ?_⟩
    · by_cases hx : p.x = 0
      · by_cases hy : p.y = 0
        · have hc : C = true := by rw [HCV.out]; simp [hx, hy]
          simp [hx, hy, hc]
        · have hc : C = false := by rw [HCV.out]; simp [hy]
          simp [hx, hy, hc]
      · have hc : C = false := by rw [HCV.out]; simp [hx]
        simp [hx, hc]
    go_big_quiet_on
    repeat (go_big_quiet_step (fail))
    refine wpQuiet_nil ?_
    intro _ hwq'
    obtain ⟨nq, hwq''⟩ := hwq'
    subst hwq''
    have hb := below_drewN hb1 nq
    have HO2 : Hid (CellsIn (w1.drewN nq) w.heap.size (w1.drewN nq).heap.size (.slice (some ⟨bs, 0, none⟩) N1 c) (wayL W N1)) := Lib.hid HOO.out
    generalize w1.drewN nq = w2 at *
    clear q1 q2 e1 e2 HOO
    go_wp2
    refine bodyPost_ret (results_tmp2 rfl _ _ _) rfl ?_
    exact ⟨_, rfl, (fun _ => by rw [← HN1.out]; exact HO2.out), ⟨_, _, _, rfl⟩, hb⟩
set_option maxRecDepth 100000 in
set_option maxHeartbeats 800000 in
theorem impl_isClosed_c {W : List UInt8} (w : World) :
    Calls Tryz.prog 13 #[.string (wstr W)] w fun e w' => e = .returned (.bool (clB W)) ∧ Below w.heap.size w w' := by
  have HW := Lib.hid (impl_closed_c (W := W) w)
  obtain ⟨B, hB⟩ : ∃ B, B = wstr W := ⟨_, rfl⟩
  rw [← hB] at HW ⊢
  obtain ⟨C, hC⟩ : ∃ C, C = clB W := ⟨_, rfl⟩
  rw [← hC] at HW ⊢
  clear hB hC
  go_enter Tryz.func13, Tryz.ntmps13
  go_wp2_with fail
  refine (HW.out).mono ?_
  rintro e w1 ⟨v, rfl, _, ⟨A, n, c, rfl⟩, b1⟩
  go_wp2
  go_ret
  exact ⟨rfl, b1⟩
set_option maxRecDepth 100000 in
set_option maxHeartbeats 3200000 in
theorem spec_isClosed_c {W : List UInt8} (w : World) :
    Calls Tryz.prog 20 #[.string (wstr W)] w fun e w' => e = .returned (.bool (clB W)) ∧ Below w.heap.size w w' := by
  have hsz : (wstr W).size = W.length := wstr_size
  obtain ⟨B, hB⟩ : ∃ B, B = wstr W := ⟨_, rfl⟩
  rw [← hB] at hsz ⊢
  have HB := Lib.hid hB
  obtain ⟨R, hR⟩ : ∃ R, R = clB W := ⟨_, rfl⟩
  rw [← hR]
  have HR := Lib.hid hR
  obtain ⟨n, hn⟩ : ∃ n, n = W.length := ⟨_, rfl⟩
  rw [← hn] at hsz
  have HN := Lib.hid hn
  have H0 := (Sep.start w).box 46 #[.int .i64 0, .int .i64 0]
  obtain ⟨ga, hga⟩ : ∃ ga, ga = w.heap.size := ⟨_, rfl⟩
  rw [← hga] at H0
  clear hB hR hn
  go_enter Tryz.func20, Tryz.ntmps20
  go_upto_region 2 with fail
  rw [← hga]
  generalize w.alloc (.cells #[.int .i64 0, .int .i64 0] 46) = W0 at *
  by_cases h40 : n ≤ 40
  case neg =>
    have HRF : Hid (R = false) := Lib.hid (by rw [HR.out]; exact clB_long (by rw [← HN.out]; exact h40))
    obtain rfl : R = false := HRF.out
    have hd0 : decide ((0 : Int) < (n : Int)) = true := decide_eq_true (by omega)
    have hd1 : (0 : Int) < (n : Int) := by omega
    have hd : decide ((n : Int) ≤ 40) = false := decide_eq_false (by omega)
    have hd2 : ¬ (n : Int) ≤ 40 := by omega
    clear HRF
    go_wp2
    go_loopw [4] (fun iv wr => iv = .int .i64 0 ∧ Sep w wr [Res.box ga 46 #[.int .i64 0, .int .i64 0]]) (fun _ _ => 0)
    case atStart => exact ⟨rfl, H0⟩
    case round =>
      clear H0
      obtain ⟨rfl, H⟩ := hrel
      have hbe := H.below
      clear H
      go_wp2
      go_ret
      exact ⟨rfl, hbe⟩
  have hd : decide ((n : Int) ≤ 40) = true := decide_eq_true (by omega)
  have hd2 : (n : Int) ≤ 40 := by omega
  clear hga
  go_wp2
  go_loopw [4] (fun iv wr => ∃ (i : Nat) (p : Cell), i ≤ n ∧ iv = .int .i64 i ∧ Hid (p = wayW W i) ∧ Hid (okL (W.take i) = true) ∧ Sep w wr [Res.box ga 46 #[.int .i64 p.x, .int .i64 p.y]]) (fun iv _ => n - (intOf iv).toNat)
  case atStart => exact ⟨0, ⟨0, 0⟩, Nat.zero_le _, rfl, Lib.hid rfl, Lib.hid rfl, H0⟩
  case round =>
    clear H0
    obtain ⟨i, p, hin, rfl, HP, HOK, H⟩ := hrel
    by_cases hlt : i < n
    · have hlti : (i : Int) < (n : Int) := by omega
      have hltd : decide ((i : Int) < (n : Int)) = true := decide_eq_true hlti
      obtain ⟨u, hu⟩ : ∃ u, W[i]? = some u := ⟨W[i]'(by rw [← HN.out]; exact hlt), List.getElem?_eq_getElem _⟩
      obtain ⟨hk2, hbk⟩ := wstr_at HB.out hu
      obtain ⟨b, hb⟩ : ∃ b : Int, b = (u.toNat : Int) := ⟨_, rfl⟩
      rw [← hb] at hbk
      obtain ⟨q, hq⟩ : ∃ q, q = stepU p u := ⟨_, rfl⟩
      obtain ⟨g, hg⟩ : ∃ g, g = decide (dirN u < 4) := ⟨_, rfl⟩
      have hbd := wayW_bd W i
      rw [← HP.out] at hbd
      have HST : Hid (∀ w', Calls Tryz.prog 33 #[.agg #[.int .i64 p.x, .int .i64 p.y], .int .u8 b] w' fun e w'' => e = .returned (.tuple #[.agg #[.int .i64 q.x, .int .i64 q.y], .bool g]) ∧ Below w'.heap.size w' w'') := Lib.hid fun w' => by
        rw [hq, hb, hg]
        exact spec_stepU_c p u w' (by omega) (by omega)
      have HU := Lib.hid hu
      have HQ := Lib.hid hq
      have HG := Lib.hid hg
      clear hu hb hq hg hbd
      have k0 : wr.cell? ⟨ga, 0, none⟩ = some (.int .i64 p.x) := H.h0.cell 0
      have k1 : wr.cell? ⟨ga, 1, none⟩ = some (.int .i64 p.y) := H.h0.cell 1
      have hgl : ga < wr.heap.size := H.h0.lt
      go_upto_region 5 with fail
      go_region_held3 (fun w' => w'.cell? ⟨ga, 0, none⟩ = some (.int .i64 p.x) ∧ w'.cell? ⟨ga, 1, none⟩ = some (.int .i64 p.y))
        (first | ((try dsimp only); refine ⟨?_, ?_⟩ <;> assumption) | go_keep)
        ((first
          | (go_at_call 33; (with_reducible refine (HST.out _).mono ?_); rintro e w3 ⟨rfl, b3⟩; replace b3 := below_undrew b3; have H3 := H.step b3; have k0' := H3.h0.cell 0; have k1' := H3.h0.cell 1; simp at k0' k1')
          | (go_at_call 33; (with_reducible refine (HST.out _).mono ?_); rintro e w3 ⟨rfl, b3⟩; have H3 := (H.box 46 #[.int .i64 0, .int .i64 0]).drew.step b3; have k0' := H3.h1.cell 0; have k1' := H3.h1.cell 1; have g0' := H3.h0.cell 0; have g1' := H3.h0.cell 1; have f0' := H3.h0.frozen 0; have f1' := H3.h0.frozen 1; simp at k0' k1' g0' g1'; have H4 := (H3.set_ 0 (.int .i64 q.x)).set_ 1 (.int .i64 q.y); have k0'' := H4.h1.cell 0; have k1'' := H4.h1.cell 1; simp at k0'' k1'')))
      · have H8 := H3.box 46 #[.int .i64 q.x, .int .i64 q.y]
        clear H H3 b3 k0 k1 k0' k1' HST
        generalize hW8 : w3.alloc (.cells #[.int .i64 q.x, .int .i64 q.y] 46) = W8 at *
        generalize hgn : w3.heap.size = gn at *
        clear hW8 hgn
        cases g
        case false =>
          have HRF : Hid (R = false) := Lib.hid (by rw [HR.out, clB_bad (okL_bad HU.out (of_decide_eq_false HG.out.symm))])
          obtain rfl : R = false := HRF.out
          have hbe := H8.below
          clear H8
          go_wp2
          go_ret
          exact ⟨rfl, hbe⟩
        case true =>
          have hlt4 := of_decide_eq_true HG.out.symm
          have HOK2 : Hid (okL (W.take (i + 1)) = true) := Lib.hid (okL_take HU.out HOK.out hlt4)
          have HQW : Hid (q = wayW W (i + 1)) := Lib.hid (by rw [HQ.out, HP.out]; exact (wayW_ok HU.out hlt4).symm)
          have k0 : W8.cell? ⟨gn, 0, none⟩ = some (.int .i64 q.x) := H8.h0.cell 0
          have k1 : W8.cell? ⟨gn, 1, none⟩ = some (.int .i64 q.y) := H8.h0.cell 1
          have k2 : W8.cell? ⟨ga, 0, none⟩ = some (.int .i64 p.x) := H8.h1.cell 0
          have k3 : W8.cell? ⟨ga, 1, none⟩ = some (.int .i64 p.y) := H8.h1.cell 1
          have f0 := H8.h1.frozen 0
          have f1 := H8.h1.frozen 1
          have H9 := (((H8.g1.set_ 0 (.int .i64 q.x)).set_ 1 (.int .i64 q.y))).g1.drop
          clear H8 hlt4
          go_wp2
          clear f0 f1 k0 k1 k2 k3
          go_roundw
          case rel => exact ⟨i + 1, q, by omega, by go_num, HQW, HOK2, H9⟩
          case measure => simp [intOf]; omega
      all_goals
        have H8 := H4
        clear H H3 H4 b3 k0 k1 k0' k1' g0' g1' f0' f1' k0'' k1'' HST
        generalize hW8 : (w3.setCell ⟨wr.heap.size, 0, none⟩ (.int .i64 q.x)).setCell ⟨wr.heap.size, 1, none⟩ (.int .i64 q.y) = W8 at *
        generalize hgn : wr.heap.size = gn at *
        clear hW8 hgn
        cases g
        case false =>
          have HRF : Hid (R = false) := Lib.hid (by rw [HR.out, clB_bad (okL_bad HU.out (of_decide_eq_false HG.out.symm))])
          obtain rfl : R = false := HRF.out
          have hbe := H8.below
          clear H8
          go_wp2
          go_ret
          exact ⟨rfl, hbe⟩
        case true =>
          have hlt4 := of_decide_eq_true HG.out.symm
          have HOK2 : Hid (okL (W.take (i + 1)) = true) := Lib.hid (okL_take HU.out HOK.out hlt4)
          have HQW : Hid (q = wayW W (i + 1)) := Lib.hid (by rw [HQ.out, HP.out]; exact (wayW_ok HU.out hlt4).symm)
          have k0 : W8.cell? ⟨gn, 0, none⟩ = some (.int .i64 q.x) := H8.h0.cell 0
          have k1 : W8.cell? ⟨gn, 1, none⟩ = some (.int .i64 q.y) := H8.h0.cell 1
          have k2 : W8.cell? ⟨ga, 0, none⟩ = some (.int .i64 p.x) := H8.h1.cell 0
          have k3 : W8.cell? ⟨ga, 1, none⟩ = some (.int .i64 p.y) := H8.h1.cell 1
          have f0 := H8.h1.frozen 0
          have f1 := H8.h1.frozen 1
          have H9 := (((H8.g1.set_ 0 (.int .i64 q.x)).set_ 1 (.int .i64 q.y))).g1.drop
          clear H8 hlt4
          go_wp2
          clear f0 f1 k0 k1 k2 k3
          go_roundw
          case rel => exact ⟨i + 1, q, by omega, by go_num, HQW, HOK2, H9⟩
          case measure => simp [intOf]; omega
    · obtain rfl : i = n := by omega
      have hltd : decide ((i : Int) < (i : Int)) = false := decide_eq_false (by omega)
      obtain ⟨g, hg⟩ : ∃ g, g = decide (p = ⟨0, 0⟩) := ⟨_, rfl⟩
      have HRF : Hid (R = g) := Lib.hid (by
        have h2 := HOK.out
        rw [HN.out, List.take_length] at h2
        rw [HR.out, clB_ok (by rw [← HN.out]; exact h40) h2, hg, HP.out, HN.out])
      obtain rfl : R = g := HRF.out
      have HCV : Hid (R = (decide (p.x = 0) && decide (p.y = 0))) := Lib.hid (by
        rw [hg, Bool.eq_iff_iff, Bool.and_eq_true, decide_eq_true_iff, decide_eq_true_iff, decide_eq_true_iff]
        cases p
        simp)
      have k0 : wr.cell? ⟨ga, 0, none⟩ = some (.int .i64 p.x) := H.h0.cell 0
      have k1 : wr.cell? ⟨ga, 1, none⟩ = some (.int .i64 p.y) := H.h0.cell 1
      have hbe := H.below
      clear H HRF hg HR HP
      by_cases hx : p.x = 0
      · by_cases hy : p.y = 0
        · obtain rfl : R = true := by rw [HCV.out]; simp [hx, hy]
          go_wp2
          go_ret
          exact ⟨rfl, hbe⟩
        · obtain rfl : R = false := by rw [HCV.out]; simp [hy]
          go_wp2
          go_ret
          exact ⟨rfl, hbe⟩
      · obtain rfl : R = false := by rw [HCV.out]; simp [hx]
        go_wp2
        go_ret
        exact ⟨rfl, hbe⟩
end Go.Proofs.YtghpkfihdcjlaaaGreatDoor

namespace Go.Proofs.YtghpkfihdcjlaaaGreatDoor
open Go.RowKit

/-- what the first i letters add -/
def arTo (w : List UInt8) (i : Nat) : Int := sumB areaS w i
def arZ (w : List UInt8) : Int := if clB w then arTo w w.length else 0
theorem arTo_at {w : List UInt8} {i : Nat} {u : UInt8} (h : w[i]? = some u) : arTo w (i + 1) = arTo w i + areaS (wayW w i) (dirN u) := by
  unfold arTo
  rw [sumB, h]
theorem arTo_ver {w : List UInt8} {i : Nat} {u : UInt8} (h : w[i]? = some u) (hd : dirN u = 1 ∨ dirN u = 3) : arTo w (i + 1) = arTo w i := by
  rw [arTo_at h, areaS]
  rcases hd with e | e <;> rw [e] <;> simp [bI]
theorem arTo_left {w : List UInt8} {i : Nat} {u : UInt8} (h : w[i]? = some u) (hd : dirN u = 2) : arTo w (i + 1) = arTo w i + (wayW w i).y := by
  rw [arTo_at h, areaS, hd]
  simp [bI]
theorem arTo_right {w : List UInt8} {i : Nat} {u : UInt8} (h : w[i]? = some u) (hd : dirN u = 0) : arTo w (i + 1) = arTo w i - (wayW w i).y := by
  rw [arTo_at h, areaS, hd]
  simp [bI]
  omega
theorem arTo_bd (w : List UInt8) : ∀ i : Nat, i ≤ 40 → -(40 * (i : Int)) ≤ arTo w i ∧ arTo w i ≤ 40 * (i : Int)
  | 0, _ => by simp [arTo, sumB]
  | i + 1, hi => by
    have ih := arTo_bd w i (by omega)
    have hb := wayW_bd w i
    cases hu : w[i]? with
    | none =>
      have e : arTo w (i + 1) = arTo w i + 0 := by unfold arTo; rw [sumB, hu]
      omega
    | some u =>
      rcases dir_cases u with ⟨_, h⟩ | ⟨_, h⟩ | ⟨_, h⟩ | ⟨_, h⟩ | ⟨_, _, _, _, h⟩
      · rw [arTo_right hu h]; omega
      · rw [arTo_ver hu (.inl h)]; omega
      · rw [arTo_left hu h]; omega
      · rw [arTo_ver hu (.inr h)]; omega
      · have e : arTo w (i + 1) = arTo w i := by rw [arTo_at hu, areaS, h]; simp [bI]
        omega
set_option maxRecDepth 100000 in
set_option maxHeartbeats 3200000 in
theorem impl_area_c {W : List UInt8} (w : World) :
    Calls Tryz.prog 8 #[.string (wstr W)] w fun e w' => e = .returned (.tuple #[.int .i64 (arZ W), .bool (clB W)]) ∧ Below w.heap.size w w' := by
  have HCW := Lib.hid (impl_closed_c (W := W) w)
  have hsz : (wstr W).size = W.length := wstr_size
  obtain ⟨B, hB⟩ : ∃ B, B = wstr W := ⟨_, rfl⟩
  rw [← hB] at hsz HCW ⊢
  have HB := Lib.hid hB
  obtain ⟨C, hC⟩ : ∃ C, C = clB W := ⟨_, rfl⟩
  obtain ⟨Z, hZ⟩ : ∃ Z, Z = arZ W := ⟨_, rfl⟩
  rw [← hC, ← hZ]
  rw [← hC] at HCW
  have HC := Lib.hid hC
  have HZ := Lib.hid hZ
  clear hB hC hZ
  go_enter Tryz.func8, Tryz.ntmps8
  go_wp2_with fail
  refine (HCW.out).mono ?_
  rintro e w1 ⟨v, rfl, ho, ⟨A, nn, c, rfl⟩, b1⟩
  clear HCW
  cases C
  case false =>
    obtain rfl : Z = 0 := by rw [HZ.out, arZ, ← HC.out]; rfl
    clear ho
    go_wp2
    refine bodyPost_ret (results_tmp2 rfl _ _ _) rfl ?_
    exact ⟨rfl, b1⟩
  obtain ⟨hn40, hokl, _⟩ := clB_iff.1 HC.out.symm
  have HOK := Lib.hid hokl
  have HZA : Hid (Z = arTo W W.length) := Lib.hid (by rw [HZ.out, arZ, ← HC.out]; rfl)
  have H0 := (Sep.start w).oiNew b1 (ho rfl)
  obtain ⟨A', c', hAe, _, _, _⟩ := Res.row_at H0.h0
  injection hAe with e1 e2 e3
  subst e1; subst e2; subst e3
  obtain ⟨bs, os, cs2, hAe, _, _, _⟩ := own_shape H0.h0 (by rw [wayL_len]; omega)
  injection hAe with hAe _ hcc
  subst hAe; subst hcc
  obtain ⟨rfl, _⟩ := own_blk H0.h0
  rw [wayL_len] at H0 ⊢
  obtain ⟨n, hn⟩ : ∃ n, n = W.length := ⟨_, rfl⟩
  have HN := Lib.hid hn
  rw [← hn] at H0 hsz hn40 HZA ⊢
  clear hn hokl ho b1
  go_wp2
  go_loopw [6, 17] (fun av iv wr => ∃ (i : Nat) (a : Int), i ≤ n ∧ iv = .int .i64 i ∧ av = .int .i64 a ∧ Hid (a = arTo W i) ∧ Sep w wr [Res.row (.slice (some ⟨bs, 0, none⟩) (n + 1) c) 46 2 (n + 1) (cc (wayL W (n + 1)))]) (fun _ iv _ => n - (intOf iv).toNat)
  case atStart => exact ⟨0, 0, Nat.zero_le _, rfl, rfl, Lib.hid rfl, H0⟩
  case round =>
    clear H0
    obtain ⟨i, a, hin, rfl, rfl, HAI, H⟩ := hrel
    by_cases hlt : i < n
    · have hlti : (i : Int) < (n : Int) := by omega
      obtain ⟨u, hu⟩ : ∃ u, W[i]? = some u := ⟨W[i]'(by rw [← HN.out]; exact hlt), List.getElem?_eq_getElem _⟩
      obtain ⟨hk2, hbk⟩ := wstr_at HB.out hu
      obtain ⟨p, hp⟩ : ∃ p, p = wayW W i := ⟨_, rfl⟩
      have hpa : (wayL W (n + 1))[i]? = some p := by rw [wayL_at (by omega), hp]
      obtain ⟨q1, q2⟩ := row_at2 H.h0 hpa
      rw [Nat.zero_add] at q1 q2
      have hbd := wayW_bd W i
      rw [← hp] at hbd
      have hab := arTo_bd W i (by omega)
      rw [← HAI.out] at hab
      have HP := Lib.hid hp
      have hd4 := okL_at hu HOK.out
      have HU := Lib.hid hu
      clear hp hpa hu
      rcases dir_cases u with ⟨rfl, hd⟩ | ⟨rfl, hd⟩ | ⟨rfl, hd⟩ | ⟨rfl, hd⟩ | ⟨_, _, _, _, hd⟩
      ·
        clear hd4 hd
        have hbn : ((B[i]'hk2).toNat : Int) = 114 := by rw [hbk]; rfl
        have HA2 : Hid (arTo W (i + 1) = a - p.y) := Lib.hid (by rw [arTo_right HU.out rfl]; try rw [HAI.out, HP.out])
        have m1 : wrap64 (a - p.y) = a - p.y := IntWalk.wrap64_in _ (by omega)
        clear hbk
        go_wp2
        go_roundw
        case rel => exact ⟨i + 1, _, by omega, by go_num, rfl, Lib.hid HA2.out.symm, H⟩
        case measure => simp [intOf]; omega
      ·
        clear hd4 hd
        have hbn : ((B[i]'hk2).toNat : Int) = 100 := by rw [hbk]; rfl
        have HA2 : Hid (arTo W (i + 1) = a) := Lib.hid (by rw [arTo_ver HU.out (.inl rfl), HAI.out]; try rw [HAI.out, HP.out])
        skip
        clear hbk
        go_wp2
        go_roundw
        case rel => exact ⟨i + 1, _, by omega, by go_num, rfl, Lib.hid HA2.out.symm, H⟩
        case measure => simp [intOf]; omega
      ·
        clear hd4 hd
        have hbn : ((B[i]'hk2).toNat : Int) = 108 := by rw [hbk]; rfl
        have HA2 : Hid (arTo W (i + 1) = a + p.y) := Lib.hid (by rw [arTo_left HU.out rfl]; try rw [HAI.out, HP.out])
        have m1 : wrap64 (a + p.y) = a + p.y := IntWalk.wrap64_in _ (by omega)
        clear hbk
        go_wp2
        go_roundw
        case rel => exact ⟨i + 1, _, by omega, by go_num, rfl, Lib.hid HA2.out.symm, H⟩
        case measure => simp [intOf]; omega
      ·
        clear hd4 hd
        have hbn : ((B[i]'hk2).toNat : Int) = 117 := by rw [hbk]; rfl
        have HA2 : Hid (arTo W (i + 1) = a) := Lib.hid (by rw [arTo_ver HU.out (.inr rfl), HAI.out]; try rw [HAI.out, HP.out])
        skip
        clear hbk
        go_wp2
        go_roundw
        case rel => exact ⟨i + 1, _, by omega, by go_num, rfl, Lib.hid HA2.out.symm, H⟩
        case measure => simp [intOf]; omega
      · omega
    · obtain rfl : i = n := by omega
      obtain rfl : Z = a := HZA.out.trans HAI.out.symm
      have hbe := H.below
      clear H
      go_wp2
      refine bodyPost_ret (results_tmp2 rfl _ _ _) rfl ?_
      exact ⟨rfl, hbe⟩
set_option maxRecDepth 100000 in
set_option maxHeartbeats 3200000 in
theorem spec_area_c {W : List UInt8} (w : World) :
    Calls Tryz.prog 16 #[.string (wstr W)] w fun e w' => e = .returned (.tuple #[.int .i64 (arZ W), .bool (clB W)]) ∧ Below w.heap.size w w' := by
  have HCW := Lib.hid (spec_isClosed_c (W := W) w)
  have hsz : (wstr W).size = W.length := wstr_size
  obtain ⟨B, hB⟩ : ∃ B, B = wstr W := ⟨_, rfl⟩
  rw [← hB] at hsz HCW ⊢
  have HB := Lib.hid hB
  obtain ⟨C, hC⟩ : ∃ C, C = clB W := ⟨_, rfl⟩
  obtain ⟨Z, hZ⟩ : ∃ Z, Z = arZ W := ⟨_, rfl⟩
  rw [← hC, ← hZ]
  rw [← hC] at HCW
  have HC := Lib.hid hC
  have HZ := Lib.hid hZ
  clear hB hC hZ
  go_enter Tryz.func16, Tryz.ntmps16
  go_wp2_with fail
  refine (HCW.out).mono ?_
  rintro e w1 ⟨rfl, b1⟩
  clear HCW
  cases C
  case false =>
    obtain rfl : Z = 0 := by rw [HZ.out, arZ, ← HC.out]; rfl
    go_wp2
    refine bodyPost_ret (results_tmp2 rfl _ _ _) rfl ?_
    exact ⟨rfl, b1⟩
  obtain ⟨hn40, hokl, _⟩ := clB_iff.1 HC.out.symm
  have HOK := Lib.hid hokl
  have HZA : Hid (Z = arTo W W.length) := Lib.hid (by rw [HZ.out, arZ, ← HC.out]; rfl)
  have H0 := ((Sep.start w).step b1).box 46 #[.int .i64 0, .int .i64 0]
  obtain ⟨ga, hga⟩ : ∃ ga, ga = w1.heap.size := ⟨_, rfl⟩
  rw [← hga] at H0
  obtain ⟨n, hn⟩ : ∃ n, n = W.length := ⟨_, rfl⟩
  have HN := Lib.hid hn
  rw [← hn] at hsz hn40 HZA
  clear hn hokl b1
  go_upto_region 4 with fail
  rw [← hga]
  generalize w1.alloc (.cells #[.int .i64 0, .int .i64 0] 46) = W0 at *
  clear hga
  go_wp2
  go_loopw [5, 6] (fun av iv wr => ∃ (i : Nat) (a : Int) (p : Cell), i ≤ n ∧ iv = .int .i64 i ∧ av = .int .i64 a ∧ Hid (a = arTo W i) ∧ Hid (p = wayW W i) ∧ Sep w wr [Res.box ga 46 #[.int .i64 p.x, .int .i64 p.y]]) (fun _ iv _ => n - (intOf iv).toNat)
  case atStart => exact ⟨0, 0, ⟨0, 0⟩, Nat.zero_le _, rfl, rfl, Lib.hid rfl, Lib.hid rfl, H0⟩
  case round =>
    clear H0
    obtain ⟨i, a, p, hin, rfl, rfl, HAI, HP, H⟩ := hrel
    by_cases hlt : i < n
    · have hlti : (i : Int) < (n : Int) := by omega
      obtain ⟨u, hu⟩ : ∃ u, W[i]? = some u := ⟨W[i]'(by rw [← HN.out]; exact hlt), List.getElem?_eq_getElem _⟩
      obtain ⟨hk2, hbk⟩ := wstr_at HB.out hu
      obtain ⟨q, hq⟩ : ∃ q, q = wayW W (i + 1) := ⟨_, rfl⟩
      have hbd := wayW_bd W i
      rw [← HP.out] at hbd
      have hab := arTo_bd W i (by omega)
      rw [← HAI.out] at hab
      have hd4 := okL_at hu HOK.out
      have HU := Lib.hid hu
      clear hu
      rcases dir_cases u with ⟨rfl, hd⟩ | ⟨rfl, hd⟩ | ⟨rfl, hd⟩ | ⟨rfl, hd⟩ | ⟨_, _, _, _, hd⟩
      ·
        have hbn : ((B[i]'hk2).toNat : Int) = 114 := by rw [hbk]; rfl
        have HQ : Hid (q = stepC p 0) := Lib.hid (by rw [hq, wayW_at HU.out, ← HP.out]; rfl)
        have HA2 : Hid (arTo W (i + 1) = a - p.y) := Lib.hid (by rw [arTo_right HU.out rfl]; try rw [HAI.out, HP.out])
        have HST : Hid (∀ w', Calls Tryz.prog 33 #[.agg #[.int .i64 p.x, .int .i64 p.y], .int .u8 114] w' fun e w'' => e = .returned (.tuple #[.agg #[.int .i64 q.x, .int .i64 q.y], .bool true]) ∧ Below w'.heap.size w' w'') := Lib.hid fun w' => by
          rw [HQ.out]
          exact spec_step_c p 0 w' (by decide) (by omega) (by omega)
        have y1 : wrap64 (a - p.y) = a - p.y := IntWalk.wrap64_in _ (by omega)
        have HQW := Lib.hid hq
        clear hbk hq hd hd4
        have k0 : wr.cell? ⟨ga, 0, none⟩ = some (.int .i64 p.x) := H.h0.cell 0
        have k1 : wr.cell? ⟨ga, 1, none⟩ = some (.int .i64 p.y) := H.h0.cell 1
        go_upto_region 13 with fail
        replace H := H.drew
        go_region_with ((go_at_call 33; refine (HST.out _).mono ?_; rintro e w5 ⟨rfl, b5⟩; have H5 := H.step b5; have f0 := H5.h0.frozen 0; have f1 := H5.h0.frozen 1; have k0' : w5.cell? ⟨ga, 0, none⟩ = some (.int .i64 p.x) := H5.h0.cell 0; have k1' : w5.cell? ⟨ga, 1, none⟩ = some (.int .i64 p.y) := H5.h0.cell 1))
        all_goals
          have H6 := (H5.set_ 0 (.int .i64 q.x)).set_ 1 (.int .i64 q.y)
          clear f0 f1 k0 k1 k0' k1' H H5 b5 HST
          go_wp2
          go_roundw
          case rel => exact ⟨i + 1, _, q, by omega, by go_num, rfl, Lib.hid HA2.out.symm, HQW, H6⟩
          case measure => simp [intOf]; omega
      ·
        have hbn : ((B[i]'hk2).toNat : Int) = 100 := by rw [hbk]; rfl
        have HQ : Hid (q = stepC p 1) := Lib.hid (by rw [hq, wayW_at HU.out, ← HP.out]; rfl)
        have HA2 : Hid (arTo W (i + 1) = a) := Lib.hid (by rw [arTo_ver HU.out (.inl rfl), HAI.out]; try rw [HAI.out, HP.out])
        have HST : Hid (∀ w', Calls Tryz.prog 33 #[.agg #[.int .i64 p.x, .int .i64 p.y], .int .u8 100] w' fun e w'' => e = .returned (.tuple #[.agg #[.int .i64 q.x, .int .i64 q.y], .bool true]) ∧ Below w'.heap.size w' w'') := Lib.hid fun w' => by
          rw [HQ.out]
          exact spec_step_c p 1 w' (by decide) (by omega) (by omega)
        skip
        have HQW := Lib.hid hq
        clear hbk hq hd hd4
        have k0 : wr.cell? ⟨ga, 0, none⟩ = some (.int .i64 p.x) := H.h0.cell 0
        have k1 : wr.cell? ⟨ga, 1, none⟩ = some (.int .i64 p.y) := H.h0.cell 1
        go_upto_region 13 with fail
        replace H := H.drew
        go_region_with ((go_at_call 33; refine (HST.out _).mono ?_; rintro e w5 ⟨rfl, b5⟩; have H5 := H.step b5; have f0 := H5.h0.frozen 0; have f1 := H5.h0.frozen 1; have k0' : w5.cell? ⟨ga, 0, none⟩ = some (.int .i64 p.x) := H5.h0.cell 0; have k1' : w5.cell? ⟨ga, 1, none⟩ = some (.int .i64 p.y) := H5.h0.cell 1))
        all_goals
          have H6 := (H5.set_ 0 (.int .i64 q.x)).set_ 1 (.int .i64 q.y)
          clear f0 f1 k0 k1 k0' k1' H H5 b5 HST
          go_wp2
          go_roundw
          case rel => exact ⟨i + 1, _, q, by omega, by go_num, rfl, Lib.hid HA2.out.symm, HQW, H6⟩
          case measure => simp [intOf]; omega
      ·
        have hbn : ((B[i]'hk2).toNat : Int) = 108 := by rw [hbk]; rfl
        have HQ : Hid (q = stepC p 2) := Lib.hid (by rw [hq, wayW_at HU.out, ← HP.out]; rfl)
        have HA2 : Hid (arTo W (i + 1) = a + p.y) := Lib.hid (by rw [arTo_left HU.out rfl]; try rw [HAI.out, HP.out])
        have HST : Hid (∀ w', Calls Tryz.prog 33 #[.agg #[.int .i64 p.x, .int .i64 p.y], .int .u8 108] w' fun e w'' => e = .returned (.tuple #[.agg #[.int .i64 q.x, .int .i64 q.y], .bool true]) ∧ Below w'.heap.size w' w'') := Lib.hid fun w' => by
          rw [HQ.out]
          exact spec_step_c p 2 w' (by decide) (by omega) (by omega)
        have y1 : wrap64 (a + p.y) = a + p.y := IntWalk.wrap64_in _ (by omega)
        have HQW := Lib.hid hq
        clear hbk hq hd hd4
        have k0 : wr.cell? ⟨ga, 0, none⟩ = some (.int .i64 p.x) := H.h0.cell 0
        have k1 : wr.cell? ⟨ga, 1, none⟩ = some (.int .i64 p.y) := H.h0.cell 1
        go_upto_region 13 with fail
        replace H := H.drew
        go_region_with ((go_at_call 33; refine (HST.out _).mono ?_; rintro e w5 ⟨rfl, b5⟩; have H5 := H.step b5; have f0 := H5.h0.frozen 0; have f1 := H5.h0.frozen 1; have k0' : w5.cell? ⟨ga, 0, none⟩ = some (.int .i64 p.x) := H5.h0.cell 0; have k1' : w5.cell? ⟨ga, 1, none⟩ = some (.int .i64 p.y) := H5.h0.cell 1))
        all_goals
          have H6 := (H5.set_ 0 (.int .i64 q.x)).set_ 1 (.int .i64 q.y)
          clear f0 f1 k0 k1 k0' k1' H H5 b5 HST
          go_wp2
          go_roundw
          case rel => exact ⟨i + 1, _, q, by omega, by go_num, rfl, Lib.hid HA2.out.symm, HQW, H6⟩
          case measure => simp [intOf]; omega
      ·
        have hbn : ((B[i]'hk2).toNat : Int) = 117 := by rw [hbk]; rfl
        have HQ : Hid (q = stepC p 3) := Lib.hid (by rw [hq, wayW_at HU.out, ← HP.out]; rfl)
        have HA2 : Hid (arTo W (i + 1) = a) := Lib.hid (by rw [arTo_ver HU.out (.inr rfl), HAI.out]; try rw [HAI.out, HP.out])
        have HST : Hid (∀ w', Calls Tryz.prog 33 #[.agg #[.int .i64 p.x, .int .i64 p.y], .int .u8 117] w' fun e w'' => e = .returned (.tuple #[.agg #[.int .i64 q.x, .int .i64 q.y], .bool true]) ∧ Below w'.heap.size w' w'') := Lib.hid fun w' => by
          rw [HQ.out]
          exact spec_step_c p 3 w' (by decide) (by omega) (by omega)
        skip
        have HQW := Lib.hid hq
        clear hbk hq hd hd4
        have k0 : wr.cell? ⟨ga, 0, none⟩ = some (.int .i64 p.x) := H.h0.cell 0
        have k1 : wr.cell? ⟨ga, 1, none⟩ = some (.int .i64 p.y) := H.h0.cell 1
        go_upto_region 13 with fail
        replace H := H.drew
        go_region_with ((go_at_call 33; refine (HST.out _).mono ?_; rintro e w5 ⟨rfl, b5⟩; have H5 := H.step b5; have f0 := H5.h0.frozen 0; have f1 := H5.h0.frozen 1; have k0' : w5.cell? ⟨ga, 0, none⟩ = some (.int .i64 p.x) := H5.h0.cell 0; have k1' : w5.cell? ⟨ga, 1, none⟩ = some (.int .i64 p.y) := H5.h0.cell 1))
        all_goals
          have H6 := (H5.set_ 0 (.int .i64 q.x)).set_ 1 (.int .i64 q.y)
          clear f0 f1 k0 k1 k0' k1' H H5 b5 HST
          go_wp2
          go_roundw
          case rel => exact ⟨i + 1, _, q, by omega, by go_num, rfl, Lib.hid HA2.out.symm, HQW, H6⟩
          case measure => simp [intOf]; omega
      · omega
    · obtain rfl : i = n := by omega
      obtain rfl : Z = a := HZA.out.trans HAI.out.symm
      have hbe := H.below
      clear H
      go_wp2
      refine bodyPost_ret (results_tmp2 rfl _ _ _) rfl ?_
      exact ⟨rfl, hbe⟩
end Go.Proofs.YtghpkfihdcjlaaaGreatDoor

namespace Go.Proofs.YtghpkfihdcjlaaaGreatDoor
open Go.RowKit

def tRt (u v : UInt8) : Bool := decide (dirN v = (dirN u + 1) % 4)
def tLf (u v : UInt8) : Bool := decide (dirN u = (dirN v + 1) % 4)
/-- how many of the first i turns are of a kind -/
def trTo (f : UInt8 → UInt8 → Bool) (w : List UInt8) : Nat → Nat
  | 0 => 0
  | i + 1 => trTo f w i + (match w[i]?, w[(i + 1) % w.length]? with | some u, some v => if f u v then 1 else 0 | _, _ => 0)
def rtN (w : List UInt8) : Nat := if clB w then trTo tRt w w.length else 0
def lfN (w : List UInt8) : Nat := if clB w then trTo tLf w w.length else 0
theorem trTo_at {f : UInt8 → UInt8 → Bool} {w : List UInt8} {i : Nat} {u v : UInt8} (hu : w[i]? = some u) (hv : w[(i + 1) % w.length]? = some v) : trTo f w (i + 1) = trTo f w i + if f u v then 1 else 0 := by rw [trTo, hu, hv]
theorem trTo_le (f : UInt8 → UInt8 → Bool) (w : List UInt8) : ∀ i, trTo f w i ≤ i
  | 0 => Nat.le_refl _
  | i + 1 => by
    have ih := trTo_le f w i
    rw [trTo]
    cases w[i]? with
    | none => simp only; omega
    | some u =>
      cases w[(i + 1) % w.length]? with
      | none => simp only; omega
      | some v => simp only; split <;> omega
/-- the letter to the right -/
def rgU (u : UInt8) : Int := dirB ((dirN u + 1) % 4)
theorem rgU_is {u v : UInt8} (hu : dirN u < 4) (hv : dirN v < 4) : (rgU u == (v.toNat : Int)) = tRt u v := by
  rw [dirB_U hv]
  unfold rgU tRt
  rw [Bool.eq_iff_iff, beq_iff_eq, decide_eq_true_iff]
  generalize dirN u = a at *
  generalize dirN v = b at *
  have ha : a = 0 ∨ a = 1 ∨ a = 2 ∨ a = 3 := by omega
  have hb : b = 0 ∨ b = 1 ∨ b = 2 ∨ b = 3 := by omega
  rcases ha with rfl | rfl | rfl | rfl <;> rcases hb with rfl | rfl | rfl | rfl <;> decide
theorem dig_is {u v : UInt8} (hu : dirN u < 4) (hv : dirN v < 4) : ∃ k : Int, Int.tmod ((dirN v : Int) - (dirN u : Int) + 4) 4 = k ∧ (k == 1) = tRt u v ∧ (k == 3) = tLf u v ∧ 0 ≤ k ∧ k ≤ 3 := by
  refine ⟨_, rfl, ?_⟩
  unfold tRt tLf
  generalize dirN u = a at *
  generalize dirN v = b at *
  have ha : a = 0 ∨ a = 1 ∨ a = 2 ∨ a = 3 := by omega
  have hb : b = 0 ∨ b = 1 ∨ b = 2 ∨ b = 3 := by omega
  rcases ha with rfl | rfl | rfl | rfl <;> rcases hb with rfl | rfl | rfl | rfl <;> decide
theorem not_both {u v : UInt8} (h : tRt u v = true) : tLf u v = false := by
  unfold tRt tLf at *
  rw [decide_eq_true_iff] at h
  rw [decide_eq_false_iff_not]
  omega
set_option maxRecDepth 100000 in
set_option maxHeartbeats 800000 in
theorem impl_right_c (u : UInt8) (w : World) (h : dirN u < 4) :
    Calls Tryz.prog 36 #[.int .u8 (u.toNat : Int)] w fun e w' => e = .returned (.int .u8 (rgU u)) ∧ w = w' := by
  unfold rgU
  rcases dir_cases u with ⟨rfl, hd⟩ | ⟨rfl, hd⟩ | ⟨rfl, hd⟩ | ⟨rfl, hd⟩ | ⟨_, _, _, _, hd⟩
  ·
    change Calls _ _ #[.int .u8 114] _ fun e w' => e = .returned (.int .u8 100) ∧ w = w'
    go_enter Tryz.func36, Tryz.ntmps36
    go_wp2
    go_ret
    exact ⟨rfl, rfl⟩
  ·
    change Calls _ _ #[.int .u8 100] _ fun e w' => e = .returned (.int .u8 108) ∧ w = w'
    go_enter Tryz.func36, Tryz.ntmps36
    go_wp2
    go_ret
    exact ⟨rfl, rfl⟩
  ·
    change Calls _ _ #[.int .u8 108] _ fun e w' => e = .returned (.int .u8 117) ∧ w = w'
    go_enter Tryz.func36, Tryz.ntmps36
    go_wp2
    go_ret
    exact ⟨rfl, rfl⟩
  ·
    change Calls _ _ #[.int .u8 117] _ fun e w' => e = .returned (.int .u8 114) ∧ w = w'
    go_enter Tryz.func36, Tryz.ntmps36
    go_wp2
    go_ret
    exact ⟨rfl, rfl⟩
  · omega
set_option maxRecDepth 100000 in
set_option maxHeartbeats 800000 in
theorem spec_digit_c (u : UInt8) (w : World) (h : dirN u < 4) :
    Calls Tryz.prog 44 #[.int .u8 (u.toNat : Int)] w fun e w' => e = .returned (.int .i64 (dirN u : Int)) ∧ w = w' := by
  rcases dir_cases u with ⟨rfl, hd⟩ | ⟨rfl, hd⟩ | ⟨rfl, hd⟩ | ⟨rfl, hd⟩ | ⟨_, _, _, _, hd⟩
  ·
    change Calls _ _ #[.int .u8 114] _ fun e w' => e = .returned (.int .i64 0) ∧ w = w'
    go_enter Tryz.func44, Tryz.ntmps44
    go_wp2
    go_ret
    exact ⟨rfl, rfl⟩
  ·
    change Calls _ _ #[.int .u8 100] _ fun e w' => e = .returned (.int .i64 1) ∧ w = w'
    go_enter Tryz.func44, Tryz.ntmps44
    go_wp2
    go_ret
    exact ⟨rfl, rfl⟩
  ·
    change Calls _ _ #[.int .u8 108] _ fun e w' => e = .returned (.int .i64 2) ∧ w = w'
    go_enter Tryz.func44, Tryz.ntmps44
    go_wp2
    go_ret
    exact ⟨rfl, rfl⟩
  ·
    change Calls _ _ #[.int .u8 117] _ fun e w' => e = .returned (.int .i64 3) ∧ w = w'
    go_enter Tryz.func44, Tryz.ntmps44
    go_wp2
    go_ret
    exact ⟨rfl, rfl⟩
  · omega
set_option maxRecDepth 100000 in
set_option maxHeartbeats 3200000 in
theorem impl_turns_c {W : List UInt8} (w : World) :
    Calls Tryz.prog 9 #[.string (wstr W)] w fun e w' => e = .returned (.tuple #[.int .i64 (rtN W : Nat), .int .i64 (lfN W : Nat)]) ∧ Below w.heap.size w w' := by
  have HCW := Lib.hid (impl_isClosed_c (W := W) w)
  have hsz : (wstr W).size = W.length := wstr_size
  obtain ⟨B, hB⟩ : ∃ B, B = wstr W := ⟨_, rfl⟩
  rw [← hB] at hsz HCW ⊢
  have HB := Lib.hid hB
  obtain ⟨C, hC⟩ : ∃ C, C = clB W := ⟨_, rfl⟩
  obtain ⟨Z1, hZ1⟩ : ∃ Z, Z = rtN W := ⟨_, rfl⟩
  obtain ⟨Z2, hZ2⟩ : ∃ Z, Z = lfN W := ⟨_, rfl⟩
  rw [← hZ1, ← hZ2]
  rw [← hC] at HCW
  have HC := Lib.hid hC
  have HZ1 := Lib.hid hZ1
  have HZ2 := Lib.hid hZ2
  clear hB hC hZ1 hZ2
  go_enter Tryz.func9, Tryz.ntmps9
  go_wp2_with fail
  refine (HCW.out).mono ?_
  rintro e w1 ⟨rfl, b1⟩
  clear HCW
  cases C
  case false =>
    obtain rfl : Z1 = 0 := by rw [HZ1.out, rtN, ← HC.out]; rfl
    obtain rfl : Z2 = 0 := by rw [HZ2.out, lfN, ← HC.out]; rfl
    go_wp2
    refine bodyPost_ret (results_tmp2 rfl _ _ _) rfl ?_
    exact ⟨rfl, b1⟩
  obtain ⟨hn40, hokl, _⟩ := clB_iff.1 HC.out.symm
  have HOK := Lib.hid hokl
  have HY1 : Hid (Z1 = trTo tRt W W.length) := Lib.hid (by rw [HZ1.out, rtN, ← HC.out]; rfl)
  have HY2 : Hid (Z2 = trTo tLf W W.length) := Lib.hid (by rw [HZ2.out, lfN, ← HC.out]; rfl)
  obtain ⟨n, hn⟩ : ∃ n, n = W.length := ⟨_, rfl⟩
  have HN := Lib.hid hn
  rw [← hn] at hsz hn40 HY1 HY2
  clear hn hokl
  go_wp2
  go_loopw [4, 5, 13] (fun av bv iv wr => ∃ (i a b : Nat), i ≤ n ∧ iv = .int .i64 i ∧ av = .int .i64 a ∧ bv = .int .i64 b ∧ Hid (a = trTo tRt W i) ∧ Hid (b = trTo tLf W i) ∧ Below w.heap.size w wr) (fun _ _ iv _ => n - (intOf iv).toNat)
  case atStart => exact ⟨0, 0, 0, Nat.zero_le _, rfl, rfl, rfl, Lib.hid rfl, Lib.hid rfl, b1⟩
  case round =>
    clear b1
    obtain ⟨i, a, b, hin, rfl, rfl, rfl, HA, HBB, hbw⟩ := hrel
    by_cases hlt : i < n
    · have hlti : (i : Int) < (n : Int) := by omega
      obtain ⟨u, hu⟩ : ∃ u, W[i]? = some u := ⟨W[i]'(by rw [← HN.out]; exact hlt), List.getElem?_eq_getElem _⟩
      obtain ⟨j, hj⟩ : ∃ j, j = (i + 1) % n := ⟨_, rfl⟩
      have hjn : j < n := by rw [hj]; exact Nat.mod_lt _ (by omega)
      obtain ⟨v, hv⟩ : ∃ v, W[j]? = some v := ⟨W[j]'(by rw [← HN.out]; exact hjn), List.getElem?_eq_getElem _⟩
      obtain ⟨hk2, hbk⟩ := wstr_at HB.out hu
      obtain ⟨hk3, hbj⟩ := wstr_at HB.out hv
      have hmod : Int.tmod ((i : Int) + 1) (n : Int) = (j : Int) := by
        rw [hj, Int.tmod_eq_emod_of_nonneg (by omega)]
        first | rw [Int.natCast_emod, Int.natCast_add]; rfl | rw [Int.natCast_mod, Int.natCast_add]; rfl | rw [Int.ofNat_emod, Int.natCast_add]; rfl
      have hu4 := okL_at hu HOK.out
      have hv4 := okL_at hv HOK.out
      have HU := Lib.hid hu
      have HV : Hid (W[(i + 1) % W.length]? = some v) := Lib.hid (by rw [← HN.out, ← hj]; exact hv)
      have m1 : IntKind.i64.wrap ((i : Int) + 1) = (i : Int) + 1 := IntWalk.i64_in _ (by omega)
      have m2 : IntKind.i64.wrap (Int.tmod ((i : Int) + 1) (n : Int)) = (j : Int) := by rw [hmod]; exact IntWalk.i64_in _ (by omega)
      have ha40 : a ≤ i := by rw [HA.out]; exact trTo_le _ _ _
      have hb40 : b ≤ i := by rw [HBB.out]; exact trTo_le _ _ _
      clear hu hv hj
      obtain ⟨x, hx⟩ : ∃ x : Int, x = (u.toNat : Int) := ⟨_, rfl⟩
      obtain ⟨y, hy⟩ : ∃ y : Int, y = (v.toNat : Int) := ⟨_, rfl⟩
      obtain ⟨rx, hrx⟩ : ∃ k, k = rgU u := ⟨_, rfl⟩
      obtain ⟨ry, hry⟩ : ∃ k, k = rgU v := ⟨_, rfl⟩
      have HR1 : Hid (∀ w', Calls Tryz.prog 36 #[.int .u8 x] w' fun e w'' => e = .returned (.int .u8 rx) ∧ w' = w'') := Lib.hid fun w' => by rw [hx, hrx]; exact impl_right_c u w' hu4
      have HR2 : Hid (∀ w', Calls Tryz.prog 36 #[.int .u8 y] w' fun e w'' => e = .returned (.int .u8 ry) ∧ w' = w'') := Lib.hid fun w' => by rw [hy, hry]; exact impl_right_c v w' hv4
      obtain ⟨f1, hf1⟩ : ∃ f, f = tRt u v := ⟨_, rfl⟩
      obtain ⟨f2, hf2⟩ : ∃ f, f = tLf u v := ⟨_, rfl⟩
      have c1 : (rx == y) = f1 := by rw [hrx, hy, hf1]; exact rgU_is hu4 hv4
      have c2 : (ry == x) = f2 := by rw [hry, hx, hf2]; exact rgU_is hv4 hu4
      have HNB : Hid (f1 = true → f2 = false) := Lib.hid (by rw [hf1, hf2]; exact not_both)
      have HF1 : Hid (tRt u v = f1) := Lib.hid hf1.symm
      have HF2 : Hid (tLf u v = f2) := Lib.hid hf2.symm
      rw [← hx] at hbk
      rw [← hy] at hbj
      clear hx hy hrx hry hf1 hf2 hu4 hv4
      cases f1
      case true =>
        obtain rfl : f2 = false := HNB.out rfl
        have HA2 : Hid (a + 1 = trTo tRt W (i + 1)) := Lib.hid (by rw [trTo_at HU.out HV.out, HA.out, HF1.out]; rfl)
        have HB2 : Hid (b = trTo tLf W (i + 1)) := Lib.hid (by rw [trTo_at HU.out HV.out, HBB.out, HF2.out]; rfl)
        have y1 : wrap64 ((a : Int) + 1) = ((a + 1 : Nat) : Int) := by rw [IntWalk.wrap64_in _ (by omega)]; omega
        go_wp2_with fail
        refine (HR1.out _).mono ?_
        rintro e w2 ⟨rfl, rfl⟩
        go_upto_region 9 with fail
        clear c1 c2 HR1 HR2 hbk hbj
        go_wp2
        clear hmod m1 m2
        go_roundw
        case rel => exact ⟨i + 1, a + 1, b, by omega, by go_num, by first | rfl | go_num, by first | rfl | go_num, HA2, HB2, hbw⟩
        case measure => simp [intOf]; omega
      case false =>
        cases f2
        case true =>
          have HA2 : Hid (a = trTo tRt W (i + 1)) := Lib.hid (by rw [trTo_at HU.out HV.out, HA.out, HF1.out]; rfl)
          have HB2 : Hid (b + 1 = trTo tLf W (i + 1)) := Lib.hid (by rw [trTo_at HU.out HV.out, HBB.out, HF2.out]; rfl)
          have y1 : wrap64 ((b : Int) + 1) = ((b + 1 : Nat) : Int) := by rw [IntWalk.wrap64_in _ (by omega)]; omega
          go_wp2_with fail
          refine (HR1.out _).mono ?_
          rintro e w2 ⟨rfl, rfl⟩
          go_upto_region 10 with fail
          refine wp_region_later (by kernel_rfl) (by kernel_rfl) ?_
          repeat (go_big_quiet_step ((go_at_call 36; exact Later.same (HR2.out _))))
          refine wpQuiet_nil ?_
          intro w3 hw3
          obtain ⟨u3, hu3⟩ := hw3
          subst hu3
          replace hbw := hbw.trans (u3.h.mono hbw.size)
          generalize u3.w = w3 at *
          clear c1 c2 HR1 HR2 hbk hbj
          go_wp2
          clear hmod m1 m2
          go_roundw
          case rel => exact ⟨i + 1, a, b + 1, by omega, by go_num, by first | rfl | go_num, by first | rfl | go_num, HA2, HB2, hbw⟩
          case measure => simp [intOf]; omega
        case false =>
          have HA2 : Hid (a = trTo tRt W (i + 1)) := Lib.hid (by rw [trTo_at HU.out HV.out, HA.out, HF1.out]; rfl)
          have HB2 : Hid (b = trTo tLf W (i + 1)) := Lib.hid (by rw [trTo_at HU.out HV.out, HBB.out, HF2.out]; rfl)
          go_wp2_with fail
          refine (HR1.out _).mono ?_
          rintro e w2 ⟨rfl, rfl⟩
          go_upto_region 10 with fail
          refine wp_region_later (by kernel_rfl) (by kernel_rfl) ?_
          repeat (go_big_quiet_step ((go_at_call 36; exact Later.same (HR2.out _))))
          refine wpQuiet_nil ?_
          intro w3 hw3
          obtain ⟨u3, hu3⟩ := hw3
          subst hu3
          replace hbw := hbw.trans (u3.h.mono hbw.size)
          generalize u3.w = w3 at *
          clear c1 c2 HR1 HR2 hbk hbj
          go_wp2
          clear hmod m1 m2
          go_roundw
          case rel => exact ⟨i + 1, a, b, by omega, by go_num, by first | rfl | go_num, by first | rfl | go_num, HA2, HB2, hbw⟩
          case measure => simp [intOf]; omega
    · obtain rfl : i = n := by omega
      obtain rfl : Z1 = a := HY1.out.trans HA.out.symm
      obtain rfl : Z2 = b := HY2.out.trans HBB.out.symm
      go_wp2
      refine bodyPost_ret (results_tmp2 rfl _ _ _) rfl ?_
      exact ⟨rfl, hbw⟩
set_option maxRecDepth 100000 in
set_option maxHeartbeats 3200000 in
theorem spec_turns_c {W : List UInt8} (w : World) (hn48 : W.length ≤ 1048576) :
    Calls Tryz.prog 19 #[.string (wstr W)] w fun e w' => e = .returned (.tuple #[.int .i64 (rtN W : Nat), .int .i64 (lfN W : Nat)]) ∧ Below w.heap.size w w' := by
  have HCW : Hid (∀ w1, Below w.heap.size w w1 → Calls Tryz.prog 20 #[.string (wstr W)] w1 fun e w' => e = .returned (.bool (clB W)) ∧ Below w1.heap.size w1 w') := Lib.hid fun w1 _ => spec_isClosed_c (W := W) w1
  have hsz : (wstr W).size = W.length := wstr_size
  obtain ⟨B, hB⟩ : ∃ B, B = wstr W := ⟨_, rfl⟩
  rw [← hB] at hsz HCW ⊢
  have HB := Lib.hid hB
  obtain ⟨C, hC⟩ : ∃ C, C = clB W := ⟨_, rfl⟩
  obtain ⟨Z1, hZ1⟩ : ∃ Z, Z = rtN W := ⟨_, rfl⟩
  obtain ⟨Z2, hZ2⟩ : ∃ Z, Z = lfN W := ⟨_, rfl⟩
  rw [← hZ1, ← hZ2]
  rw [← hC] at HCW
  have HC := Lib.hid hC
  have HZ1 := Lib.hid hZ1
  have HZ2 := Lib.hid hZ2
  clear hB hC hZ1 hZ2
  obtain ⟨n, hn⟩ : ∃ n, n = W.length := ⟨_, rfl⟩
  have HN := Lib.hid hn
  rw [← hn] at hsz hn48
  clear hn
  cases C
  case false =>
    obtain rfl : Z1 = 0 := by rw [HZ1.out, rtN, ← HC.out]; rfl
    obtain rfl : Z2 = 0 := by rw [HZ2.out, lfN, ← HC.out]; rfl
    go_enter Tryz.func19, Tryz.ntmps19
    go_wp2
    go_loopw [4, 5, 6] (fun av bv iv wr => iv = .int .i64 0 ∧ av = .int .i64 0 ∧ bv = .int .i64 0 ∧ Below w.heap.size w wr) (fun _ _ _ _ => 0)
    case atStart => exact ⟨rfl, rfl, rfl, Below.refl _ _⟩
    case round =>
      obtain ⟨rfl, rfl, rfl, hbw⟩ := hrel
      by_cases h0 : 0 < n
      · have hlt : decide ((0 : Int) < (n : Int)) = true := decide_eq_true (by omega)
        have hlt2 : (0 : Int) < (n : Int) := by omega
        clear h0
        go_wp2_with fail
        refine (HCW.out _ hbw).mono ?_
        rintro e w1 ⟨rfl, b1⟩
        have hb := hbw.trans (b1.mono hbw.size)
        go_wp2
        refine bodyPost_ret (results_tmp2 rfl _ _ _) rfl ?_
        exact ⟨rfl, hb⟩
      · have hlt : decide ((0 : Int) < (n : Int)) = false := decide_eq_false (by omega)
        have hlt2 : ¬ (0 : Int) < (n : Int) := by omega
        clear h0
        go_wp2
        refine bodyPost_ret (results_tmp2 rfl _ _ _) rfl ?_
        exact ⟨rfl, hbw⟩
  obtain ⟨hn40, hokl, _⟩ := clB_iff.1 HC.out.symm
  have HOK := Lib.hid hokl
  have HY1 : Hid (Z1 = trTo tRt W W.length) := Lib.hid (by rw [HZ1.out, rtN, ← HC.out]; rfl)
  have HY2 : Hid (Z2 = trTo tLf W W.length) := Lib.hid (by rw [HZ2.out, lfN, ← HC.out]; rfl)
  rw [← HN.out] at hn40 HY1 HY2
  clear hokl hn48
  go_enter Tryz.func19, Tryz.ntmps19
  go_wp2
  go_loopw [4, 5, 6] (fun av bv iv wr => ∃ (i a b : Nat), i ≤ n ∧ iv = .int .i64 i ∧ av = .int .i64 a ∧ bv = .int .i64 b ∧ Hid (a = trTo tRt W i) ∧ Hid (b = trTo tLf W i) ∧ Below w.heap.size w wr) (fun _ _ iv _ => n - (intOf iv).toNat)
  case atStart => exact ⟨0, 0, 0, Nat.zero_le _, rfl, rfl, rfl, Lib.hid rfl, Lib.hid rfl, Below.refl _ _⟩
  case round =>
    obtain ⟨i, a, b, hin, rfl, rfl, rfl, HA, HBB, hbw⟩ := hrel
    by_cases hlt : i < n
    · have hlti : (i : Int) < (n : Int) := by omega
      have hltd : decide ((i : Int) < (n : Int)) = true := decide_eq_true hlti
      obtain ⟨u, hu⟩ : ∃ u, W[i]? = some u := ⟨W[i]'(by rw [← HN.out]; exact hlt), List.getElem?_eq_getElem _⟩
      obtain ⟨j, hj⟩ : ∃ j, j = (i + 1) % n := ⟨_, rfl⟩
      have hjn : j < n := by rw [hj]; exact Nat.mod_lt _ (by omega)
      obtain ⟨v, hv⟩ : ∃ v, W[j]? = some v := ⟨W[j]'(by rw [← HN.out]; exact hjn), List.getElem?_eq_getElem _⟩
      obtain ⟨hk2, hbk⟩ := wstr_at HB.out hu
      obtain ⟨hk3, hbj⟩ := wstr_at HB.out hv
      have hmod : Int.tmod ((i : Int) + 1) (n : Int) = (j : Int) := by
        rw [hj, Int.tmod_eq_emod_of_nonneg (by omega)]
        first | rw [Int.natCast_emod, Int.natCast_add]; rfl | rw [Int.natCast_mod, Int.natCast_add]; rfl | rw [Int.ofNat_emod, Int.natCast_add]; rfl
      have hu4 := okL_at hu HOK.out
      have hv4 := okL_at hv HOK.out
      have HU := Lib.hid hu
      have HV : Hid (W[(i + 1) % W.length]? = some v) := Lib.hid (by rw [← HN.out, ← hj]; exact hv)
      have m1 : IntKind.i64.wrap ((i : Int) + 1) = (i : Int) + 1 := IntWalk.i64_in _ (by omega)
      have m2 : IntKind.i64.wrap (Int.tmod ((i : Int) + 1) (n : Int)) = (j : Int) := by rw [hmod]; exact IntWalk.i64_in _ (by omega)
      have ha40 : a ≤ i := by rw [HA.out]; exact trTo_le _ _ _
      have hb40 : b ≤ i := by rw [HBB.out]; exact trTo_le _ _ _
      clear hu hv hj
      obtain ⟨x, hx⟩ : ∃ x : Int, x = (u.toNat : Int) := ⟨_, rfl⟩
      obtain ⟨y, hy⟩ : ∃ y : Int, y = (v.toNat : Int) := ⟨_, rfl⟩
      obtain ⟨k, hk, c1, c2, hk0, hk3'⟩ := dig_is hu4 hv4
      obtain ⟨du, hdu⟩ : ∃ d, d = dirN u := ⟨_, rfl⟩
      obtain ⟨dv, hdv⟩ : ∃ d, d = dirN v := ⟨_, rfl⟩
      have HD1 : Hid (∀ w', Calls Tryz.prog 44 #[.int .u8 x] w' fun e w'' => e = .returned (.int .i64 (du : Int)) ∧ w' = w'') := Lib.hid fun w' => by rw [hx, hdu]; exact spec_digit_c u w' hu4
      have HD2 : Hid (∀ w', Calls Tryz.prog 44 #[.int .u8 y] w' fun e w'' => e = .returned (.int .i64 (dv : Int)) ∧ w' = w'') := Lib.hid fun w' => by rw [hy, hdv]; exact spec_digit_c v w' hv4
      rw [← hdu] at hk hu4
      rw [← hdv] at hk hv4
      obtain ⟨t1, ht1⟩ : ∃ t : Int, t = (dv : Int) - (du : Int) := ⟨_, rfl⟩
      obtain ⟨t2, ht2⟩ : ∃ t : Int, t = t1 + 4 := ⟨_, rfl⟩
      have e1 : wrap64 ((dv : Int) - (du : Int)) = t1 := by rw [ht1]; exact IntWalk.wrap64_in _ (by omega)
      have e2 : wrap64 (t1 + 4) = t2 := by rw [ht2]; exact IntWalk.wrap64_in _ (by omega)
      have e3 : Int.tmod t2 4 = k := by rw [ht2, ht1]; exact hk
      have e4 : IntKind.i64.wrap k = k := IntWalk.i64_in _ (by omega)
      have e5 : wrap64 k = k := IntWalk.wrap64_in _ (by omega)
      obtain ⟨f1, hf1⟩ : ∃ f, f = tRt u v := ⟨_, rfl⟩
      obtain ⟨f2, hf2⟩ : ∃ f, f = tLf u v := ⟨_, rfl⟩
      rw [← hf1] at c1
      rw [← hf2] at c2
      have HNB : Hid (f1 = true → f2 = false) := Lib.hid (by rw [hf1, hf2]; exact not_both)
      have HF1 : Hid (tRt u v = f1) := Lib.hid hf1.symm
      have HF2 : Hid (tLf u v = f2) := Lib.hid hf2.symm
      rw [← hx] at hbk
      rw [← hy] at hbj
      clear hx hy hf1 hf2 hdu hdv hk hu4 hv4 ht1 ht2
      cases f1
      case true =>
        obtain rfl : f2 = false := HNB.out rfl
        have HA2 : Hid (a + 1 = trTo tRt W (i + 1)) := Lib.hid (by rw [trTo_at HU.out HV.out, HA.out, HF1.out]; rfl)
        have HB2 : Hid (b = trTo tLf W (i + 1)) := Lib.hid (by rw [trTo_at HU.out HV.out, HBB.out, HF2.out]; rfl)
        have y1 : wrap64 ((a : Int) + 1) = ((a + 1 : Nat) : Int) := by rw [IntWalk.wrap64_in _ (by omega)]; omega
        go_wp2_with fail
        refine (HCW.out _ hbw).mono ?_
        rintro e w2 ⟨rfl, b2⟩
        replace hbw := hbw.trans (b2.mono hbw.size)
        clear b2
        go_wp2_with fail
        refine (HD1.out _).mono ?_
        rintro e w3 ⟨rfl, rfl⟩
        go_wp2_with fail
        refine (HD2.out _).mono ?_
        rintro e w4 ⟨rfl, rfl⟩
        go_upto_region 8 with fail
        clear hbk hbj HD1 HD2 hmod m1 m2
        go_upto_region 9 with fail
        clear e1 e2 e3 e4 e5
        go_wp2
        clear c1 c2
        go_roundw
        case rel => exact ⟨i + 1, a + 1, b, by omega, by go_num, by first | rfl | go_num, by first | rfl | go_num, HA2, HB2, hbw⟩
        case measure => simp [intOf]; omega
      case false =>
        cases f2
        case true =>
          have HA2 : Hid (a = trTo tRt W (i + 1)) := Lib.hid (by rw [trTo_at HU.out HV.out, HA.out, HF1.out]; rfl)
          have HB2 : Hid (b + 1 = trTo tLf W (i + 1)) := Lib.hid (by rw [trTo_at HU.out HV.out, HBB.out, HF2.out]; rfl)
          have y1 : wrap64 ((b : Int) + 1) = ((b + 1 : Nat) : Int) := by rw [IntWalk.wrap64_in _ (by omega)]; omega
          go_wp2_with fail
          refine (HCW.out _ hbw).mono ?_
          rintro e w2 ⟨rfl, b2⟩
          replace hbw := hbw.trans (b2.mono hbw.size)
          clear b2
          go_wp2_with fail
          refine (HD1.out _).mono ?_
          rintro e w3 ⟨rfl, rfl⟩
          go_wp2_with fail
          refine (HD2.out _).mono ?_
          rintro e w4 ⟨rfl, rfl⟩
          go_upto_region 8 with fail
          clear hbk hbj HD1 HD2 hmod m1 m2
          go_upto_region 9 with fail
          clear e1 e2 e3 e4 e5
          go_wp2
          clear c1 c2
          go_roundw
          case rel => exact ⟨i + 1, a, b + 1, by omega, by go_num, by first | rfl | go_num, by first | rfl | go_num, HA2, HB2, hbw⟩
          case measure => simp [intOf]; omega
        case false =>
          have HA2 : Hid (a = trTo tRt W (i + 1)) := Lib.hid (by rw [trTo_at HU.out HV.out, HA.out, HF1.out]; rfl)
          have HB2 : Hid (b = trTo tLf W (i + 1)) := Lib.hid (by rw [trTo_at HU.out HV.out, HBB.out, HF2.out]; rfl)
          go_wp2_with fail
          refine (HCW.out _ hbw).mono ?_
          rintro e w2 ⟨rfl, b2⟩
          replace hbw := hbw.trans (b2.mono hbw.size)
          clear b2
          go_wp2_with fail
          refine (HD1.out _).mono ?_
          rintro e w3 ⟨rfl, rfl⟩
          go_wp2_with fail
          refine (HD2.out _).mono ?_
          rintro e w4 ⟨rfl, rfl⟩
          go_upto_region 8 with fail
          clear hbk hbj HD1 HD2 hmod m1 m2
          go_upto_region 9 with fail
          clear e1 e2 e3 e4 e5
          go_wp2
          clear c1 c2
          go_roundw
          case rel => exact ⟨i + 1, a, b, by omega, by go_num, by first | rfl | go_num, by first | rfl | go_num, HA2, HB2, hbw⟩
          case measure => simp [intOf]; omega
    · obtain rfl : i = n := by omega
      have hltd : decide ((i : Int) < (i : Int)) = false := decide_eq_false (by omega)
      obtain rfl : Z1 = a := HY1.out.trans HA.out.symm
      obtain rfl : Z2 = b := HY2.out.trans HBB.out.symm
      go_wp2
      refine bodyPost_ret (results_tmp2 rfl _ _ _) rfl ?_
      exact ⟨rfl, hbw⟩
end Go.Proofs.YtghpkfihdcjlaaaGreatDoor

namespace Go.Proofs.YtghpkfihdcjlaaaGreatDoor
open Go.RowKit

/-- a digit's text -/
def dgt (n : Int) : ByteArray := ⟨#[(48 + n.toNat).toUInt8]⟩
theorem dgt_size (n : Int) : (dgt n).size = 1 := rfl

set_option maxRecDepth 100000 in
set_option maxHeartbeats 1600000 in
theorem impl_dig_c (n : Int) (w : World) (h0 : 0 ≤ n) (h5 : n ≤ 9) :
    Calls Tryz.prog 42 #[.int .i64 n] w fun e w' => e = .returned (.string (dgt n)) ∧ w = w' := by
  have hn : n = 0 ∨ n = 1 ∨ n = 2 ∨ n = 3 ∨ n = 4 ∨ n = 5 ∨ n = 6 ∨ n = 7 ∨ n = 8 ∨ n = 9 := by omega
  clear h0 h5
  rcases hn with rfl | rfl | rfl | rfl | rfl | rfl | rfl | rfl | rfl | rfl
  all_goals
    go_enter Tryz.func42, Tryz.ntmps42
    go_wp2
    go_ret
    exact ⟨rfl, rfl⟩

set_option maxRecDepth 100000 in
/-- a new slice of one byte, as a string -/
theorem run_byte_string (w : World) (g : Nat) (b : UInt8) (u : Int) (hu : u = (b.toNat : Int)) (hg : w.cell? ⟨g, 0, none⟩ = some (.int .u8 u)) :
    (convert 22 9 (.slice (some ⟨g, 0, none⟩) 1 1)).run Tryz.prog w = .ok (.string ⟨#[b]⟩) w := by
  subst hu
  refine run_convert_bytes_back w _ _ _ ⟨g, 0, none⟩ 1 [b] Tryz.underlying22 Tryz.underlying5 Tryz.underlying9 ?_
  intro j hj
  obtain rfl : j = 0 := by simpa using hj
  simpa [Addr.add] using hg

set_option maxRecDepth 100000 in
set_option maxHeartbeats 1600000 in
theorem spec_dig_c (n : Int) (w : World) (h0 : 0 ≤ n) (h5 : n ≤ 9) :
    Calls Tryz.prog 43 #[.int .i64 n] w fun e w' => e = .returned (.string (dgt n)) ∧ Below w.heap.size w w' := by
  by_cases hz : n = 0
  · subst hz
    go_enter Tryz.func43, Tryz.ntmps43
    go_wp2
    go_ret
    exact ⟨rfl, Below.refl _ _⟩
  · have h1 : 1 ≤ n := by omega
    have hneg : decide (n < 0) = false := by simp; omega
    have hne : (n == 0) = false := by simp; omega
    go_enter Tryz.func43, Tryz.ntmps43
    go_wp2
    go_loopw [0, 3, 5] (fun nv ov _ wr => ((nv = .int .i64 n ∧ ov = .string ⟨#[]⟩) ∨ (nv = .int .i64 0 ∧ ov = .string (dgt n))) ∧ Below w.heap.size w wr) (fun nv _ _ _ => (intOf nv).toNat)
    case atStart => exact ⟨.inl ⟨rfl, rfl⟩, Below.refl _ _⟩
    case round =>
      obtain ⟨h | h, hb⟩ := hrel
      · obtain ⟨rfl, rfl⟩ := h
        have hn : n = 1 ∨ n = 2 ∨ n = 3 ∨ n = 4 ∨ n = 5 ∨ n = 6 ∨ n = 7 ∨ n = 8 ∨ n = 9 := by omega
        clear h0 h5 h1 hz hneg hne
        have hcvn : ∀ u : Int, u = 48 + n → (convert 22 9 (.slice (some ⟨wr.heap.size, 0, none⟩) 1 1)).run Tryz.prog (wr.alloc (.cells #[.int .u8 u] 5)) = .ok (.string (dgt n)) (wr.alloc (.cells #[.int .u8 u] 5)) := fun u hu => by
          refine run_byte_string _ _ _ u ?_ (by rw [(Blk.new wr _ _).cell]; rfl)
          rcases hn with rfl | rfl | rfl | rfl | rfl | rfl | rfl | rfl | rfl <;> subst hu <;> rfl
        rcases hn with rfl | rfl | rfl | rfl | rfl | rfl | rfl | rfl | rfl
        all_goals
          have hcv := hcvn _ rfl
          clear hcvn
          simp at hcv
          go_wp2
          go_roundw
          case rel => exact ⟨.inr ⟨rfl, rfl⟩, hb.trans (((Below.refl _ _).alloc (Nat.le_refl _) _).mono hb.size)⟩
          case measure => simp [intOf]
      · obtain ⟨rfl, rfl⟩ := h
        go_wp2
        go_ret
        exact ⟨rfl, hb⟩
end Go.Proofs.YtghpkfihdcjlaaaGreatDoor

namespace Go.Proofs.YtghpkfihdcjlaaaGreatDoor
open Go.RowKit

def dgU (n : Nat) : UInt8 := (48 + n).toUInt8
/-- the runs from here on; r letters of this run lie behind -/
def cmpRn (r : Nat) : List UInt8 → List UInt8
  | [] => []
  | [a] => [dgU (r + 1), a]
  | a :: b :: l => if b = a then cmpRn (r + 1) (b :: l) else dgU (r + 1) :: a :: cmpRn 0 (b :: l)
/-- no ten letters in a row are the same -/
def shortR (w : List UInt8) : Prop := ∀ i k : Nat, ∀ u : UInt8, i ≤ k → (∀ j, i ≤ j → j < k → w[j]? = some u) → k - i ≤ 9
theorem drop_at {w : List UInt8} {i : Nat} {u : UInt8} (h : w[i]? = some u) : w.drop i = u :: w.drop (i + 1) := by
  obtain ⟨hi, rfl⟩ := List.getElem?_eq_some_iff.1 h
  exact (List.getElem_cons_drop hi).symm
theorem cmp_last {w : List UInt8} {i r : Nat} {u : UInt8} (h : w[i]? = some u) (hl : w.length = i + 1) : cmpRn r (w.drop i) = dgU (r + 1) :: u :: cmpRn 0 (w.drop (i + 1)) := by
  rw [drop_at h, List.drop_of_length_le (by omega)]
  rfl
theorem cmp_new {w : List UInt8} {i r : Nat} {u v : UInt8} (h : w[i]? = some u) (h2 : w[i + 1]? = some v) (hn : ¬ v = u) : cmpRn r (w.drop i) = dgU (r + 1) :: u :: cmpRn 0 (w.drop (i + 1)) := by
  rw [drop_at h, drop_at h2, cmpRn, if_neg hn]
theorem cmp_same {w : List UInt8} {i r : Nat} {u : UInt8} (h : w[i]? = some u) (h2 : w[i + 1]? = some u) : cmpRn r (w.drop i) = cmpRn (r + 1) (w.drop (i + 1)) := by
  rw [drop_at h, drop_at h2, cmpRn, if_pos rfl]
/-- a run from i to k -/
theorem cmp_run {w : List UInt8} {i : Nat} {u : UInt8} : ∀ k, (∀ j, i ≤ j → j < i + k + 1 → w[j]? = some u) → cmpRn 0 (w.drop i) = cmpRn k (w.drop (i + k))
  | 0, _ => rfl
  | k + 1, h => by
    rw [cmp_run k (fun j h1 h2 => h j h1 (by omega))]
    exact cmp_same (h (i + k) (by omega) (by omega)) (h (i + k + 1) (by omega) (by omega))
/-- what is written at a run's end -/
theorem cmp_end {w : List UInt8} {i k : Nat} {u : UInt8} (hik : i < k) (h : ∀ j, i ≤ j → j < k → w[j]? = some u) (he : k = w.length ∨ ∃ v, w[k]? = some v ∧ ¬ v = u) : cmpRn 0 (w.drop i) = dgU (k - i) :: u :: cmpRn 0 (w.drop k) := by
  obtain ⟨m, rfl⟩ : ∃ m, k = i + m + 1 := ⟨k - i - 1, by omega⟩
  rw [cmp_run m h, show i + m + 1 - i = m + 1 by omega]
  have hm := h (i + m) (by omega) (by omega)
  rcases he with he | ⟨v, hv, hn⟩
  · exact cmp_last hm he.symm
  · exact cmp_new hm hv hn
/-- the reference's run -/
def runTo (w : List UInt8) : Nat → Nat
  | 0 => 0
  | i + 1 => if i + 1 < w.length ∧ w[i + 1]? = w[i]? then runTo w i + 1 else 0
theorem runTo_same {w : List UInt8} {i : Nat} : ∀ r, runTo w i = r → i ≤ w.length → r ≤ i ∧ ∀ j, i - r ≤ j → j < i → i < w.length → w[j]? = w[i]? := by
  induction i with
  | zero => intro r hr _; subst hr; exact ⟨Nat.le_refl _, fun j _ h => absurd h (by omega)⟩
  | succ i ih =>
    intro r hr hi
    rw [runTo] at hr
    split at hr
    · rename_i hc
      obtain ⟨h1, h2⟩ := ih (runTo w i) rfl (by omega)
      subst hr
      refine ⟨by omega, fun j h3 h4 h5 => ?_⟩
      by_cases e : j = i
      · subst e; exact hc.2.symm
      · rw [h2 j (by omega) (by omega) (by omega)]; exact hc.2.symm
    · subst hr
      exact ⟨Nat.zero_le _, fun j h3 h4 _ => absurd h4 (by omega)⟩
theorem runTo_9 {w : List UInt8} (h : shortR w) {i : Nat} (hi : i < w.length) : runTo w i + 1 ≤ 9 := by
  obtain ⟨h1, h2⟩ := runTo_same (w := w) (i := i) _ rfl (by omega)
  have := h (i - runTo w i) (i + 1) w[i] (by omega) (fun j h3 h4 => by
    by_cases e : j = i
    · subst e; exact List.getElem?_eq_getElem hi
    · rw [h2 j h3 (by omega) hi]; exact List.getElem?_eq_getElem hi)
  omega
theorem dgt_w (n : Nat) : dgt (n : Int) = wstr [dgU n] := rfl
end Go.Proofs.YtghpkfihdcjlaaaGreatDoor

namespace Go.Proofs.YtghpkfihdcjlaaaGreatDoor
open Go.RowKit

/-- what 'CompressWord' writes -/
def cmpB (w : List UInt8) : List UInt8 := if clB w then cmpRn 0 w else []
theorem wstr_two {o : List UInt8} {d u : UInt8} : (wstr o ++ wstr [d]) ++ wstr [u] = wstr (o ++ [d, u]) := by
  rw [wstr_app, wstr_app, List.append_assoc]; rfl
theorem wstr_two' {o : List UInt8} {d u : UInt8} : wstr o ++ (wstr [d] ++ wstr [u]) = wstr (o ++ [d, u]) := by
  rw [← wstr_two]
  apply ByteArray.ext
  simp
theorem wstr_cut {W : List UInt8} {i : Nat} {u : UInt8} (h : W[i]? = some u) : (wstr W).extract i (i + 1) = wstr [u] := by
  obtain ⟨hi, rfl⟩ := List.getElem?_eq_some_iff.1 h
  apply ByteArray.ext
  simp only [ByteArray.data_extract]
  apply Array.ext'
  simp [List.extract_eq_take_drop]
  rw [List.drop_eq_getElem_cons hi]
  rfl
set_option maxRecDepth 100000 in
set_option maxHeartbeats 3200000 in
theorem spec_cmp_c {W : List UInt8} (w : World) (hsh : shortR W) :
    Calls Tryz.prog 18 #[.string (wstr W)] w fun e w' => e = .returned (.tuple #[.string (wstr (cmpB W)), .bool (clB W)]) ∧ Below w.heap.size w w' := by
  have HCW := Lib.hid (spec_isClosed_c (W := W) w)
  have hsz : (wstr W).size = W.length := wstr_size
  obtain ⟨B, hB⟩ : ∃ B, B = wstr W := ⟨_, rfl⟩
  rw [← hB] at hsz HCW ⊢
  have HB := Lib.hid hB
  obtain ⟨C, hC⟩ : ∃ C, C = clB W := ⟨_, rfl⟩
  obtain ⟨Z, hZ⟩ : ∃ Z, Z = wstr (cmpB W) := ⟨_, rfl⟩
  rw [← hC, ← hZ]
  rw [← hC] at HCW
  have HC := Lib.hid hC
  have HZ := Lib.hid hZ
  have HSH := Lib.hid hsh
  clear hB hC hZ hsh
  go_enter Tryz.func18, Tryz.ntmps18
  go_wp2_with fail
  refine (HCW.out).mono ?_
  rintro e w1 ⟨rfl, b1⟩
  clear HCW
  cases C
  case false =>
    obtain rfl : Z = ⟨#[]⟩ := by rw [HZ.out, cmpB, ← HC.out]; rfl
    go_wp2
    refine bodyPost_ret (results_tmp2 rfl _ _ _) rfl ?_
    exact ⟨rfl, b1⟩
  obtain ⟨hn40, _, _⟩ := clB_iff.1 HC.out.symm
  obtain ⟨T, hT⟩ : ∃ T, T = cmpRn 0 W := ⟨_, rfl⟩
  have HZT : Hid (Z = wstr T) := Lib.hid (by rw [HZ.out, cmpB, ← HC.out, hT]; rfl)
  have HT0 : Hid ([] ++ cmpRn (runTo W 0) (W.drop 0) = T) := Lib.hid (by rw [hT]; rfl)
  have HTL := Lib.hid hT
  obtain ⟨n, hn⟩ : ∃ n, n = W.length := ⟨_, rfl⟩
  have HN := Lib.hid hn
  rw [← hn] at hsz hn40
  clear hn hT
  go_wp2
  go_loopw [4, 5, 6] (fun ov rv iv wr => ∃ (i r : Nat) (o : List UInt8), i ≤ n ∧ iv = .int .i64 i ∧ rv = .int .i64 r ∧ ov = .string (wstr o) ∧ Hid (r = runTo W i) ∧ Hid (o ++ cmpRn (runTo W i) (W.drop i) = T) ∧ o.length ≤ 2 * i ∧ Below w.heap.size w wr) (fun _ _ iv _ => n - (intOf iv).toNat)
  case atStart => exact ⟨0, 0, [], Nat.zero_le _, rfl, rfl, rfl, Lib.hid rfl, HT0, by simp, b1⟩
  case round =>
    clear b1
    obtain ⟨i, r, o, hin, rfl, rfl, rfl, HR, HX, hol, hbw⟩ := hrel
    by_cases hlt : i < n
    · have hlti : (i : Int) < (n : Int) := by omega
      have h0i : (0 : Int) ≤ (i : Int) := by omega
      obtain ⟨u, hu⟩ : ∃ u, W[i]? = some u := ⟨W[i]'(by rw [← HN.out]; exact hlt), List.getElem?_eq_getElem _⟩
      have hr9 : r + 1 ≤ 9 := by rw [HR.out]; exact runTo_9 HSH.out (by rw [← HN.out]; exact hlt)
      obtain ⟨hk2, hbk⟩ := wstr_at HB.out hu
      obtain ⟨x, hx⟩ : ∃ x : Int, x = (u.toNat : Int) := ⟨_, rfl⟩
      rw [← hx] at hbk
      obtain ⟨S, hS⟩ : ∃ S, S = wstr [u] := ⟨_, rfl⟩
      have hsl : B.extract i (i + 1) = S := by rw [HB.out, hS]; exact wstr_cut hu
      have hS1 : S.size = 1 := by rw [hS]; rfl
      obtain ⟨D, hD⟩ : ∃ D, D = dgt ((r + 1 : Nat) : Int) := ⟨_, rfl⟩
      have hD1 : D.size = 1 := by rw [hD]; exact dgt_size _
      obtain ⟨O, hO⟩ : ∃ O, O = wstr o := ⟨_, rfl⟩
      have hO1 : O.size ≤ 80 := by rw [hO, wstr_size]; omega
      have HU := Lib.hid hu
      have HS := Lib.hid hS
      have HDD := Lib.hid hD
      have HO := Lib.hid hO
      rw [← hO]
      have M1 : Hid (IntKind.i64.wrap ((i : Int) + 1) = (i : Int) + 1) := Lib.hid (IntWalk.i64_in _ (by omega))
      have m2 : wrap64 ((r : Int) + 1) = ((r + 1 : Nat) : Int) := by rw [IntWalk.wrap64_in _ (by omega)]; omega
      have HSL := Lib.hid hsl
      have HS1 := Lib.hid hS1
      have HD1 := Lib.hid hD1
      have HO1 := Lib.hid hO1
      have HBK := Lib.hid hbk
      clear hsl hS1 hD1 hO1
      by_cases hla : i + 1 = n
      case pos =>
        have HRN : Hid (runTo W (i + 1) = 0) := Lib.hid (by rw [runTo, if_neg (fun h => by have := h.1; rw [← HN.out] at this; omega)])
        have HLA : Hid (i + 1 = n) := Lib.hid hla
        clear hu hS hD hO hx hla hbk
        go_upto_region 9 with fail
        clear m2
        have m1 := M1.out
        have hbk := HBK.out
        have e1 : ((i : Int) + 1 == (n : Int)) = true := by rw [beq_iff_eq]; have := HLA.out; omega
        refine wp_region_later (by kernel_rfl) (by kernel_rfl) ?_
        repeat (go_big_quiet_step (fail))
        refine wpQuiet_nil ?_
        intro w3 hw3
        obtain ⟨u3, hu3⟩ := hw3
        subst hu3
        replace hbw := hbw.trans (u3.h.mono hbw.size)
        generalize u3.w = w3 at *
        clear e1 hbk m1
        go_upto_region 10 with fail
        have HD : Hid (∀ w', Calls Tryz.prog 43 #[.int .i64 ((r + 1 : Nat) : Int)] w' fun e w'' => e = .returned (.string D) ∧ Below w'.heap.size w' w'') := Lib.hid fun w' => by rw [HDD.out]; exact spec_dig_c _ w' (by omega) (by omega)
        have hsl := HSL.out
        have hS1 := HS1.out
        have hD1 := HD1.out
        have hO1 := HO1.out
        have y1 : ¬ 9223372036854775807 < O.size + D.size := by omega
        have y2 : ¬ 9223372036854775807 < O.size + D.size + S.size := by omega
        have y3 : ¬ 9223372036854775807 < (O ++ D).size + S.size := by rw [ByteArray.size_append]; omega
        have HX2 : Hid ((o ++ [dgU (r + 1), u]) ++ cmpRn (runTo W (i + 1)) (W.drop (i + 1)) = T) := Lib.hid (by
          rw [← HX.out, cmp_last (r := runTo W i) HU.out (by rw [← HN.out, HLA.out]), ← HR.out, HRN.out, List.append_assoc]
          rfl)
        have m1 := M1.out
        have HOO : Hid (O ++ D ++ S = wstr (o ++ [dgU (r + 1), u])) := Lib.hid (by rw [HO.out, HDD.out, HS.out, dgt_w, wstr_two])
        refine wp_region_later (by kernel_rfl) (by kernel_rfl) ?_
        repeat (go_big_quiet_step ((go_at_call 43; exact Later.call (HD.out _))))
        refine wpQuiet_nil ?_
        intro w3 hw3
        obtain ⟨u3, hu3⟩ := hw3
        subst hu3
        replace hbw := hbw.trans (u3.h.mono hbw.size)
        generalize u3.w = w3 at *
        clear y1 y2 y3 hsl HD hS1 hD1 hO1 m1
        go_wp2
        rw [HOO.out]
        go_roundw
        case rel => exact ⟨i + 1, 0, o ++ [dgU (r + 1), u], by omega, by go_num, rfl, rfl, Lib.hid HRN.out.symm, HX2, by rw [List.length_append]; simp; omega, hbw⟩
        case measure => simp [intOf]; omega
      case neg =>
        have hi1 : i + 1 < n := by omega
        have hi1i : (i : Int) + 1 < (n : Int) := by omega
        have e1 : ((i : Int) + 1 == (n : Int)) = false := by rw [beq_eq_false_iff_ne]; omega
        obtain ⟨v, hv⟩ : ∃ v, W[i + 1]? = some v := ⟨W[i + 1]'(by rw [← HN.out]; exact hi1), List.getElem?_eq_getElem _⟩
        obtain ⟨hk3, hbj⟩ := wstr_at HB.out hv
        obtain ⟨y, hy⟩ : ∃ y : Int, y = (v.toNat : Int) := ⟨_, rfl⟩
        rw [← hy] at hbj
        have HBJ := Lib.hid hbj
        have HV := Lib.hid hv
        by_cases hvu : v = u
        case pos =>
          have e2 : (y != x) = false := by rw [hx, hy, hvu]; simp
          have e3 : (y == x) = true := by rw [hx, hy, hvu]; simp
          have HRN : Hid (r + 1 = runTo W (i + 1)) := Lib.hid (by rw [runTo, if_pos ⟨by rw [← HN.out]; exact hi1, by rw [HV.out, HU.out, hvu]⟩, ← HR.out])
          have HX2 : Hid (o ++ cmpRn (runTo W (i + 1)) (W.drop (i + 1)) = T) := Lib.hid (by
            rw [← HX.out, cmp_same HU.out (by rw [← hvu]; exact HV.out), ← HR.out, HRN.out])
          have E2 := Lib.hid e2
          have E3 := Lib.hid e3
          clear hu hS hD hO hx hv hy hvu e1 e2 e3 hbk hbj
          go_upto_region 9 with fail
          clear m2
          have m1 := M1.out
          have hbk := HBK.out
          have hbj := HBJ.out
          have e1 : ((i : Int) + 1 == (n : Int)) = false := by rw [beq_eq_false_iff_ne]; omega
          have e2 := E2.out
          have e3 := E3.out
          refine wp_region_later (by kernel_rfl) (by kernel_rfl) ?_
          repeat (go_big_quiet_step (fail))
          refine wpQuiet_nil ?_
          intro w3 hw3
          obtain ⟨u3, hu3⟩ := hw3
          subst hu3
          replace hbw := hbw.trans (u3.h.mono hbw.size)
          generalize u3.w = w3 at *
          clear e1 e2 e3 hbk hbj m1
          go_wp2
          rw [HO.out]
          go_roundw
          case rel => exact ⟨i + 1, r + 1, o, by omega, by go_num, rfl, rfl, HRN, HX2, by omega, hbw⟩
          case measure => simp [intOf]; omega
        case neg =>
          have hne : ¬ y = x := fun e => hvu (UInt8.toNat_inj.1 (by omega))
          have e2 : (y != x) = true := by simpa using hne
          have e3 : (y == x) = false := beq_eq_false_iff_ne.2 hne
          have HRN : Hid (runTo W (i + 1) = 0) := Lib.hid (by rw [runTo, if_neg (fun h => by
            have h2 := h.2
            rw [HV.out, HU.out] at h2
            injection h2 with h2
            exact hvu h2)])
          have HVU := Lib.hid hvu
          have E2 := Lib.hid e2
          have E3 := Lib.hid e3
          clear hu hS hD hO hx hv hy hvu hne e1 e2 e3 hbk hbj
          go_upto_region 9 with fail
          clear m2
          have m1 := M1.out
          have hbk := HBK.out
          have hbj := HBJ.out
          have e1 : ((i : Int) + 1 == (n : Int)) = false := by rw [beq_eq_false_iff_ne]; omega
          have e2 := E2.out
          have e3 := E3.out
          refine wp_region_later (by kernel_rfl) (by kernel_rfl) ?_
          repeat (go_big_quiet_step (fail))
          refine wpQuiet_nil ?_
          intro w3 hw3
          obtain ⟨u3, hu3⟩ := hw3
          subst hu3
          replace hbw := hbw.trans (u3.h.mono hbw.size)
          generalize u3.w = w3 at *
          clear e1 e2 e3 hbk hbj m1
          go_upto_region 10 with fail
          have HD : Hid (∀ w', Calls Tryz.prog 43 #[.int .i64 ((r + 1 : Nat) : Int)] w' fun e w'' => e = .returned (.string D) ∧ Below w'.heap.size w' w'') := Lib.hid fun w' => by rw [HDD.out]; exact spec_dig_c _ w' (by omega) (by omega)
          have hsl := HSL.out
          have hS1 := HS1.out
          have hD1 := HD1.out
          have hO1 := HO1.out
          have y1 : ¬ 9223372036854775807 < O.size + D.size := by omega
          have y2 : ¬ 9223372036854775807 < O.size + D.size + S.size := by omega
          have y3 : ¬ 9223372036854775807 < (O ++ D).size + S.size := by rw [ByteArray.size_append]; omega
          have HX2 : Hid ((o ++ [dgU (r + 1), u]) ++ cmpRn (runTo W (i + 1)) (W.drop (i + 1)) = T) := Lib.hid (by
            rw [← HX.out, cmp_new (r := runTo W i) HU.out HV.out HVU.out, ← HR.out, HRN.out, List.append_assoc]
            rfl)
          have m1 := M1.out
          have HOO : Hid (O ++ D ++ S = wstr (o ++ [dgU (r + 1), u])) := Lib.hid (by rw [HO.out, HDD.out, HS.out, dgt_w, wstr_two])
          refine wp_region_later (by kernel_rfl) (by kernel_rfl) ?_
          repeat (go_big_quiet_step ((go_at_call 43; exact Later.call (HD.out _))))
          refine wpQuiet_nil ?_
          intro w3 hw3
          obtain ⟨u3, hu3⟩ := hw3
          subst hu3
          replace hbw := hbw.trans (u3.h.mono hbw.size)
          generalize u3.w = w3 at *
          clear y1 y2 y3 hsl HD hS1 hD1 hO1 m1
          go_wp2
          rw [HOO.out]
          go_roundw
          case rel => exact ⟨i + 1, 0, o ++ [dgU (r + 1), u], by omega, by go_num, rfl, rfl, Lib.hid HRN.out.symm, HX2, by rw [List.length_append]; simp; omega, hbw⟩
          case measure => simp [intOf]; omega
    · obtain rfl : i = n := by omega
      have HRF : Hid (Z = wstr o) := Lib.hid (by
        rw [HZT.out, ← HX.out, HN.out, List.drop_length]
        cases runTo W W.length <;> simp [cmpRn])
      obtain rfl := HRF.out
      clear HRF
      go_wp2
      refine bodyPost_ret (results_tmp2 rfl _ _ _) rfl ?_
      exact ⟨rfl, hbw⟩
set_option maxRecDepth 100000 in
set_option maxHeartbeats 3200000 in
theorem impl_cmp_c {W : List UInt8} (w : World) (hsh : shortR W) :
    Calls Tryz.prog 17 #[.string (wstr W)] w fun e w' => e = .returned (.tuple #[.string (wstr (cmpB W)), .bool (clB W)]) ∧ Below w.heap.size w w' := by
  have HCW := Lib.hid (impl_isClosed_c (W := W) w)
  have hsz : (wstr W).size = W.length := wstr_size
  obtain ⟨B, hB⟩ : ∃ B, B = wstr W := ⟨_, rfl⟩
  rw [← hB] at hsz HCW ⊢
  have HB := Lib.hid hB
  obtain ⟨C, hC⟩ : ∃ C, C = clB W := ⟨_, rfl⟩
  obtain ⟨Z, hZ⟩ : ∃ Z, Z = wstr (cmpB W) := ⟨_, rfl⟩
  rw [← hC, ← hZ]
  rw [← hC] at HCW
  have HC := Lib.hid hC
  have HZ := Lib.hid hZ
  have HSH := Lib.hid hsh
  clear hB hC hZ hsh
  go_enter Tryz.func17, Tryz.ntmps17
  go_wp2_with fail
  refine (HCW.out).mono ?_
  rintro e w1 ⟨rfl, b1⟩
  clear HCW
  cases C
  case false =>
    obtain rfl : Z = ⟨#[]⟩ := by rw [HZ.out, cmpB, ← HC.out]; rfl
    go_wp2
    refine bodyPost_ret (results_tmp2 rfl _ _ _) rfl ?_
    exact ⟨rfl, b1⟩
  obtain ⟨hn40, _, _⟩ := clB_iff.1 HC.out.symm
  obtain ⟨T, hT⟩ : ∃ T, T = cmpRn 0 W := ⟨_, rfl⟩
  have HZT : Hid (Z = wstr T) := Lib.hid (by rw [HZ.out, cmpB, ← HC.out, hT]; rfl)
  have HT0 : Hid ([] ++ cmpRn 0 (W.drop 0) = T) := Lib.hid (by rw [hT]; rfl)
  have HTL := Lib.hid hT
  obtain ⟨n, hn⟩ : ∃ n, n = W.length := ⟨_, rfl⟩
  have HN := Lib.hid hn
  rw [← hn] at hsz hn40
  clear hn hT
  go_wp2
  go_loopw [4, 5] (fun ov iv wr => ∃ (i : Nat) (o : List UInt8), i ≤ n ∧ iv = .int .i64 i ∧ ov = .string (wstr o) ∧ Hid (o ++ cmpRn 0 (W.drop i) = T) ∧ o.length ≤ 2 * i ∧ Below w.heap.size w wr) (fun _ iv _ => n - (intOf iv).toNat)
  case atStart => exact ⟨0, [], Nat.zero_le _, rfl, rfl, HT0, by simp, b1⟩
  case round =>
    clear b1
    obtain ⟨i, o, hin, rfl, rfl, HX, hol, hbw⟩ := hrel
    by_cases hlt : i < n
    · have hlti : (i : Int) < (n : Int) := by omega
      have h0i : (0 : Int) ≤ (i : Int) := by omega
      obtain ⟨u, hu⟩ : ∃ u, W[i]? = some u := ⟨W[i]'(by rw [← HN.out]; exact hlt), List.getElem?_eq_getElem _⟩
      obtain ⟨hk2, hbk⟩ := wstr_at HB.out hu
      obtain ⟨x, hx⟩ : ∃ x : Int, x = (u.toNat : Int) := ⟨_, rfl⟩
      rw [← hx] at hbk
      have HU := Lib.hid hu
      have HBK := Lib.hid hbk
      have HXU := Lib.hid hx
      clear hu hbk hx
      go_wp2
      go_loopw [6] (fun kv wr => ∃ k : Nat, i ≤ k ∧ k ≤ n ∧ kv = .int .i64 k ∧ Hid (∀ j, i ≤ j → j < k → W[j]? = some u) ∧ Below w.heap.size w wr) (fun kv _ => n - (intOf kv).toNat)
      case atStart => exact ⟨i, Nat.le_refl _, hin, rfl, Lib.hid (fun j h1 h2 => absurd h2 (by omega)), hbw⟩
      case round =>
        clear hbw
        obtain ⟨k, hik, hkn, rfl, HRU, hbw⟩ := hrel
        by_cases hkl : k < n
        · have hkli : (k : Int) < (n : Int) := by omega
          have h0k : (0 : Int) ≤ (k : Int) := by omega
          have hkld : decide ((k : Int) < (n : Int)) = true := decide_eq_true hkli
          obtain ⟨v, hv⟩ : ∃ v, W[k]? = some v := ⟨W[k]'(by rw [← HN.out]; exact hkl), List.getElem?_eq_getElem _⟩
          obtain ⟨hk3, hbj⟩ := wstr_at HB.out hv
          obtain ⟨y, hy⟩ : ∃ y : Int, y = (v.toNat : Int) := ⟨_, rfl⟩
          rw [← hy] at hbj
          have hbk := HBK.out
          by_cases hvu : v = u
          · have e3 : (y == x) = true := by rw [HXU.out, hy, hvu]; simp
            have HRU2 : Hid (∀ j, i ≤ j → j < k + 1 → W[j]? = some u) := Lib.hid fun j h1 h2 => by
              by_cases e : j = k
              · subst e; rw [← hvu]; exact hv
              · exact HRU.out j h1 (by omega)
            clear hv hy hvu
            go_wp2_with fail
            refine wp_region_later (by kernel_rfl) (by kernel_rfl) ?_
            repeat (go_big_quiet_step (fail))
            refine wpQuiet_nil ?_
            intro w3 hw3
            obtain ⟨u3, hu3⟩ := hw3
            subst hu3
            replace hbw := hbw.trans (u3.h.mono hbw.size)
            generalize u3.w = w3 at *
            clear e3 hbk hbj
            go_wp2
            go_roundw
            case rel => exact ⟨k + 1, by omega, by omega, by go_num, HRU2, hbw⟩
            case measure => simp [intOf]; omega
          · have hne : ¬ y = x := fun e => hvu (UInt8.toNat_inj.1 (by have := HXU.out; omega))
            have e3 : (y == x) = false := beq_eq_false_iff_ne.2 hne
            have HV := Lib.hid hv
            have HVU := Lib.hid hvu
            clear hv hy hvu hne
            go_wp2_with fail
            refine wp_region_later (by kernel_rfl) (by kernel_rfl) ?_
            repeat (go_big_quiet_step (fail))
            refine wpQuiet_nil ?_
            intro w3 hw3
            obtain ⟨u3, hu3⟩ := hw3
            subst hu3
            replace hbw := hbw.trans (u3.h.mono hbw.size)
            generalize u3.w = w3 at *
            clear e3 hbk hbj
            go_upto_region 9 with fail
            have HIK : Hid (i < k) := Lib.hid (by have h3 : ¬ i = k := (fun e => HVU.out (by have h2 := HV.out; rw [← e, HU.out] at h2; injection h2 with h2; exact h2.symm)); omega)
            have hik := HIK.out
            have h9 : k - i ≤ 9 := HSH.out i k u (by omega) HRU.out
            obtain ⟨d, hd⟩ : ∃ d : Nat, d = k - i := ⟨_, rfl⟩
            have hd9 : d ≤ 9 := by omega
            obtain ⟨S, hS⟩ : ∃ S, S = wstr [u] := ⟨_, rfl⟩
            have hsl : B.extract i (i + 1) = S := by rw [HB.out, hS]; exact wstr_cut HU.out
            have hS1 : S.size = 1 := by rw [hS]; rfl
            obtain ⟨D, hD⟩ : ∃ D, D = dgt (d : Int) := ⟨_, rfl⟩
            have hD1 : D.size = 1 := by rw [hD]; exact dgt_size _
            obtain ⟨O, hO⟩ : ∃ O, O = wstr o := ⟨_, rfl⟩
            have hO1 : O.size ≤ 80 := by rw [hO, wstr_size]; omega
            have HDC : Hid (∀ w' : World, Calls Tryz.prog 42 #[.int .i64 ((k : Int) - (i : Int))] w' fun e w'' => e = .returned (.string D) ∧ w' = w'') := Lib.hid fun w' => by rw [hD, show (k : Int) - (i : Int) = (d : Int) by omega]; exact impl_dig_c _ w' (by omega) (by omega)
            have HX2 : Hid ((o ++ [dgU d, u]) ++ cmpRn 0 (W.drop k) = T) := Lib.hid (by
              rw [← HX.out, cmp_end hik HRU.out (.inr ⟨v, HV.out, HVU.out⟩), hd, List.append_assoc]
              rfl)
            have HOO : Hid (O ++ (D ++ S) = wstr (o ++ [dgU d, u])) := Lib.hid (by rw [hO, hD, hS, dgt_w, wstr_two'])
            have y0 : wrap64 ((k : Int) - (i : Int)) = (k : Int) - (i : Int) := IntWalk.wrap64_in _ (by omega)
            have y1 : ¬ 9223372036854775807 < D.size + S.size := by omega
            have y2 : ¬ 9223372036854775807 < O.size + (D ++ S).size := by rw [ByteArray.size_append]; omega
            have y3 : ¬ 9223372036854775807 < O.size + (D.size + S.size) := by omega
            have m1 : IntKind.i64.wrap ((i : Int) + 1) = (i : Int) + 1 := IntWalk.i64_in _ (by omega)
            have hii : (i : Int) + 1 ≤ (n : Int) := by omega
            rw [← hO]
            clear hd hS hD hO
            refine wp_region_later (by kernel_rfl) (by kernel_rfl) ?_
            repeat (go_big_quiet_step ((go_at_call 42; exact Later.same (HDC.out _))))
            refine wpQuiet_nil ?_
            intro w3 hw3
            obtain ⟨u3, hu3⟩ := hw3
            subst hu3
            replace hbw := hbw.trans (u3.h.mono hbw.size)
            generalize u3.w = w3 at *
            clear y0 y1 y2 y3 hsl hS1 hD1 hO1 m1 HDC hii
            go_wp2
            rw [HOO.out]
            go_roundw
            case rel => exact ⟨k, o ++ [dgU d, u], by omega, rfl, rfl, HX2, by rw [List.length_append]; simp; omega, hbw⟩
            case measure => simp [intOf]; omega
        · obtain rfl : k = n := by omega
          have hkld : decide ((k : Int) < (k : Int)) = false := decide_eq_false (by omega)
          go_wp2_with fail
          refine wp_region_later (by kernel_rfl) (by kernel_rfl) ?_
          repeat (go_big_quiet_step (fail))
          refine wpQuiet_nil ?_
          intro w3 hw3
          obtain ⟨u3, hu3⟩ := hw3
          subst hu3
          replace hbw := hbw.trans (u3.h.mono hbw.size)
          generalize u3.w = w3 at *
          clear hkld
          go_upto_region 9 with fail
          obtain ⟨n, hn⟩ : ∃ n, n = k := ⟨_, rfl⟩
          have HIK : Hid (i < k) := Lib.hid (by omega)
          have hik := HIK.out
          have h9 : k - i ≤ 9 := HSH.out i k u (by omega) HRU.out
          obtain ⟨d, hd⟩ : ∃ d : Nat, d = k - i := ⟨_, rfl⟩
          have hd9 : d ≤ 9 := by omega
          obtain ⟨S, hS⟩ : ∃ S, S = wstr [u] := ⟨_, rfl⟩
          have hsl : B.extract i (i + 1) = S := by rw [HB.out, hS]; exact wstr_cut HU.out
          have hS1 : S.size = 1 := by rw [hS]; rfl
          obtain ⟨D, hD⟩ : ∃ D, D = dgt (d : Int) := ⟨_, rfl⟩
          have hD1 : D.size = 1 := by rw [hD]; exact dgt_size _
          obtain ⟨O, hO⟩ : ∃ O, O = wstr o := ⟨_, rfl⟩
          have hO1 : O.size ≤ 80 := by rw [hO, wstr_size]; omega
          have HDC : Hid (∀ w' : World, Calls Tryz.prog 42 #[.int .i64 ((k : Int) - (i : Int))] w' fun e w'' => e = .returned (.string D) ∧ w' = w'') := Lib.hid fun w' => by rw [hD, show (k : Int) - (i : Int) = (d : Int) by omega]; exact impl_dig_c _ w' (by omega) (by omega)
          have HX2 : Hid ((o ++ [dgU d, u]) ++ cmpRn 0 (W.drop k) = T) := Lib.hid (by
            rw [← HX.out, cmp_end hik HRU.out (.inl HN.out), hd, List.append_assoc]
            rfl)
          have HOO : Hid (O ++ (D ++ S) = wstr (o ++ [dgU d, u])) := Lib.hid (by rw [hO, hD, hS, dgt_w, wstr_two'])
          have y0 : wrap64 ((k : Int) - (i : Int)) = (k : Int) - (i : Int) := IntWalk.wrap64_in _ (by omega)
          have y1 : ¬ 9223372036854775807 < D.size + S.size := by omega
          have y2 : ¬ 9223372036854775807 < O.size + (D ++ S).size := by rw [ByteArray.size_append]; omega
          have y3 : ¬ 9223372036854775807 < O.size + (D.size + S.size) := by omega
          have m1 : IntKind.i64.wrap ((i : Int) + 1) = (i : Int) + 1 := IntWalk.i64_in _ (by omega)
          have hii : (i : Int) + 1 ≤ (n : Int) := by omega
          rw [← hO]
          clear hd hS hD hO
          refine wp_region_later (by kernel_rfl) (by kernel_rfl) ?_
          repeat (go_big_quiet_step ((go_at_call 42; exact Later.same (HDC.out _))))
          refine wpQuiet_nil ?_
          intro w3 hw3
          obtain ⟨u3, hu3⟩ := hw3
          subst hu3
          replace hbw := hbw.trans (u3.h.mono hbw.size)
          generalize u3.w = w3 at *
          clear y0 y1 y2 y3 hsl hS1 hD1 hO1 m1 HDC hii
          go_wp2
          rw [HOO.out]
          go_roundw
          case rel => exact ⟨k, o ++ [dgU d, u], by omega, rfl, rfl, HX2, by rw [List.length_append]; simp; omega, hbw⟩
          case measure => simp [intOf]; omega
    · obtain rfl : i = n := by omega
      have HRF : Hid (Z = wstr o) := Lib.hid (by
        rw [HZT.out, ← HX.out, HN.out, List.drop_length]
        simp [cmpRn])
      obtain rfl := HRF.out
      clear HRF
      go_wp2
      refine bodyPost_ret (results_tmp2 rfl _ _ _) rfl ?_
      exact ⟨rfl, hbw⟩
end Go.Proofs.YtghpkfihdcjlaaaGreatDoor
