
/-
  Puzzles, plain: the solutions in order, the first of them, and when there is none. Puzzles, the reference's search. Puzzles, the program's search. Puzzles, the program's walks: the pieces' cells, the placements of each, the solutions. Puzzles: the reference's solutions; PuzzleSolutions, both walks. PuzzleSolutions, both walks. IsSolution and CountSolutions: plain, and the walks. CountSolutions: both walks.
-/
import Derived.Test.YtppbkiajcpdkiaaGreatDoorPlcP
import Derived.Test.YtppbkiajcpdkiaaGreatDoorMskX
import Derived.Test.YtppbkiajcpdkiaaGreatDoorRowX
import Derived.Test.YtppbkiajcpdkiaaGreatDoorCwWalks
import Derived.IntWalk
import Derived.Deep.DeepCutAuto
import Derived.Test.YtppbkiajcpdkiaaGreatDoorCkA
import Derived.Test.YtppbkiajcpdkiaaGreatDoorFlipX
import Derived.Test.YtppbkiajcpdkiaaGreatDoorArX
import Derived.Test.YtppbkiajcpdkiaaGreatDoorAllX
import Derived.Test.YtppbkiajcpdkiaaGreatDoorCkG
import Derived.Test.YtppbkiajcpdkiaaGreatDoorPlcSX
import Derived.Test.YtppbkiajcpdkiaaGreatDoorCkC
namespace Go.Proofs.YtppbkiajcpdkiaaGreatDoor

theorem pz_or_add {m x : Nat} (hm : m < 2 ^ 64) (hx : x < 2 ^ 64) (h : m &&& x = 0) : m ||| x = m + x := by
  have hb : BitVec.ofNat 64 m &&& BitVec.ofNat 64 x = 0#64 := by
    apply BitVec.eq_of_toNat_eq
    rw [BitVec.toNat_and, BitVec.toNat_ofNat, BitVec.toNat_ofNat, Nat.mod_eq_of_lt hm, Nat.mod_eq_of_lt hx, h]; rfl
  have h1 := BitVec.toNat_add_of_and_eq_zero hb
  rw [BitVec.add_eq_or_of_and_eq_zero _ _ hb, BitVec.toNat_or, BitVec.toNat_ofNat, BitVec.toNat_ofNat, Nat.mod_eq_of_lt hm, Nat.mod_eq_of_lt hx] at h1
  exact h1
theorem pz_sub_and {a m : Nat} (h : m &&& a = m) (ha : a < 2 ^ 64) : a &&& (2 ^ 64 - (m + 1)) = a - m := by
  have hm : m < 2 ^ 64 := by rw [← h]; exact Nat.lt_of_le_of_lt Nat.and_le_right ha
  have e : a = m + (a &&& (2 ^ 64 - (m + 1))) := by
    have h1 : m &&& (a &&& (2 ^ 64 - (m + 1))) = 0 := by
      apply Nat.eq_of_testBit_eq
      intro i
      rw [Nat.testBit_and, Nat.testBit_and, Nat.testBit_two_pow_sub_succ hm]
      cases m.testBit i <;> simp
    have h2 : m ||| (a &&& (2 ^ 64 - (m + 1))) = a := by
      apply Nat.eq_of_testBit_eq
      intro i
      rw [Nat.testBit_or, Nat.testBit_and, Nat.testBit_two_pow_sub_succ hm]
      have h3 : (m &&& a).testBit i = m.testBit i := by rw [h]
      rw [Nat.testBit_and] at h3
      by_cases hi : i < 64
      · cases hm : m.testBit i <;> cases ha : a.testBit i <;> simp_all
      · have : a.testBit i = false := Nat.testBit_lt_two_pow (Nat.lt_of_lt_of_le ha (Nat.pow_le_pow_right (by decide) (by omega)))
        rw [this] at h3 ⊢
        simpa using h3.symm
    conv => lhs; rw [← h2]
    exact pz_or_add hm (Nat.lt_of_le_of_lt Nat.and_le_left ha) h1
  omega
theorem pz_sub_test {a m : Nat} (h : m &&& a = m) (ha : a < 2 ^ 64) (i : Nat) : (a - m).testBit i = (a.testBit i && !m.testBit i) := by
  have hm : m < 2 ^ 64 := by rw [← h]; exact Nat.lt_of_le_of_lt Nat.and_le_right ha
  rw [← pz_sub_and h ha, Nat.testBit_and, Nat.testBit_two_pow_sub_succ hm]
  by_cases hi : i < 64
  · simp [hi]
  · have : a.testBit i = false := Nat.testBit_lt_two_pow (Nat.lt_of_lt_of_le ha (Nat.pow_le_pow_right (by decide) (by omega)))
    rw [this]; simp
theorem pz_le {f m : Nat} (h : m &&& f = m) : m ≤ f := by rw [← h]; exact Nat.and_le_right
/-- what a placement of the first piece gives, with what the others give -/
def pzAt (S : Nat → List (List Nat)) (f m : Nat) : List (List Nat) := if m &&& f = m then (S (f - m)).map (m :: ·) else []
/-- all ways to put the pieces in order -/
def pzS : List (List Nat) → Nat → List (List Nat)
  | [], f => if f = 0 then [[]] else []
  | P :: at', f => P.flatMap (pzAt (pzS at') f)
theorem pzS_drop {at' : List (List Nat)} {i f : Nat} {P : List Nat} (h : at'[i]? = some P) : pzS (at'.drop i) f = P.flatMap (pzAt (pzS (at'.drop (i + 1))) f) := by
  obtain ⟨h1, h2⟩ := List.getElem?_eq_some_iff.1 h
  rw [List.drop_eq_getElem_cons h1, h2]
  rfl
theorem pzS_len : ∀ {at' : List (List Nat)} {f : Nat} {t : List Nat}, t ∈ pzS at' f → t.length = at'.length
  | [], f, t, h => by
    unfold pzS at h
    split at h
    · simp at h; subst h; rfl
    · simp at h
  | P :: at', f, t, h => by
    unfold pzS at h
    obtain ⟨m, _, h2⟩ := List.mem_flatMap.1 h
    unfold pzAt at h2
    split at h2
    · obtain ⟨t', h3, rfl⟩ := List.mem_map.1 h2
      rw [List.length_cons, List.length_cons, pzS_len h3]
    · simp at h2
/-- where the pieces do not reach, there is nothing -/
theorem pzS_reach : ∀ {at' : List (List Nat)} {f acc : Nat} {t : List Nat}, f < 2 ^ 64 → t ∈ pzS at' f → (∀ P ∈ at', ∀ m ∈ P, m &&& f = m → m &&& acc = m) → f &&& acc = f
  | [], f, acc, t, _, h, _ => by
    unfold pzS at h
    split at h
    · rename_i h0; rw [h0, Nat.zero_and]
    · simp at h
  | P :: at', f, acc, t, hf, h, hr => by
    unfold pzS at h
    obtain ⟨m, hm, h2⟩ := List.mem_flatMap.1 h
    unfold pzAt at h2
    split at h2
    · rename_i hmf
      obtain ⟨t', h3, rfl⟩ := List.mem_map.1 h2
      have hma := hr P (List.mem_cons_self ..) m hm hmf
      have hst := pz_sub_test hmf hf
      have ih := pzS_reach (acc := acc) (show f - m < 2 ^ 64 by omega) h3 (fun Q hQ m' hm' h4 => hr Q (List.mem_cons_of_mem _ hQ) m' hm' (by
        apply Nat.eq_of_testBit_eq
        intro i
        have h5 : (m' &&& (f - m)).testBit i = m'.testBit i := by rw [h4]
        rw [Nat.testBit_and, hst] at h5
        rw [Nat.testBit_and]
        cases h6 : m'.testBit i <;> cases h7 : f.testBit i <;> simp_all))
      apply Nat.eq_of_testBit_eq
      intro i
      have h5 : ((f - m) &&& acc).testBit i = (f - m).testBit i := by rw [ih]
      have h6 : (m &&& acc).testBit i = m.testBit i := by rw [hma]
      rw [Nat.testBit_and, hst] at h5
      rw [Nat.testBit_and] at h6 ⊢
      cases h7 : m.testBit i <;> cases h8 : f.testBit i <;> simp_all
    · simp at h2
theorem pzS_none {at' : List (List Nat)} {f acc : Nat} (hf : f < 2 ^ 64) (ha : acc &&& f = acc) (hne : acc ≠ f) (hr : ∀ P ∈ at', ∀ m ∈ P, m &&& f = m → m &&& acc = m) : pzS at' f = [] := by
  cases h : pzS at' f with
  | nil => rfl
  | cons t T =>
    have := pzS_reach hf (t := t) (by rw [h]; exact List.mem_cons_self ..) hr
    rw [Nat.and_comm] at this
    exact absurd (ha.symm.trans this) hne
/-- lists behind others, at most N -/
def ext (N : Nat) (seen T : List (List Nat)) : List (List Nat) := seen ++ T.take (N - seen.length)
theorem ext_nil {N : Nat} {seen : List (List Nat)} : ext N seen [] = seen := by simp [ext]
theorem ext_le {N : Nat} {seen T : List (List Nat)} (h : seen.length ≤ N) : (ext N seen T).length ≤ N := by unfold ext; rw [List.length_append, List.length_take]; omega
theorem ext_app {N : Nat} {seen X Y : List (List Nat)} (h : (ext N seen X).length < N) : ext N (ext N seen X) Y = ext N seen (X ++ Y) := by
  unfold ext at h ⊢
  rw [List.length_append, List.length_take] at h
  have e : X.take (N - seen.length) = X := List.take_of_length_le (by omega)
  rw [e, List.length_append, List.append_assoc, List.take_append, e, Nat.sub_sub]
theorem ext_stop {N : Nat} {seen X Y : List (List Nat)} (h : ¬ (ext N seen X).length < N) : ext N seen (X ++ Y) = ext N seen X := by
  unfold ext at h ⊢
  rw [List.length_append, List.length_take] at h
  rw [List.take_append, show N - seen.length - X.length = 0 by omega, List.take_zero, List.append_nil]
theorem ext_one {N : Nat} {seen : List (List Nat)} {t : List Nat} (h : seen.length < N) : ext N seen [t] = seen ++ [t] := by
  unfold ext
  obtain ⟨k, hk⟩ : ∃ k, N - seen.length = k + 1 := ⟨N - seen.length - 1, by omega⟩
  rw [hk]; simp
/-- .. with what was put before -/
def pzL (l : List Nat) (T : List (List Nat)) : List (List Nat) := T.map (l ++ ·)
theorem pzL_app {l : List Nat} {X Y : List (List Nat)} : pzL l (X ++ Y) = pzL l X ++ pzL l Y := by simp [pzL]
theorem pzL_at {S : Nat → List (List Nat)} {f m : Nat} {l : List Nat} (h : m &&& f = m) : pzL l (pzAt S f m) = pzL (l ++ [m]) (S (f - m)) := by
  unfold pzAt pzL
  rw [if_pos h, List.map_map]
  apply List.map_congr_left
  intro t _
  simp
theorem pzL_not {S : Nat → List (List Nat)} {f m : Nat} {l : List Nat} (h : ¬ m &&& f = m) : pzL l (pzAt S f m) = [] := by
  unfold pzAt pzL
  rw [if_neg h]; rfl
theorem pz_take {P : List Nat} {g : Nat → List (List Nat)} {j m : Nat} (h : P[j]? = some m) : (P.take (j + 1)).flatMap g = (P.take j).flatMap g ++ g m := by
  rw [List.take_add_one, h]; simp
theorem pz_split {P : List Nat} {g : Nat → List (List Nat)} (j : Nat) : P.flatMap g = (P.take j).flatMap g ++ (P.drop j).flatMap g := by
  rw [← List.flatMap_append, List.take_append_drop]
theorem and_or_l {m a b : Nat} (h : m &&& a = m) : m &&& (a ||| b) = m := by
  apply Nat.eq_of_testBit_eq
  intro i
  have h5 : (m &&& a).testBit i = m.testBit i := by rw [h]
  rw [Nat.testBit_and] at h5
  rw [Nat.testBit_and, Nat.testBit_or]
  cases h6 : m.testBit i <;> cases h7 : a.testBit i <;> simp_all
theorem or_and_r {a b f : Nat} (h : a &&& f = a) (h2 : b &&& f = b) : (a ||| b) &&& f = a ||| b := by
  apply Nat.eq_of_testBit_eq
  intro i
  have h5 : (a &&& f).testBit i = a.testBit i := by rw [h]
  have h6 : (b &&& f).testBit i = b.testBit i := by rw [h2]
  rw [Nat.testBit_and] at h5 h6
  rw [Nat.testBit_and, Nat.testBit_or]
  cases h7 : a.testBit i <;> cases h8 : b.testBit i <;> simp_all
/-- what the pieces from i on reach, j of them seen -/
def PzR (at' : List (List Nat)) (free i j acc : Nat) : Prop := acc &&& free = acc ∧ ∀ j', j' < j → ∀ P, at'[i + j']? = some P → ∀ m ∈ P, m &&& free = m → m &&& acc = m
def PzR2 (at' : List (List Nat)) (free i j acc : Nat) (Q : List Nat) (q : Nat) : Prop := PzR at' free i j acc ∧ ∀ m ∈ Q.take q, m &&& free = m → m &&& acc = m
theorem PzR.start {at' : List (List Nat)} {free i : Nat} : PzR at' free i 0 0 := ⟨Nat.zero_and _, fun _ h => absurd h (Nat.not_lt_zero _)⟩
theorem PzR.row {at' : List (List Nat)} {free i j acc : Nat} {Q : List Nat} (h : PzR at' free i j acc) : PzR2 at' free i j acc Q 0 := ⟨h, fun m hm => by simp at hm⟩
theorem PzR2.skip {at' : List (List Nat)} {free i j acc q m : Nat} {Q : List Nat} (h : PzR2 at' free i j acc Q q) (hm : Q[q]? = some m) (hn : ¬ m &&& free = m) : PzR2 at' free i j acc Q (q + 1) :=
  ⟨h.1, fun x hx hf => by
    rw [List.take_add_one, hm] at hx
    rcases List.mem_append.1 hx with hx | hx
    · exact h.2 x hx hf
    · simp at hx; subst hx; exact absurd hf hn⟩
theorem PzR2.take {at' : List (List Nat)} {free i j acc q m : Nat} {Q : List Nat} (h : PzR2 at' free i j acc Q q) (hm : Q[q]? = some m) (hy : m &&& free = m) : PzR2 at' free i j (acc ||| m) Q (q + 1) :=
  ⟨⟨or_and_r h.1.1 hy, fun j' hj P hP x hx hf => and_or_l (h.1.2 j' hj P hP x hx hf)⟩, fun x hx hf => by
    rw [List.take_add_one, hm] at hx
    rcases List.mem_append.1 hx with hx | hx
    · exact and_or_l (h.2 x hx hf)
    · simp at hx; subst hx
      rw [Nat.or_comm]
      exact and_or_l (Nat.and_self _)⟩
theorem PzR2.all {at' : List (List Nat)} {free i j acc : Nat} {Q : List Nat} (h : PzR2 at' free i j acc Q Q.length) (hQ : at'[i + j]? = some Q) : PzR at' free i (j + 1) acc :=
  ⟨h.1.1, fun j' hj P hP x hx hf => by
    by_cases e : j' = j
    · subst e
      rw [hQ] at hP
      injection hP with hP
      subst hP
      exact h.2 x (by rw [List.take_length]; exact hx) hf
    · exact h.1.2 j' (by omega) P hP x hx hf⟩
theorem PzR.none {at' : List (List Nat)} {free i acc k : Nat} (h : PzR at' free i (k - i) acc) (hk : k = at'.length) (hf : free < 2 ^ 64) (hne : acc ≠ free) : pzS (at'.drop i) free = [] :=
  pzS_none hf h.1 hne fun P hP m hm hmf => by
    obtain ⟨j, hj⟩ := List.getElem?_of_mem hP
    rw [List.getElem?_drop] at hj
    have := (List.getElem?_eq_some_iff.1 hj).1
    exact h.2 j (by omega) P hj m hm hmf
/-- what is kept behind q placements of piece i -/
def pzQ (at' : List (List Nat)) (seen : List (List Nat)) (l : List Nat) (free : Nat) (P : List Nat) (q : Nat) : List (List Nat) := ext 300 seen (pzL l ((P.take q).flatMap (pzAt (pzS (at'.drop (l.length + 1))) free)))
theorem pzQ_zero {at' seen : List (List Nat)} {l P : List Nat} {free : Nat} : pzQ at' seen l free P 0 = seen := by unfold pzQ; exact ext_nil
theorem pzQ_skip {at' seen : List (List Nat)} {l P : List Nat} {free q m : Nat} (hm : P[q]? = some m) (hn : ¬ m &&& free = m) : pzQ at' seen l free P (q + 1) = pzQ at' seen l free P q := by
  unfold pzQ
  rw [pz_take hm, pzL_app, pzL_not hn, List.append_nil]
theorem pzQ_take {at' seen : List (List Nat)} {l P : List Nat} {free q m : Nat} (hm : P[q]? = some m) (hy : m &&& free = m) (h3 : (pzQ at' seen l free P q).length < 300) : pzQ at' seen l free P (q + 1) = ext 300 (pzQ at' seen l free P q) (pzL (l ++ [m]) (pzS (at'.drop (l ++ [m]).length) (free - m))) := by
  unfold pzQ at h3 ⊢
  rw [ext_app h3, pz_take hm, pzL_app, pzL_at hy, List.length_append]
  rfl
theorem pzQ_stop {at' seen : List (List Nat)} {l P : List Nat} {free q : Nat} (hP : at'[l.length]? = some P) (h3 : ¬ (pzQ at' seen l free P q).length < 300) : pzQ at' seen l free P q = ext 300 seen (pzL l (pzS (at'.drop l.length) free)) := by
  unfold pzQ at h3 ⊢
  rw [pzS_drop hP, pz_split (P := P) q, pzL_app, ext_stop h3]
theorem pzQ_end {at' seen : List (List Nat)} {l P : List Nat} {free q : Nat} (hP : at'[l.length]? = some P) (hq : q = P.length) : pzQ at' seen l free P q = ext 300 seen (pzL l (pzS (at'.drop l.length) free)) := by
  unfold pzQ
  rw [pzS_drop hP, hq, List.take_length]
end Go.Proofs.YtppbkiajcpdkiaaGreatDoor

namespace Go.Proofs.YtppbkiajcpdkiaaGreatDoor
open Go.RowKit

set_option maxRecDepth 100000 in
theorem infoIntY : (Tryz.prog.info? 3).map (fun i => (i.zero, i.size, i.bytes)) = some (some (.int .i64 0), 1, 8) := by kernel_rfl
set_option maxRecDepth 100000 in
theorem infoRowY : (Tryz.prog.info? 27).map (fun i => (i.zero, i.size, i.bytes)) = some (some (.slice none 0 0), 1, 24) := by kernel_rfl
theorem ocY {v : Value} (h : v.oneCell' = true) : ∀ u ∈ [v], u.oneCell' = true := by intro u hu; simp at hu; subst hu; exact h
theorem ssrd_at {w : World} {A : Option Addr} {n c i : Nat} {M : List (List Int)} {r : List Int} (h : IntSSRd w 0 w.heap.size (.slice A n c) M) (hi : M[i]? = some r) : ∃ b off A' c', A = some ⟨b, off, none⟩ ∧ b < w.heap.size ∧ w.cell? ⟨b, off + i, none⟩ = some (.slice A' r.length c') ∧ IntsRd w 0 w.heap.size (.slice A' r.length c') r := by
  obtain ⟨vs, ⟨A0, c0, e, _, hr⟩, hs⟩ := h
  injection e with e1 e2 e3
  subst e1
  obtain ⟨b, off, e4, _, hb, hc⟩ := hr.2 (by have := (List.getElem?_eq_some_iff.1 hi).1; omega)
  obtain ⟨x, hx, hrx⟩ := hs.2 i r hi
  obtain ⟨A', c', rfl, h1, h2⟩ := id hrx
  exact ⟨b, off, A', c', e4, hb, hc i _ hx, ⟨A', c', rfl, h1, h2⟩⟩
theorem ints_atY {w : World} {A : Option Addr} {n c i : Nat} {l : List Int} {y : Int} (h : IntsRd w 0 w.heap.size (.slice A n c) l) (hy : l[i]? = some y) : ∃ b off, A = some ⟨b, off, none⟩ ∧ b < w.heap.size ∧ w.cell? ⟨b, off + i, none⟩ = some (.int .i64 y) := by
  obtain ⟨A', c', e, _, hr⟩ := h
  injection e with e1 e2 e3
  subst e1
  obtain ⟨b, off, e4, _, hb, hc⟩ := hr.2 (by have := (List.getElem?_eq_some_iff.1 hy).1; omega)
  exact ⟨b, off, e4, hb, hc i _ (by simp [ic, hy])⟩
set_option maxRecDepth 100000 in
/-- no hints -/
theorem none_c {w0 w : World} {n : Nat} {L : List Res} (hn : n ≤ 1000) (H : Sep w0 w L) :
    Calls Tryz.prog 176 #[.int .i64 n] w (fun e w' => ∃ v, e = .returned v ∧ Sep w0 w' (Res.row v 3 1 n (ic (List.replicate n (-1))) :: L)) := by
  obtain ⟨i0, hi, hz0, hz1, hz2⟩ := info_parts infoIntY
  have H0 := H.rowBox 3 #[] 1 0 rfl (by decide)
  clear H
  go_enter Tryz.func176, Tryz.ntmps176
  go_wp2
  go_loopw [3, 4] (fun ov kv wx => ∃ k : Nat, k ≤ n ∧ kv = .int .i64 k ∧ Sep w0 wx (Res.row ov 3 1 k (ic (List.replicate k (-1))) :: L)) (fun _ kv _ => n - (intOf kv).toNat)
  case atStart => exact ⟨0, Nat.zero_le _, rfl, H0⟩
  case round =>
    clear H0
    obtain ⟨k, hk, rfl, H⟩ := hrel
    by_cases hlt : k < n
    · have hlti : (k : Int) < (n : Int) := by omega
      have HST : Hid (ic (List.replicate (k + 1) (-1 : Int)) = ic (List.replicate k (-1)) ++ [.int .i64 (-1)]) := Lib.hid (by rw [List.replicate_succ', ic_append]; rfl)
      go_wp2_with (at_builtin; refine wpList_app rfl _ _ 27 rfl 3 i0 _ 1 8 Tryz.underlying27 hi hz0 hz1 hz2 rfl (by decide) _ _ _ rfl (H.alloc _) _ _ _ [.int .i64 (-1)] rfl (Rd.fresh _ 3 #[.int .i64 (-1)] 1 1 rfl) oc1 (by unfold maxLen; omega) (by omega) ?_; intro v4 w4 H4)
      rw [← HST.out] at H4
      clear H
      go_wp2
      go_roundw
      case rel => exact ⟨k + 1, by omega, by go_num, H4⟩
      case measure => simp [intOf]; omega
    · obtain rfl : k = n := by omega
      go_wp2
      go_ret
      exact ⟨_, rfl, H⟩
def SrPost (S : List (List Nat)) (w : World) (e : Ending) (w' : World) : Prop := ∃ g n c vs, e = .returned (.slice (some ⟨g, 0, none⟩) n c) ∧ n = S.length ∧ Sep w w' [Res.row (.slice (some ⟨g, 0, none⟩) n c) 27 1 n vs, Res.rows vs (S.map nl)]
theorem SrPost.mk {S T : List (List Nat)} {w w' : World} {g n c : Nat} {vs : List Value} (hS : S = T) (hn : n = S.length) (H : Sep w w' [Res.row (.slice (some ⟨g, 0, none⟩) n c) 27 1 n vs, Res.rows vs (S.map nl)]) : SrPost T w (.returned (.slice (some ⟨g, 0, none⟩) n c)) w' := by
  subst hS
  exact ⟨g, n, c, vs, rfl, hn, H⟩
def SrC (k : Nat) (pv hv : Value) (at' : List (List Nat)) (d : Nat) : Prop := ∀ (w : World) (free most i : Nat), i + d = k → k = at'.length → k ≤ 1000 → (∀ P ∈ at', P.length ≤ 1000000 ∧ ∀ m ∈ P, m < 2 ^ 36) → free < 2 ^ 36 → 1 ≤ most → most ≤ 300 →
  IntSSRd w 0 w.heap.size pv (at'.map nl) → IntsRd w 0 w.heap.size hv (List.replicate k (-1)) → Calls Tryz.prog 199 #[pv, hv, .int .i64 free, .int .i64 i, .int .i64 most] w (SrPost ((pzS (at'.drop i) free).take most) w)
set_option maxRecDepth 100000 in
set_option maxHeartbeats 1600000 in
theorem sr_zero (k : Nat) (pv hv : Value) (at' : List (List Nat)) : SrC k pv hv at' 0 := by
  intro w free most i hd hk hk5 _ hf h1 h3 hp hh
  obtain rfl : i = k := by omega
  obtain ⟨vs, ⟨A, c, rfl, _, _⟩, _⟩ := hp
  obtain ⟨Ah, ch, rfl, _, _⟩ := hh
  have hlen : (at'.map nl).length = i := by rw [List.length_map]; exact hk.symm
  rw [hlen]
  have hlr : (List.replicate i (-1 : Int)).length = i := List.length_replicate
  rw [hlr]
  have HD : Hid (pzS (at'.drop i) free = if free = 0 then [[]] else []) := Lib.hid (by rw [hk, List.drop_length]; rfl)
  clear hlen hlr hk
  by_cases h0 : free = 0
  · subst h0
    have Ha := (Sep.start w).rowBox 3 #[] 1 0 rfl (by decide)
    have Hb := Sep.rowsSnoc (r := []) Ha.rowsNil rfl
    have H0 := Hb.rowBox 27 #[.slice (some ⟨w.heap.size, 0, none⟩) 0 0] 1 1 rfl (by decide)
    simp only [World.size_alloc] at H0
    clear Ha Hb
    have HT : Hid ((if (0 : Nat) = 0 then [[]] else [] : List (List Nat)).take most = [[]]) := Lib.hid (by
      obtain ⟨q, rfl⟩ : ∃ q, most = q + 1 := ⟨most - 1, by omega⟩
      simp)
    go_enter Tryz.func199, Tryz.ntmps199
    go_wp2
    go_ret
    exact SrPost.mk (S := [[]]) (by rw [HD.out, HT.out]) rfl H0
  · have hz : ((free : Int) == 0) = false := by simp; omega
    have H0 := (Sep.start w).rowsNil.rowBox 27 #[] 1 0 rfl (by decide)
    have HZ := Lib.hid h0
    clear h0
    go_enter Tryz.func199, Tryz.ntmps199
    go_wp2
    go_ret
    exact SrPost.mk (S := []) (by rw [HD.out, if_neg HZ.out, List.take_nil]) rfl H0
/-- what is found with the first q placements -/
def srQ (at' : List (List Nat)) (free most i : Nat) (P : List Nat) (q : Nat) : List (List Nat) := ((P.take q).flatMap (pzAt (pzS (at'.drop (i + 1))) free)).take most
theorem srQ_len {at' : List (List Nat)} {free most i q : Nat} {P : List Nat} : (srQ at' free most i P q).length ≤ most := by unfold srQ; rw [List.length_take]; omega
theorem srQ_skip {at' : List (List Nat)} {free most i q m : Nat} {P : List Nat} (hm : P[q]? = some m) (hn : ¬ m &&& free = m) : srQ at' free most i P (q + 1) = srQ at' free most i P q := by
  unfold srQ
  rw [pz_take hm, show pzAt (pzS (at'.drop (i + 1))) free m = [] by unfold pzAt; rw [if_neg hn], List.append_nil]
theorem srQ_yes {at' : List (List Nat)} {free most i q m : Nat} {P : List Nat} (hm : P[q]? = some m) (hy : m &&& free = m) (hl : (srQ at' free most i P q).length < most) :
    srQ at' free most i P (q + 1) = srQ at' free most i P q ++ ((pzS (at'.drop (i + 1)) (free - m)).take (most - (srQ at' free most i P q).length)).map (m :: ·) := by
  have hX : (srQ at' free most i P q).length = ((P.take q).flatMap (pzAt (pzS (at'.drop (i + 1))) free)).length := by
    unfold srQ at hl ⊢
    rw [List.length_take] at hl ⊢
    omega
  rw [hX] at hl ⊢
  unfold srQ
  rw [pz_take hm]
  generalize (P.take q).flatMap (pzAt (pzS (at'.drop (i + 1))) free) = X at *
  rw [List.take_append, show pzAt (pzS (at'.drop (i + 1))) free m = (pzS (at'.drop (i + 1)) (free - m)).map (m :: ·) by unfold pzAt; rw [if_pos hy], List.map_take]
theorem srQ_full {at' : List (List Nat)} {free most i q : Nat} {P : List Nat} (hP : at'[i]? = some P) (h : most ≤ (srQ at' free most i P q).length) : srQ at' free most i P q = (pzS (at'.drop i) free).take most := by
  unfold srQ at h ⊢
  rw [List.length_take] at h
  rw [pzS_drop hP, pz_split (P := P) q, List.take_append, show most - ((P.take q).flatMap (pzAt (pzS (at'.drop (i + 1))) free)).length = 0 by omega, List.take_zero, List.append_nil]
theorem srQ_end {at' : List (List Nat)} {free most i q : Nat} {P : List Nat} (hP : at'[i]? = some P) (hq : q = P.length) : srQ at' free most i P q = (pzS (at'.drop i) free).take most := by
  unfold srQ
  rw [pzS_drop hP, hq, List.take_length]
set_option maxRecDepth 100000 in
set_option maxHeartbeats 3200000 in
theorem sr_step (k : Nat) (pv hv : Value) (at' : List (List Nat)) (d : Nat) (ih : SrC k pv hv at' d) : SrC k pv hv at' (d + 1) := by
  intro w free most i hd hk hk5 hmsk hf hm1 hm3 hp hh
  obtain ⟨i0, hi, hz0, hz1, hz2⟩ := info_parts infoRowY
  obtain ⟨j0, hj, hy0, hy1, hy2⟩ := info_parts infoIntY
  have HIH := Lib.hid ih
  have HMSK := Lib.hid hmsk
  have HD := Lib.hid hd
  have HK := Lib.hid hk
  have HF := Lib.hid hf
  have HPR : Hid (∀ w1, Below w.heap.size w w1 → IntSSRd w1 0 w1.heap.size pv (at'.map nl)) := Lib.hid fun w1 b1 => (hp.keep (SameIn.of_below b1 (Nat.le_refl _))).more (Nat.le_refl _) b1.size
  have HHR : Hid (∀ w1, Below w.heap.size w w1 → IntsRd w1 0 w1.heap.size hv (List.replicate k (-1))) := Lib.hid fun w1 b1 => (hh.keep (SameIn.of_below b1 (Nat.le_refl _))).more (Nat.le_refl _) b1.size
  have hik : i < k := by omega
  obtain ⟨P, hP⟩ : ∃ P, at'[i]? = some P := ⟨at'[i]'(by rw [← hk]; exact hik), List.getElem?_eq_getElem _⟩
  obtain ⟨vs0, ⟨Av, cv, rfl, _, _⟩, _⟩ := id hp
  obtain ⟨Ah, ch, rfl, _, _⟩ := id hh
  have hlen : (at'.map nl).length = k := by rw [List.length_map]; exact hk.symm
  have hlr : (List.replicate k (-1 : Int)).length = k := List.length_replicate
  rw [hlen] at hp HPR HIH ⊢
  rw [hlr] at hh HHR HIH ⊢
  obtain ⟨bv, ov, Ap, cp, rfl, hbv, x0, hrp⟩ := ssrd_at hp (show (at'.map nl)[i]? = some (nl P) by rw [List.getElem?_map, hP]; rfl)
  obtain ⟨bh, oh, rfl, hbh, z0⟩ := ints_atY hh (show (List.replicate k (-1 : Int))[i]? = some (-1) by simp [hik])
  have hnl : (nl P).length = P.length := by simp [nl]
  obtain ⟨m, hm⟩ : ∃ m, m = P.length := ⟨_, rfl⟩
  rw [hnl, ← hm] at x0 hrp
  have HMP := Lib.hid (hmsk P (List.mem_of_getElem? hP))
  have hm6 : m ≤ 1000000 := by rw [hm]; exact HMP.out.1
  have HM := Lib.hid hm
  have HP := Lib.hid hP
  have HX0 := Lib.hid x0
  have HRP := Lib.hid hrp
  have HZ0 := Lib.hid z0
  have hik2 : ((i : Int) == (k : Int)) = false := by simp; omega
  have H1 := ((Sep.start w).rowsNil).rowBox 27 #[] 1 0 rfl (by decide)
  clear hd hk hmsk hf hp hh hlen hlr hnl hm hP hrp ih x0 z0
  go_enter Tryz.func199, Tryz.ntmps199
  go_wp2
  go_loopw [11, 12] (fun ov iv wx => ∃ (q n g c : Nat) (vs : List Value) (S : List (List Nat)), q ≤ m ∧ iv = .int .i64 q ∧ ov = .slice (some ⟨g, 0, none⟩) n c ∧ Hid (S = srQ at' free most i P q) ∧ Hid (n = S.length) ∧ Sep w wx [Res.row (.slice (some ⟨g, 0, none⟩) n c) 27 1 n vs, Res.rows vs (S.map nl)]) (fun _ iv _ => m - (intOf iv).toNat)
  case atStart => exact ⟨0, 0, _, _, [], [], Nat.zero_le _, rfl, rfl, Lib.hid (by simp [srQ]), Lib.hid rfl, H1⟩
  case round =>
    clear H1
    obtain ⟨q, n, g, c, vs, S, hqm, rfl, rfl, HS, HN, H⟩ := hrel
    have hnm : n ≤ most := by rw [HN.out, HS.out]; exact srQ_len
    have x0 := (H.below.cell (p := ⟨bv, ov + i, none⟩) hbv).trans HX0.out
    by_cases hlt : q < m
    · have hlti : (q : Int) < (m : Int) := by omega
      by_cases hnl : n < most
      · have hnli : (n : Int) < (most : Int) := by omega
        obtain ⟨x, hx⟩ : ∃ x, P[q]? = some x := ⟨P[q]'(by rw [← HM.out]; exact hlt), List.getElem?_eq_getElem _⟩
        obtain ⟨bx, ox, rfl, hbx, y00⟩ := ints_atY HRP.out (show (nl P)[q]? = some (x : Int) by simp [nl, hx])
        have y0 := (H.below.cell (p := ⟨bx, ox + q, none⟩) hbx).trans y00
        have z0 := (H.below.cell (p := ⟨bh, oh + i, none⟩) hbh).trans HZ0.out
        have hx36 := HMP.out.2 x (List.mem_of_getElem? hx)
        have HX := Lib.hid hx
        have HY00 := Lib.hid y00
        have hand := i64_and_nat x free (by omega) (by have := HF.out; omega)
        by_cases hsub : x &&& free = x
        · have hne : (bits .and .i64 (x : Int) (free : Int) != (x : Int)) = false := by rw [hand, hsub]; simp
          have hmf := pz_le hsub
          obtain ⟨f2, hf2⟩ : ∃ f2, f2 = free - x := ⟨_, rfl⟩
          obtain ⟨k2, hk2⟩ : ∃ k2, k2 = most - n := ⟨_, rfl⟩
          have e1 : (free : Int) - (x : Int) = (f2 : Int) := by omega
          have e2 : IntKind.i64.wrap ((free : Int) - (x : Int)) = (f2 : Int) := by rw [e1]; exact IntWalk.i64_in _ (by have := HF.out; omega)
          have e3 : (most : Int) - (n : Int) = (k2 : Int) := by omega
          have e4 : IntKind.i64.wrap ((most : Int) - (n : Int)) = (k2 : Int) := by rw [e3]; exact IntWalk.i64_in _ (by omega)
          have HF2 : Hid (f2 < 2 ^ 36) := Lib.hid (by have := HF.out; omega)
          have hf2b : f2 < 68719476736 := HF2.out
          have hk22 : k2 ≤ 300 := by omega
          have HSY : Hid (srQ at' free most i P (q + 1) = S ++ ((pzS (at'.drop (i + 1)) f2).take k2).map (x :: ·)) := Lib.hid (by
            have := srQ_yes HX.out hsub (by rw [← HS.out, ← HN.out]; exact hnl)
            rw [← HS.out, ← HN.out, ← hf2, ← hk2] at this
            exact this)
          obtain ⟨i2, hi2⟩ : ∃ i2, i2 = i + 1 := ⟨_, rfl⟩
          have e5 : (i : Int) + 1 = (i2 : Int) := by omega
          have e6 : IntKind.i64.wrap ((i : Int) + 1) = (i2 : Int) := by rw [e5]; exact IntWalk.i64_in _ (by omega)
          have HI2 := Lib.hid hi2
          have HCL := Lib.hid (HIH.out wr f2 k2 i2 (by have := HD.out; omega) HK.out hk5 HMSK.out HF2.out (by omega) (by omega) (HPR.out wr H.below) (HHR.out wr H.below))
          clear hx y00 hand hsub hmf hf2 hk2 hi2
          go_wp2_with fail
          refine (HCL.out).mono ?_
          rintro e w3 ⟨g2, n2, c2, vs2, rfl, hn2, H3⟩
          have H4 := H3.join H
          have HN2 := Lib.hid hn2
          rw [← HI2.out] at HSY
          obtain ⟨M2, hM2⟩ : ∃ M2, M2 = (pzS (at'.drop i2) f2).take k2 := ⟨_, rfl⟩
          rw [← hM2] at HN2 H4 HSY
          have hn2k : n2 ≤ k2 := by rw [HN2.out, hM2, List.length_take]; omega
          have H5 : Sep w w3 [Res.row (.slice (some ⟨g, 0, none⟩) n c) 27 1 n vs, Res.rows vs (S.map nl), Res.row (.slice (some ⟨g2, 0, none⟩) n2 c2) 27 1 n2 vs2, Res.rows vs2 (M2.map nl)] := H4.g3.g3
          have HML : Hid (∀ t ∈ M2, t.length ≤ 1000) := Lib.hid (fun t ht => by
            rw [hM2] at ht
            have := pzS_len (List.mem_of_mem_take ht)
            rw [this, List.length_drop, ← HK.out]
            omega)
          clear H3 H4 H y0 z0 x0 HCL hn2 hM2 e1 e2 e3 e4 e5 e6
          go_wp2
          go_loopw [11, 15] (fun ov kv wx => ∃ (j n g c : Nat) (vs : List Value) (S' : List (List Nat)), j ≤ n2 ∧ kv = .int .i64 j ∧ ov = .slice (some ⟨g, 0, none⟩) n c ∧ Hid (S' = S ++ (M2.take j).map (x :: ·)) ∧ Hid (n = S'.length) ∧ Sep w wx [Res.row (.slice (some ⟨g, 0, none⟩) n c) 27 1 n vs, Res.rows vs (S'.map nl), Res.row (.slice (some ⟨g2, 0, none⟩) n2 c2) 27 1 n2 vs2, Res.rows vs2 (M2.map nl)]) (fun _ kv _ => n2 - (intOf kv).toNat)
          case atStart => exact ⟨0, n, g, c, vs, S, Nat.zero_le _, rfl, rfl, Lib.hid (by simp), HN, H5⟩
          case round =>
            clear H5
            have HN0 := HN
            clear HN
            obtain ⟨j, n', g, c, vs, S', hjn, rfl, rfl, HMM, HN, H⟩ := hrel
            by_cases hltk : j < n2
            · have hltki : (j : Int) < (n2 : Int) := by omega
              have hnb : n' ≤ 2000000 := by
                rw [HN.out, HMM.out, List.length_append, List.length_map, List.length_take]
                have := HN0.out
                omega
              obtain ⟨rk, hrk⟩ : ∃ rk, M2[j]? = some rk := ⟨M2[j]'(by rw [← HN2.out]; exact hltk), List.getElem?_eq_getElem _⟩
              have hl2 : vs2.length = (M2.map nl).length := RowsAt.len H.h3
              obtain ⟨u, hu⟩ : ∃ u, vs2[j]? = some u := ⟨vs2[j]'(by rw [hl2, List.length_map, ← HN2.out]; exact hltk), List.getElem?_eq_getElem _⟩
              have hrl : rk.length ≤ 1000 := HML.out rk (List.mem_of_getElem? hrk)
              have hnlr : (nl rk).length = rk.length := by simp [nl]
              have HA1 := H.rowBox 3 #[.int .i64 (x : Int)] 1 1 rfl (by decide)
              have hown : (wr.alloc (.cells #[.int .i64 (x : Int)] 3)).ownsRow 0 3 1 u (nl rk).length (ic (nl rk)) := RowsAt.own HA1.h4 j u (nl rk) hu (by rw [List.getElem?_map, hrk]; rfl)
              rw [hnlr] at hown
              obtain ⟨Au, cu, hue, _, _, HT1⟩ := own_rd hown
              subst hue
              have y3 : (wr.alloc (.cells #[.int .i64 (x : Int)] 3)).cell? ⟨g2, j, none⟩ = some (.slice Au rk.length cu) := by have := own_cell HA1.h3 hu; rwa [Nat.zero_add] at this
              have hg2 : g2 < (wr.alloc (.cells #[.int .i64 (x : Int)] 3)).heap.size := own_lt HA1.h3 g2 rfl
              have HRK := Lib.hid hrk
              clear hl2 hrk hu hown H hnlr
              go_wp2_with (first
                | (at_builtin; (refine wpList_app rfl _ _ 27 rfl 3 j0 _ 1 8 Tryz.underlying27 hj hy0 hy1 hy2 rfl (by decide) _ _ _ rfl HA1 _ _ _ (ic (nl rk)) rfl HT1 ic_one (by unfold maxLen; omega) (by omega) ?_; intro v5 w5 H5; clear HA1 y3 HT1 hg2; obtain ⟨A5, c5, rfl, _, _, _⟩ := Res.row_at H5.h0))
                | (at_builtin; refine wpList_app rfl _ _ 109 rfl 27 i0 _ 1 24 Tryz.underlying109 hi hz0 hz1 hz2 rfl (by decide) _ _ _ rfl (H5.g1.alloc _) _ _ _ [.slice A5 (1 + rk.length) c5] rfl (Rd.fresh w5 27 #[.slice A5 (1 + rk.length) c5] 1 1 rfl) (ocY rfl) (by unfold maxLen; omega) (by omega) ?_; intro v6 w6 H6; obtain ⟨g6, o6, c6, hv6, _, _, _⟩ := own_shape H6.h0 (by omega); subst hv6; obtain ⟨rfl, _⟩ := own_blk H6.h0; clear H5))
              have H7 := (Sep.rowsSnoc (r := (x : Int) :: nl rk) H6.g1.g2 (by simp [nl]; omega)).g1
              have HMM2 : Hid (S' ++ [x :: rk] = S ++ (M2.take (j + 1)).map (x :: ·)) := Lib.hid (by rw [HMM.out, List.take_add_one, HRK.out, List.map_append, List.append_assoc]; rfl)
              have HN3 : Hid (n' + 1 = (S' ++ [x :: rk]).length) := Lib.hid (by rw [List.length_append, ← HN.out]; rfl)
              have HEQ : Hid ((S' ++ [x :: rk]).map nl = S'.map nl ++ [(x : Int) :: nl rk]) := Lib.hid (by rw [List.map_append]; rfl)
              rw [← HEQ.out] at H7
              clear H6
              go_roundw
              case rel => exact ⟨j + 1, n' + 1, g6, c6, _, S' ++ [x :: rk], by omega, by go_num, rfl, HMM2, HN3, H7⟩
              case measure => simp [intOf]; omega
            · obtain rfl : j = n2 := by omega
              have HM3 : Hid (S' = srQ at' free most i P (q + 1)) := Lib.hid (by rw [HMM.out, HSY.out, HN2.out, List.take_length])
              have H6 := H.g3.drop.g2.drop
              clear H
              go_wp2
              go_roundw
              case rel => exact ⟨q + 1, n', g, c, vs, S', by omega, by go_num, rfl, HM3, HN, H6⟩
              case measure => simp [intOf]; omega
        · have hne : (bits .and .i64 (x : Int) (free : Int) != (x : Int)) = true := by rw [hand]; simp only [bne_iff_ne, ne_eq]; omega
          have HS2 : Hid (S = srQ at' free most i P (q + 1)) := Lib.hid (by rw [HS.out]; exact (srQ_skip HX.out hsub).symm)
          clear hx y00 hand hsub
          go_wp2
          go_roundw
          case rel => exact ⟨q + 1, n, g, c, vs, S, by omega, by go_num, rfl, HS2, HN, H⟩
          case measure => simp [intOf]; omega
      · have hnli : ¬ (n : Int) < (most : Int) := by omega
        have HSF : Hid (S = (pzS (at'.drop i) free).take most) := Lib.hid (by
          rw [HS.out]
          exact srQ_full HP.out (by rw [← HS.out, ← HN.out]; omega))
        go_wp2
        go_ret
        exact SrPost.mk HSF.out HN.out H
    · have hqe : q = P.length := by have := HM.out; omega
      have HSF : Hid (S = (pzS (at'.drop i) free).take most) := Lib.hid (by
        rw [HS.out]
        exact srQ_end HP.out hqe)
      clear hqe
      go_wp2
      go_ret
      exact SrPost.mk HSF.out HN.out H
theorem sr_c (k : Nat) (pv hv : Value) (at' : List (List Nat)) : ∀ d, SrC k pv hv at' d
  | 0 => sr_zero k pv hv at'
  | d + 1 => sr_step k pv hv at' d (sr_c k pv hv at' d)
end Go.Proofs.YtppbkiajcpdkiaaGreatDoor

namespace Go.Proofs.YtppbkiajcpdkiaaGreatDoor
open Go.RowKit

set_option maxRecDepth 100000 in
/-- the visitor keeps a solution -/
theorem pzVis_c {w0 w : World} {g n k : Nat} {ov lv : Value} {vs : List Value} {M : List (List Int)} {l : List Int} {L : List Res} (hn : n < 300) (hk : k = l.length)
    (H : Sep w0 w (Res.row lv 3 1 k (ic l) :: Res.box g 109 #[ov] :: Res.row ov 27 1 n vs :: Res.rows vs M :: L)) :
    Calls Tryz.prog 201 #[lv, .pointer (some ⟨g, 0, none⟩)] w fun e w' => ∃ ov' vs', e = .returned (.bool (decide (n + 1 < 300))) ∧ Sep w0 w' (Res.box g 109 #[ov'] :: Res.row ov' 27 1 (n + 1) vs' :: Res.rows vs' (M ++ [l]) :: L) := by
  obtain ⟨j0, hj, hy0, hy1, hy2⟩ := info_parts infoRowZ
  have c0 : w.cell? ⟨g, 0, none⟩ = some ov := H.h1.cell 0
  have hgl : g < w.heap.size := H.h1.lt
  obtain ⟨Ao, co, rfl, _, _, _⟩ := Res.row_at H.h2
  obtain ⟨Al, cl, rfl, _, _, _⟩ := Res.row_at H.h0
  have HK := Lib.hid hk
  obtain ⟨D, hD⟩ : ∃ D, D = decide (n + 1 < 300) := ⟨_, rfl⟩
  rw [← hD]
  have hdd : decide (((n + 1 : Nat) : Int) < 300) = D := by rw [hD]; rw [Bool.eq_iff_iff]; simp; omega
  have hdd2 : decide ((n : Int) + 1 < 300) = D := by rw [hD]; rw [Bool.eq_iff_iff]; simp; omega
  have HD := Lib.hid hD
  clear hk hD
  go_enter Tryz.func201, Tryz.ntmps201
  go_upto_region 1 with fail
  go_wp2_with (at_builtin; refine wpList_app rfl _ _ 109 rfl 27 j0 _ 1 24 Tryz.underlying109 hj hy0 hy1 hy2 rfl (by decide) _ _ _ rfl (H.g2.alloc _) _ _ _ [.slice Al k cl] rfl (Rd.fresh w 27 #[.slice Al k cl] 1 1 rfl) (ocZ rfl) (by unfold maxLen; omega) (by omega) ?_; intro v5 w5 H5; clear H c0 hgl; obtain ⟨A5, c5, rfl, _, _, _⟩ := Res.row_at H5.h0; have c0 : w5.cell? ⟨g, 0, none⟩ = some (.slice Ao n co) := H5.h2.cell 0; have f0 := H5.h2.frozen 0; have hgl : g < w5.heap.size := H5.h2.lt; have H6 := H5.g2.set_ 0 (.slice A5 (n + 1) c5); have H7 := (H6.g2.g3.rowsSnoc HK.out).p2; have HH := Lib.hid H7; clear H5 H6 H7)
  have H7 := HH.out
  have c1 : (w5.setCell ⟨g, 0, none⟩ (.slice A5 (n + 1) c5)).cell? ⟨g, 0, none⟩ = some (.slice A5 (n + 1) c5) := H7.h0.cell 0
  clear c0 f0 hgl H7
  generalize World.setCell _ _ _ = w6 at *
  go_wp2
  go_ret
  exact ⟨_, _, rfl, HH.out⟩
/-- where the pieces' placements lie -/
structure PzM (gs g k : Nat) (av : Value) (avs : List Value) (at' : List (List Nat)) (L : List Res) : Prop where
  box : Res.box gs 189 #[av, .func (.func 201) #[] #[.pointer (some ⟨g, 0, none⟩)]] ∈ L
  row : Res.row av 27 1 k avs ∈ L
  rows : Res.rows avs (at'.map nl) ∈ L
  len : k = at'.length
  len5 : k ≤ 1000
  msk : ∀ P ∈ at', P.length ≤ 1000000 ∧ ∀ m ∈ P, m < 2 ^ 36
theorem PzM.cons {gs g k : Nat} {av : Value} {avs : List Value} {at' : List (List Nat)} {L : List Res} {r : Res} (h : PzM gs g k av avs at' L) : PzM gs g k av avs at' (r :: L) := ⟨List.mem_cons_of_mem _ h.box, List.mem_cons_of_mem _ h.row, List.mem_cons_of_mem _ h.rows, h.len, h.len5, h.msk⟩
abbrev pzL4 (lv ov : Value) (i g n : Nat) (l : List Nat) (vs : List Value) (S : List (List Nat)) (L : List Res) : List Res := Res.row lv 3 1 i (ic (nl l)) :: Res.box g 109 #[ov] :: Res.row ov 27 1 n vs :: Res.rows vs (S.map nl) :: L
theorem pz_box {gs g k : Nat} {av : Value} {avs : List Value} {at' : List (List Nat)} {w0 w : World} {L : List Res} (hat : PzM gs g k av avs at' L) (H : Sep w0 w L) : Blk w gs 189 #[av, .func (.func 201) #[] #[.pointer (some ⟨g, 0, none⟩)]] := (H.inn _ hat.box).1
theorem pz_row {gs g k : Nat} {av : Value} {avs : List Value} {at' : List (List Nat)} {w0 w : World} {L : List Res} (hat : PzM gs g k av avs at' L) (H : Sep w0 w L) : w.ownsRow 0 27 1 av k avs := (H.inn _ hat.row).1
theorem pz_at {gs g k b c i : Nat} {avs : List Value} {at' : List (List Nat)} {P : List Nat} {w0 w : World} {L : List Res} (hat : PzM gs g k (.slice (some ⟨b, 0, none⟩) k c) avs at' L) (H : Sep w0 w L) (hP : at'[i]? = some P) : ∃ A cp, avs[i]? = some (.slice A P.length cp) ∧ w.cell? ⟨b, i, none⟩ = some (.slice A P.length cp) ∧ IntsRd w 0 w.heap.size (.slice A P.length cp) (nl P) := by
  have hr : RowsAt w avs (at'.map nl) := (H.inn _ hat.rows).1
  have hi := (List.getElem?_eq_some_iff.1 hP).1
  obtain ⟨u, hu⟩ : ∃ u, avs[i]? = some u := ⟨avs[i]'(by rw [hr.len, List.length_map]; exact hi), List.getElem?_eq_getElem _⟩
  have ho := hr.own i u (nl P) hu (by rw [List.getElem?_map, hP]; rfl)
  have hnl : (nl P).length = P.length := by simp [nl]
  have hrd : IntsRd w 0 w.heap.size u (nl P) := IntsIn.rd (lo := 0) ⟨ho, fun k hk => own_lt ho k hk⟩
  rw [hnl] at ho
  obtain ⟨A, cp, rfl, _, _, _⟩ := Res.row_at ho
  have h0 := own_cell (pz_row hat H) hu
  rw [Nat.zero_add] at h0
  exact ⟨A, cp, hu, h0, hrd⟩
def PzPost (g : Nat) (at' seen : List (List Nat)) (l : List Nat) (free : Nat) (w0 : World) (L : List Res) : Ending → World → Prop := fun e w' => ∃ ov vs n S, S = ext 300 seen (pzL l (pzS (at'.drop l.length) free)) ∧ n = S.length ∧ e = .returned (.bool (decide (n < 300))) ∧ Sep w0 w' (Res.box g 109 #[ov] :: Res.row ov 27 1 n vs :: Res.rows vs (S.map nl) :: L)
theorem PzPost.mk {g n : Nat} {at' seen S : List (List Nat)} {l : List Nat} {free : Nat} {w0 w' : World} {L : List Res} {ov : Value} {vs : List Value} {b : Bool} (hS : S = ext 300 seen (pzL l (pzS (at'.drop l.length) free))) (hn : n = S.length) (hb : b = decide (n < 300)) (H : Sep w0 w' (Res.box g 109 #[ov] :: Res.row ov 27 1 n vs :: Res.rows vs (S.map nl) :: L)) : PzPost g at' seen l free w0 L (.returned (.bool b)) w' := by
  subst hb
  exact ⟨ov, vs, n, S, hS, hn, rfl, H⟩
def SolveC (gs g k : Nat) (av : Value) (avs : List Value) (at' : List (List Nat)) (d : Nat) : Prop := ∀ (w0 w : World) (L : List Res) (ov lv : Value) (vs : List Value) (seen : List (List Nat)) (l : List Nat) (free n i : Nat), PzM gs g k av avs at' L → i = l.length → i + d = k → n = seen.length → n < 300 → free < 2 ^ 36 →
  Sep w0 w (pzL4 lv ov i g n l vs seen L) → Calls Tryz.prog 202 #[.pointer (some ⟨gs, 0, none⟩), .int .i64 free, lv] w (PzPost g at' seen l free w0 L)
theorem pzS_nil {at' : List (List Nat)} {l : List Nat} {free : Nat} (h : l.length = at'.length) : pzS (at'.drop l.length) free = if free = 0 then [[]] else [] := by
  rw [h, List.drop_length]; rfl
set_option maxRecDepth 100000 in
set_option maxHeartbeats 1600000 in
theorem solve_zero (gs g k : Nat) (av : Value) (avs : List Value) (at' : List (List Nat)) : SolveC gs g k av avs at' 0 := by
  intro w0 w L ov lv vs seen l free n i hat hil hd hn hn3 hf H
  have hbx := pz_box hat H.drop.drop.drop.drop
  obtain ⟨Aa, ca, rfl, _, _, _⟩ := Res.row_at (pz_row hat H.drop.drop.drop.drop)
  obtain ⟨Al, cl, rfl, _, _, _⟩ := Res.row_at H.h0
  have c0 : w.cell? ⟨gs, 0, none⟩ = some (.slice Aa k ca) := hbx.cell 0
  have c1 : w.cell? ⟨gs, 1, none⟩ = some (.func (.func 201) #[] #[.pointer (some ⟨g, 0, none⟩)]) := hbx.cell 1
  have hgs : gs < w.heap.size := hbx.lt
  obtain rfl : i = k := by omega
  have h5 := hat.len5
  have HNL : Hid (pzS (at'.drop l.length) free = if free = 0 then [[]] else []) := Lib.hid (pzS_nil (by rw [← hil]; exact hat.len))
  have HN := Lib.hid hn
  have HIL := Lib.hid hil
  by_cases h0 : free = 0
  · subst h0
    have HC := Lib.hid (pzVis_c hn3 (show i = (nl l).length by simp [nl]; exact hil) H)
    clear hbx hat hil hn H
    go_enter Tryz.func202, Tryz.ntmps202
    go_wp2_with fail
    refine (HC.out).mono ?_
    rintro e w1 ⟨ov', vs', rfl, H1⟩
    have HH := Lib.hid H1
    clear H1 c0 c1 hgs HC
    go_wp2
    go_ret
    refine PzPost.mk (S := seen ++ [l]) ?_ ?_ rfl (by rw [List.map_append]; exact HH.out)
    · rw [HNL.out, if_pos trivial, show pzL l [[]] = [l] by simp [pzL], ext_one (by rw [← HN.out]; exact hn3)]
    · rw [List.length_append, ← HN.out]; rfl
  · have hz : ((free : Int) == 0) = false := by simp; omega
    have hz2 : ((free : Int) != 0) = true := by simp; omega
    have HH := Lib.hid H.drop
    have H0 := Lib.hid h0
    clear hbx hat hil hn H h0
    go_enter Tryz.func202, Tryz.ntmps202
    go_wp2
    go_ret
    refine PzPost.mk (S := seen) ?_ HN.out (by rw [decide_eq_true hn3]) HH.out
    rw [HNL.out, if_neg H0.out, show pzL l [] = [] from rfl, ext_nil]
set_option maxRecDepth 100000 in
set_option maxHeartbeats 3200000 in
theorem solve_step (gs g k : Nat) (av : Value) (avs : List Value) (at' : List (List Nat)) (d : Nat) (ih : SolveC gs g k av avs at' d) : SolveC gs g k av avs at' (d + 1) := by
  intro w0 w L ov lv vs seen l free n i hat hil hd hn hn3 hf H
  obtain ⟨j0, hj, hy0, hy1, hy2⟩ := info_parts infoIntZ
  have HIH := Lib.hid ih
  have HAT := Lib.hid hat
  have hik : i < k := by omega
  have h5 := hat.len5
  have hbx := pz_box hat H.drop.drop.drop.drop
  obtain ⟨Aa, ca, rfl, hca, _, _⟩ := Res.row_at (pz_row hat H.drop.drop.drop.drop)
  obtain ⟨ba, rfl⟩ : ∃ b, Aa = some ⟨b, 0, none⟩ := by
    obtain ⟨b, off, c', e, _⟩ := own_shape (pz_row hat H.drop.drop.drop.drop) (by omega)
    injection e with e1
    subst e1
    obtain ⟨rfl, _⟩ := own_blk (pz_row hat H.drop.drop.drop.drop)
    exact ⟨b, rfl⟩
  obtain ⟨Al, cl, rfl, _, _, _⟩ := Res.row_at H.h0
  have c0 : w.cell? ⟨gs, 0, none⟩ = some (.slice (some ⟨ba, 0, none⟩) k ca) := hbx.cell 0
  have hgs : gs < w.heap.size := hbx.lt
  have hba : ba < w.heap.size := own_lt (pz_row hat H.drop.drop.drop.drop) ba rfl
  have HN := Lib.hid hn
  have HIL := Lib.hid hil
  have HD := Lib.hid hd
  have HF := Lib.hid hf
  have HLEN := Lib.hid hat.len
  have hik2 : ((i : Int) == (k : Int)) = false := by simp; omega
  have hci : ¬ ca = i := by omega
  have hi5 : (i : Int) ≤ (k : Int) := by omega
  obtain ⟨wo, hwo⟩ : ∃ wo, wo = w := ⟨_, rfl⟩
  subst hwo
  clear hbx ih hat hil hd hn hf
  go_enter Tryz.func202, Tryz.ntmps202
  go_wp2
  go_loopw [8, 41] (fun rv jv wx => ∃ acc j : Nat, j ≤ k - i ∧ rv = .int .i64 acc ∧ jv = .int .i64 j ∧ Hid (PzR at' free i j acc) ∧ wo = wx) (fun _ jv _ => (k - i) - (intOf jv).toNat)
  case atStart => exact ⟨0, 0, Nat.zero_le _, rfl, rfl, Lib.hid PzR.start, rfl⟩
  case round =>
    obtain ⟨acc, j, hjk, rfl, rfl, HR, rfl⟩ := hrel
    by_cases hjl : j < k - i
    · have hjli : (j : Int) < ((k - i : Nat) : Int) := by omega
      obtain ⟨Q, hQ⟩ : ∃ Q, at'[i + j]? = some Q := ⟨at'[i + j]'(by rw [← HLEN.out]; omega), List.getElem?_eq_getElem _⟩
      obtain ⟨Ax, cx, _, x0, hrx⟩ := pz_at HAT.out H.drop.drop.drop.drop hQ
      have HQ := Lib.hid hQ
      have HQM := Lib.hid (HAT.out.msk Q (List.mem_of_getElem? hQ))
      obtain ⟨m, hm⟩ : ∃ m, m = Q.length := ⟨_, rfl⟩
      have hm6 : m ≤ 1000000 := by rw [hm]; exact HQM.out.1
      have HM := Lib.hid hm
      rw [← hm] at x0 hrx
      have HRX := Lib.hid hrx
      clear hQ hm hrx
      go_wp2
      go_loopw [8, 47] (fun rv qv wx => ∃ acc q : Nat, q ≤ m ∧ rv = .int .i64 acc ∧ qv = .int .i64 q ∧ Hid (PzR2 at' free i j acc Q q) ∧ wo = wx) (fun _ qv _ => m - (intOf qv).toNat)
      case atStart => exact ⟨acc, 0, Nat.zero_le _, rfl, rfl, Lib.hid HR.out.row, rfl⟩
      case round =>
        clear HR
        obtain ⟨acc, q, hqm, rfl, rfl, HR, rfl⟩ := hrel
        by_cases hql : q < m
        · have hqli : (q : Int) < (m : Int) := by omega
          obtain ⟨x, hx⟩ : ∃ x, Q[q]? = some x := ⟨Q[q]'(by rw [← HM.out]; exact hql), List.getElem?_eq_getElem _⟩
          obtain ⟨bx, ox, rfl, hbx, y0⟩ := ints_atZ HRX.out (show (nl Q)[q]? = some (x : Int) by simp [nl, hx])
          have hx36 := HQM.out.2 x (List.mem_of_getElem? hx)
          have HX := Lib.hid hx
          have hst := isMask_step (a := x) (b := free) (by omega) (by have := HF.out; omega)
          by_cases hsub : x &&& free = x
          · have hst2 : (bits .andNot .i64 (x : Int) (free : Int) == 0) = true := by rw [hst]; simpa using hsub
            have hal := pz_le HR.out.1.1
            have hor := i64_or_nat acc x (by have := HF.out; omega) (by omega)
            have HR2 := Lib.hid (HR.out.take HX.out hsub)
            clear hx hst hsub hal
            go_wp2
            go_roundw
            case rel => exact ⟨acc ||| x, q + 1, by omega, rfl, by go_num, HR2, trivial⟩
            case measure => simp [intOf]; omega
          · have hst2 : (bits .andNot .i64 (x : Int) (free : Int) == 0) = false := by rw [hst]; simpa using hsub
            have HR2 := Lib.hid (HR.out.skip HX.out hsub)
            clear hx hst hsub
            go_wp2
            go_roundw
            case rel => exact ⟨acc, q + 1, by omega, rfl, by go_num, HR2, trivial⟩
            case measure => simp [intOf]; omega
        · have hqe : q = Q.length := by have := HM.out; omega
          have HR2 : Hid (PzR at' free i (j + 1) acc) := Lib.hid (by
            have := HR.out
            rw [hqe] at this
            exact this.all HQ.out)
          clear hqe
          go_wp2
          go_roundw
          case rel => exact ⟨acc, j + 1, by omega, rfl, by go_num, HR2, trivial⟩
          case measure => simp [intOf]; omega
    · obtain rfl : j = k - i := by omega
      by_cases hac : acc = free
      · subst hac
        have hne : ((acc : Int) == (acc : Int)) = true := by simp
        have hne2 : ((acc : Int) != (acc : Int)) = false := by simp
        obtain ⟨P, hP⟩ : ∃ P, at'[i]? = some P := ⟨at'[i]'(by rw [← HLEN.out]; exact hik), List.getElem?_eq_getElem _⟩
        obtain ⟨Ax, cx, hax, x0, hrx⟩ := pz_at HAT.out H.drop.drop.drop.drop hP
        have HP := Lib.hid hP
        have HPM := Lib.hid (HAT.out.msk P (List.mem_of_getElem? hP))
        obtain ⟨m, hm⟩ : ∃ m, m = P.length := ⟨_, rfl⟩
        have hm6 : m ≤ 1000000 := by rw [hm]; exact HPM.out.1
        have HM := Lib.hid hm
        rw [← hm] at x0 hax
        have HAX := Lib.hid hax
        clear hP hm hax hrx HR
        go_wp2
        clear x0 hgs hba c0
        go_loopw [71] (fun qv wx => ∃ (q n : Nat) (ov : Value) (vs : List Value) (S : List (List Nat)), q ≤ m ∧ qv = .int .i64 q ∧ Hid (S = pzQ at' seen l acc P q) ∧ Hid (n = S.length) ∧ n < 300 ∧ Sep w0 wx (pzL4 (.slice Al i cl) ov i g n l vs S L)) (fun qv _ => m - (intOf qv).toNat)
        case atStart => exact ⟨0, n, ov, vs, seen, Nat.zero_le _, rfl, Lib.hid pzQ_zero.symm, HN, hn3, H⟩
        case round =>
          clear H hn3
          obtain ⟨q, n, ov, vs, S, hqm, rfl, HS, HNS, hn3, H⟩ := hrel
          by_cases hql : q < m
          · have hqli : (q : Int) < (m : Int) := by omega
            obtain ⟨x, hx⟩ : ∃ x, P[q]? = some x := ⟨P[q]'(by rw [← HM.out]; exact hql), List.getElem?_eq_getElem _⟩
            obtain ⟨Ay, cy, hay, _, hrx⟩ := pz_at HAT.out H.drop.drop.drop.drop HP.out
            rw [HAX.out, ← HM.out] at hay
            injection hay with hay
            injection hay with e1 e2 e3
            subst e1 e3
            rw [← HM.out] at hrx
            obtain ⟨bx, ox, rfl, hbx, y0⟩ := ints_atZ hrx (show (nl P)[q]? = some (x : Int) by simp [nl, hx])
            have hx36 := HPM.out.2 x (List.mem_of_getElem? hx)
            have HX := Lib.hid hx
            have hst := isMask_step (a := x) (b := acc) (by omega) (by have := HF.out; omega)
            by_cases hsub : x &&& acc = x
            · have hst2 : (bits .andNot .i64 (x : Int) (acc : Int) == 0) = true := by rw [hst]; simpa using hsub
              obtain ⟨f2, hf2⟩ : ∃ f2, f2 = acc - x := ⟨_, rfl⟩
              have hand : bits .andNot .i64 (acc : Int) (x : Int) = (f2 : Int) := by
                rw [i64_andNot_nat acc x (by have := HF.out; omega) (by omega), pz_sub_and hsub (by have := HF.out; omega), hf2]
              have HF2 : Hid (f2 < 2 ^ 36) := Lib.hid (by have := HF.out; omega)
              have HSN : Hid (pzQ at' seen l acc P (q + 1) = ext 300 S (pzL (l ++ [x]) (pzS (at'.drop (l ++ [x]).length) f2))) := Lib.hid (by
                rw [HS.out, hf2]
                exact pzQ_take HX.out hsub (by rw [← HS.out, ← HNS.out]; exact hn3))
              have hnll : (nl l).length = i := by simp [nl]; exact HIL.out.symm
              have HCP := Lib.hid (impl_copyInts_c (l := nl l) wr (row_rdZ H.h0 hnll.symm) (by rw [hnll]; omega))
              clear hx hst hsub hf2
              go_wp2_with fail
              refine (HCP.out).mono ?_
              rintro e w4 ⟨v4, rfl, o4, b4⟩
              have o5 : OI w4 wr.heap.size w4.heap.size 3 1 v4 i (ic (nl l)) := by
                unfold IntsIn at o4
                rw [hnll] at o4
                exact o4
              have H4 := H.oiNew b4 o5
              have HNLL : Hid (ic (nl (l ++ [x])) = ic (nl l) ++ [.int .i64 (x : Int)]) := Lib.hid (by rw [nlZ, ic_append]; rfl)
              clear HCP o4 o5 b4 H y0 hnll
              go_wp2_with (at_builtin; refine wpList_appW rfl _ _ 27 rfl 3 j0 _ 1 8 Tryz.underlying27 hj hy0 hy1 hy2 rfl (by decide) _ _ _ rfl (H4.alloc _) _ _ _ [.int .i64 (x : Int)] rfl (Rd.fresh w4 _ #[.int .i64 (x : Int)] 1 1 rfl) oc1 (by unfold maxLen; omega) (by omega) ?_; intro v5 w5 H5; clear H4)
              rw [← HNLL.out] at H5
              have HCALL := Lib.hid (HIH.out w0 w5 (Res.row (.slice Al i cl) 3 1 i (ic (nl l)) :: L) ov v5 vs S (l ++ [x]) f2 n (i + 1) HAT.out.cons (by rw [List.length_append, ← HIL.out]; rfl) (by have := HD.out; omega) HNS.out hn3 HF2.out H5.g1.p4)
              clear H5
              refine (HCALL.out).mono ?_
              rintro e w6 ⟨ov2, vs2, n2, S2, hS2, hn2, rfl, H6⟩
              have H7 := H6.g3
              have HS2 : Hid (S2 = pzQ at' seen l acc P (q + 1)) := Lib.hid (by rw [hS2, HSN.out])
              have HN2 := Lib.hid hn2
              clear H6 hS2 hn2 HCALL
              by_cases hn4 : n2 < 300
              · rw [decide_eq_true hn4]
                go_wp2
                go_roundw
                case rel => exact ⟨q + 1, n2, ov2, vs2, S2, by omega, by go_num, HS2, HN2, hn4, H7⟩
                case measure => simp [intOf]; omega
              · rw [decide_eq_false hn4]
                have HFIN : Hid (S2 = ext 300 seen (pzL l (pzS (at'.drop l.length) acc))) := Lib.hid (by
                  rw [HS2.out]
                  exact pzQ_stop (by rw [← HIL.out]; exact HP.out) (by rw [← HS2.out, ← HN2.out]; exact hn4))
                go_wp2
                go_ret
                exact PzPost.mk HFIN.out HN2.out (by rw [decide_eq_false hn4]) H7.drop
            · have hst2 : (bits .andNot .i64 (x : Int) (acc : Int) == 0) = false := by rw [hst]; simpa using hsub
              have HS2 : Hid (S = pzQ at' seen l acc P (q + 1)) := Lib.hid (by rw [HS.out]; exact (pzQ_skip HX.out hsub).symm)
              clear hx hst hsub
              go_wp2
              go_roundw
              case rel => exact ⟨q + 1, n, ov, vs, S, by omega, by go_num, HS2, HNS, hn3, H⟩
              case measure => simp [intOf]; omega
          · have hqe : q = P.length := by have := HM.out; omega
            have HFIN : Hid (S = ext 300 seen (pzL l (pzS (at'.drop l.length) acc))) := Lib.hid (by
              rw [HS.out]
              exact pzQ_end (by rw [← HIL.out]; exact HP.out) hqe)
            clear hqe
            go_wp2
            go_ret
            exact PzPost.mk HFIN.out HNS.out (by rw [decide_eq_true hn3]) H.drop
      · have hne : ((acc : Int) == (free : Int)) = false := by simp; omega
        have hne2 : ((acc : Int) != (free : Int)) = true := by simp; omega
        have HNO : Hid (pzS (at'.drop l.length) free = []) := Lib.hid (by
          rw [← HIL.out]
          exact HR.out.none HLEN.out (by have := HF.out; omega) hac)
        clear hac
        go_wp2
        go_ret
        refine PzPost.mk (S := seen) ?_ HN.out (by rw [decide_eq_true hn3]) H.drop
        rw [HNO.out, show pzL l [] = [] from rfl, ext_nil]
theorem solve_c (gs g k : Nat) (av : Value) (avs : List Value) (at' : List (List Nat)) : ∀ d, SolveC gs g k av avs at' d
  | 0 => solve_zero gs g k av avs at'
  | d + 1 => solve_step gs g k av avs at' d (solve_c gs g k av avs at' d)
end Go.Proofs.YtppbkiajcpdkiaaGreatDoor

namespace Go.Proofs.YtppbkiajcpdkiaaGreatDoor
open Go.RowKit

/-- how many cells the first k pieces have -/
def arTo (ps : List (List Cell)) (k : Nat) : Nat := ((ps.take k).map List.length).sum
theorem arTo_zero {ps : List (List Cell)} : arTo ps 0 = 0 := rfl
theorem arTo_succ {ps : List (List Cell)} {k : Nat} {s : List Cell} (h : ps[k]? = some s) : arTo ps (k + 1) = arTo ps k + s.length := by
  unfold arTo
  rw [List.take_add_one, h]; simp
theorem arTo_le {ps : List (List Cell)} (hl : ∀ s ∈ ps, s.length ≤ 1048576) : ∀ k, arTo ps k ≤ k * 1048576
  | 0 => Nat.zero_le _
  | k + 1 => by
    have := arTo_le hl k
    cases h : ps[k]? with
    | some s => rw [arTo_succ h]; have := hl s (List.mem_of_getElem? h); omega
    | none =>
      have e : arTo ps (k + 1) = arTo ps k := by unfold arTo; rw [List.take_add_one, h]; simp
      omega
def pcsA (ps : List (List Cell)) : Int := (arTo ps ps.length : Nat)
/-- each piece's placements -/
def atN (r : Reg) (ps : List (List Cell)) : List (List Nat) := ps.map fun s => (plc r s).map Int.toNat
theorem nl_plc {r : Reg} (hv : r.Valid) {s : List Cell} : nl ((plc r s).map Int.toNat) = plc r s := by
  unfold nl
  rw [List.map_map]
  conv => rhs; rw [← List.map_id (plc r s)]
  apply List.map_congr_left
  intro x hx
  have := (plc_mk hv hx).1
  simp only [Function.comp, id]
  omega
theorem atN_nl {r : Reg} (hv : r.Valid) : ∀ ps : List (List Cell), (atN r ps).map nl = ps.map (plc r)
  | [] => by simp only [atN, List.map_nil]
  | s :: ps => by
    have ih := atN_nl hv ps
    have h1 : atN r (s :: ps) = (plc r s).map Int.toNat :: atN r ps := by simp only [atN, List.map_cons]
    rw [h1, List.map_cons, List.map_cons, nl_plc hv, ih]
theorem atN_msk {r : Reg} (hv : r.Valid) {ps : List (List Cell)} : ∀ P ∈ atN r ps, P.length ≤ 1000000 ∧ ∀ m ∈ P, m < 2 ^ 36 := by
  intro P hP
  obtain ⟨s, _, rfl⟩ := List.mem_map.1 hP
  refine ⟨?_, fun m hm => ?_⟩
  · rw [List.length_map]; have := plc_len hv (s := s); omega
  · obtain ⟨x, hx, rfl⟩ := List.mem_map.1 hm
    have h := plc_mk hv hx
    unfold Mk36 at h
    omega
def pzR (r : Reg) (ps : List (List Cell)) : List (List Nat) := if pcsA ps = areaR r then (pzS (atN r ps) r.mask).take 300 else []
def pzM (r : Reg) (ps : List (List Cell)) : List (List Nat) := if (r.valid && arePcs ps) = true then pzR r ps else []
theorem pz_ext {T : List (List Nat)} : ext 300 [] (pzL [] T) = T.take 300 := by unfold ext pzL; simp
set_option maxRecDepth 100000 in
set_option maxHeartbeats 800000 in
theorem impl_pcsA_c {v2 : Value} {ps : List (List Cell)} (w : World) (h2 : CellSSRd w 0 w.heap.size v2 ps) (hn : ps.length ≤ 1048576) (hl : ∀ s ∈ ps, s.length ≤ 1048576) :
    Calls Tryz.prog 200 #[v2] w fun e w' => e = .returned (.int .i64 (pcsA ps)) ∧ w = w' := by
  obtain ⟨vs, ⟨A2, c2, rfl, hm2, hr2⟩, hsl⟩ := h2
  have HR2 := Lib.hid hr2
  have HSL := Lib.hid hsl
  have HLE := Lib.hid (arTo_le hl)
  clear hr2 hsl hl
  go_enter Tryz.func200, Tryz.ntmps200
  go_wp2
  go_loopw [3, 8] (fun nv kv wx => ∃ k : Nat, k ≤ ps.length ∧ kv = .int .i64 k ∧ nv = .int .i64 (arTo ps k : Nat) ∧ w = wx) (fun _ kv _ => ps.length - (intOf kv).toNat)
  case atStart => exact ⟨0, Nat.zero_le _, rfl, rfl, rfl⟩
  case round =>
    obtain ⟨k, hk, rfl, rfl, rfl⟩ := hrel
    by_cases hlt : k < ps.length
    · have hlti : (k : Int) < (ps.length : Int) := by omega
      obtain ⟨b, off, s, x, rfl, hb1, hb2, hla, x1, xr⟩ := HR2.out.slot HSL.out rfl hlt
      obtain ⟨Ax, cx, rfl, _, _⟩ := xr
      obtain ⟨a, ha⟩ : ∃ a, a = arTo ps k := ⟨_, rfl⟩
      have hal := HLE.out k
      have hal2 := HLE.out (k + 1)
      have has := arTo_succ hla
      rw [← ha] at hal has ⊢
      have HAS : Hid (arTo ps (k + 1) = a + s.length) := Lib.hid has
      have hsb : a + s.length ≤ 1152921504606846976 := by rw [← has]; exact Nat.le_trans hal2 (by omega)
      clear hla ha hal hal2 has
      go_wp2
      go_roundw
      case rel => exact ⟨k + 1, by omega, by go_num, by rw [HAS.out]; go_num, trivial⟩
      case measure => simp [intOf]; omega
    · obtain rfl : k = ps.length := by omega
      go_wp2
      go_ret
      exact ⟨rfl, rfl⟩
set_option maxRecDepth 100000 in
set_option maxHeartbeats 3200000 in
theorem impl_sols_c {v v2 : Value} {r : Reg} {ps : List (List Cell)} (w : World) (h : RegRd w 0 w.heap.size v r) (h2 : CellSSRd w 0 w.heap.size v2 ps) (hv : r.Valid) (hp : arePcs ps = true) :
    Calls Tryz.prog 182 #[v, v2, .slice none 0 0] w fun e w' => ∃ ov vs n L, e = .returned ov ∧ n = (pzR r ps).length ∧ Sep w w' (Res.row ov 27 1 n vs :: Res.rows vs ((pzR r ps).map nl) :: L) := by
  obtain ⟨j0, hj, hy0, hy1, hy2⟩ := info_parts infoRowZ
  have hmf : ∀ (fn : Fn) (first cap : Array Value) (w : World), (Instr.makeFunc fn first cap).run Tryz.prog w = .ok (.func fn first cap) w := fun _ _ _ _ => rfl
  have HV := Lib.hid hv
  have HPS := Lib.hid (arePcs_on hp).1
  have hp5 := (arePcs_on hp).2.2
  have hp1 := (arePcs_on hp).2.1
  have hsl8 : ∀ s ∈ ps, s.length ≤ 1048576 := fun s hs => by have := (shp_len (HPS.out s hs)).2; omega
  have HRD : Hid (∀ w1, Below w.heap.size w w1 → RegRd w1 0 w1.heap.size v r) := Lib.hid fun w1 b1 => (h.keep (SameIn.of_below b1 (Nat.le_refl _))).more (Nat.le_refl _) b1.size
  have HAA : Hid (∀ w1, Below w.heap.size w w1 → Calls Tryz.prog 200 #[v2] w1 fun e w' => e = .returned (.int .i64 (pcsA ps)) ∧ w1 = w') := Lib.hid fun w1 b1 => impl_pcsA_c w1 ((h2.keep (SameIn.of_below b1 (Nat.le_refl _))).more (Nat.le_refl _) b1.size) (by omega) hsl8
  have HAR : Hid (∀ w1, Below w.heap.size w w1 → Calls Tryz.prog 12 #[v] w1 fun e w' => e = .returned (.int .i64 (areaR r)) ∧ Below w1.heap.size w1 w') := Lib.hid fun w1 b1 => impl_area_c w1 (HRD.out w1 b1) (by have := HV.out.2.2.2.1; omega)
  have HMSK : Hid (∀ w1, Below w.heap.size w w1 → Calls Tryz.prog 45 #[v] w1 fun e w' => e = .returned (.int .i64 (r.mask : Int)) ∧ Below w1.heap.size w1 w') := Lib.hid fun w1 b1 => impl_mask_c w1 (HRD.out w1 b1) HV.out
  obtain ⟨R, hR⟩ : ∃ R, R = pzR r ps := ⟨_, rfl⟩
  rw [← hR]
  have HRR := Lib.hid hR
  obtain ⟨a1, ha1⟩ : ∃ a, a = pcsA ps := ⟨_, rfl⟩
  obtain ⟨a2, ha2⟩ : ∃ a, a = areaR r := ⟨_, rfl⟩
  rw [← ha1] at HAA
  rw [← ha2] at HAR
  have HA1 := Lib.hid ha1
  have HA2 := Lib.hid ha2
  obtain ⟨sr, rfl, hsr⟩ := h
  obtain ⟨A, c, rfl, _, _⟩ := hsr
  obtain ⟨vs, ⟨A2, c2, rfl, hm2, hr2⟩, hsl⟩ := h2
  have HR2 := Lib.hid hr2
  have HSL := Lib.hid hsl
  have H0 := ((Sep.start w).box 29 #[.int .i64 r.w, .slice A r.rows.length c]).box 109 #[.slice none 0 0]
  simp only [World.size_alloc] at H0
  obtain ⟨g, hg⟩ : ∃ g, g = w.heap.size := ⟨_, rfl⟩
  rw [← hg] at H0
  clear hR ha1 ha2 hv hp hr2 hsl hsl8
  go_enter Tryz.func182, Tryz.ntmps182
  go_upto_region 2 with fail
  rw [← hg]
  generalize ((w.alloc (.cells #[.int .i64 r.w, .slice A r.rows.length c] 29)).alloc (.cells #[.slice none 0 0] 109)) = W at *
  clear hg
  have l0 := Later.cell (p := ⟨g, 0, none⟩) (v := .int .i64 r.w) (W := W) (H0.h1.cell 0) H0.h1.lt
  have l1 := Later.cell (p := ⟨g, 1, none⟩) (v := .slice A r.rows.length c) (W := W) (H0.h1.cell 1) H0.h1.lt
  have HB0 := Lib.hid H0.below
  have HA3 : Hid (∀ u : Later W, Calls Tryz.prog 200 #[.slice A2 ps.length c2] u.w fun e w' => e = .returned (.int .i64 a1) ∧ u.w = w') := Lib.hid fun u => HAA.out u.w (HB0.out.trans (u.h.mono HB0.out.size))
  have HA4 : Hid (∀ u : Later W, Calls Tryz.prog 12 #[.agg #[.int .i64 r.w, .slice A r.rows.length c]] u.w fun e w' => e = .returned (.int .i64 a2) ∧ Below u.w.heap.size u.w w') := Lib.hid fun u => HAR.out u.w (HB0.out.trans (u.h.mono HB0.out.size))
  have HH := Lib.hid H0
  clear H0 HAA HAR
  refine wp_region_later (by kernel_rfl) (by kernel_rfl) ?_
  repeat (go_big_quiet_step ((first
    | (go_at_call 200; exact Later.same (HA3.out _))
    | (go_at_call 12; exact Later.call (HA4.out _)))))
  refine wpQuiet_nil ?_
  intro w3 hw3
  obtain ⟨u3, hu3⟩ := hw3
  subst hu3
  have H1 := Sep.later HH.out u3
  clear l0 l1 HH HA3 HA4 HB0
  generalize u3.w = w1 at *
  by_cases ha : a1 = a2
  · have hab : (a1 == a2) = true := by simpa using ha
    have hab2 : (a1 != a2) = false := by simpa using ha
    have HRE : Hid (R = ext 300 [] (pzL [] (pzS (atN r ps) r.mask))) := Lib.hid (by
      rw [HRR.out, pzR, if_pos (by rw [← HA1.out, ← HA2.out]; exact ha), pz_ext])
    clear ha
    have hg1 := H1.h0.lt
    have HALL : ((#[.slice none 0 0, .func (.func 201) #[] #[.pointer (some ⟨g + 1, 0, none⟩)]] : Array Value).all (·.oneCell')) = true := by simp [Value.oneCell']
    have H2 := (H1.box 189 #[.slice none 0 0, .nilFunc]).setAll #[.slice none 0 0, .func (.func 201) #[] #[.pointer (some ⟨g + 1, 0, none⟩)]]
    obtain ⟨gs, hgs⟩ : ∃ gs, gs = w1.heap.size := ⟨_, rfl⟩
    obtain ⟨W2, hW2⟩ : ∃ W2, W2 = (w1.alloc (.cells #[.slice none 0 0, .nilFunc] 189)).setRow w1.heap.size #[.slice none 0 0, .func (.func 201) #[] #[.pointer (some ⟨g + 1, 0, none⟩)]] := ⟨_, rfl⟩
    rw [← hW2, ← hgs] at H2
    go_upto_region 5 with (refine wpList_store_row rfl 189 _ _ rfl w1.heap.size #[.slice none 0 0, .func (.func 201) #[] #[.pointer (some ⟨g + 1, 0, none⟩)]] rfl rfl 189 _ (H1.box 189 #[.slice none 0 0, .nilFunc]).h0 (by kernel_rfl) rfl HALL ?_)
    rw [← hW2, ← hgs]
    clear hgs hW2 H1 hg1 HALL
    have H3 := H2.rowsNil.nil 27 1
    clear H2
    go_wp2
    go_loopw [21] (fun iv wx => ∃ (k : Nat) (av : Value) (avs : List Value), k ≤ ps.length ∧ iv = .int .i64 k ∧ Sep w wx [Res.row av 27 1 k avs, Res.rows avs ((ps.take k).map (plc r)), Res.box gs 189 #[av, .func (.func 201) #[] #[.pointer (some ⟨g + 1, 0, none⟩)]], Res.box (g + 1) 109 #[.slice none 0 0], Res.box g 29 #[.int .i64 r.w, .slice A r.rows.length c]]) (fun iv _ => ps.length - (intOf iv).toNat)
    case atStart => exact ⟨0, _, [], Nat.zero_le _, rfl, H3⟩
    case round =>
      clear H3
      obtain ⟨k, av, avs, hk, rfl, H⟩ := hrel
      obtain ⟨Aa, ca, rfl, _, _, _⟩ := Res.row_at H.h0
      by_cases hlt : k < ps.length
      · have hlti : (k : Int) < (ps.length : Int) := by omega
        obtain ⟨b, off, s, x, rfl, hb1, hb2, hla, x1, xr⟩ := HR2.out.slot HSL.out rfl hlt
        have y1 := (H.below.cell (p := ⟨b, off + k, none⟩) hb2).trans x1
        have HPC := Lib.hid (impl_plc_c wr (HRD.out wr H.below) ((xr.keep (SameIn.of_below H.below (Nat.le_refl _))).more (Nat.le_refl _) H.size) HV.out (HPS.out s (List.mem_of_getElem? hla)))
        have c0 : wr.cell? ⟨g, 0, none⟩ = some (.int .i64 r.w) := H.h4.cell 0
        have c1 : wr.cell? ⟨g, 1, none⟩ = some (.slice A r.rows.length c) := H.h4.cell 1
        obtain ⟨Ax, cx, rfl, _, _⟩ := xr
        obtain ⟨Q, hQ⟩ : ∃ Q, Q = plc r s := ⟨_, rfl⟩
        rw [← hQ] at HPC
        have HTK : Hid ((ps.take (k + 1)).map (plc r) = (ps.take k).map (plc r) ++ [Q]) := Lib.hid (by rw [List.take_add_one, hla, List.map_append, hQ]; rfl)
        have hk0 : ¬ (k : Int) < 0 := by omega
        clear hQ hla x1
        go_wp2_with fail
        refine (HPC.out).mono ?_
        rintro e w4 ⟨pv, rfl, o4, b4⟩
        have H4 := H.oiNew b4 o4
        obtain ⟨Ap, cp, rfl, _, _⟩ := o4.rd
        obtain ⟨q, hq⟩ : ∃ q, q = Q.length := ⟨_, rfl⟩
        rw [← hq] at H4 ⊢
        have HQL := Lib.hid hq
        clear H HPC b4 o4 c0 c1 y1 hq
        have d0 : w4.cell? ⟨gs, 0, none⟩ = some (.slice Aa k ca) := H4.h3.cell 0
        have hgl : gs < w4.heap.size := H4.h3.lt
        go_wp2_with (at_builtin; refine wpList_app rfl _ _ 109 rfl 27 j0 _ 1 24 Tryz.underlying109 hj hy0 hy1 hy2 rfl (by decide) _ _ _ rfl (H4.g1.alloc _) _ _ _ [.slice Ap q cp] rfl (Rd.fresh w4 27 #[.slice Ap q cp] 1 1 rfl) (ocZ rfl) (by unfold maxLen; omega) (by omega) ?_; intro v5 w5 H5; clear H4 d0 hgl; obtain ⟨A5, c5, rfl, _, _, _⟩ := Res.row_at H5.h0; have d0 : w5.cell? ⟨gs, 0, none⟩ = some (.slice Aa k ca) := H5.h3.cell 0; have f0 := H5.h3.frozen 0; have hgl : gs < w5.heap.size := H5.h3.lt; have H6 := H5.g3.set_ 0 (.slice A5 (k + 1) c5); have H7 := (H6.g2.g3.rowsSnoc HQL.out).g2; rw [← HTK.out] at H7; have HH := Lib.hid H7; clear H5 H6 H7)
        go_roundw
        case rel => exact ⟨k + 1, _, _, by omega, by go_num, HH.out⟩
        case measure => simp [intOf]; omega
      · obtain rfl : k = ps.length := by omega
        have hmap : (ps.take ps.length).map (plc r) = (atN r ps).map nl := by rw [List.take_length, atN_nl HV.out ps]
        rw [hmap] at H
        have c0 : wr.cell? ⟨g, 0, none⟩ = some (.int .i64 r.w) := H.h4.cell 0
        have c1 : wr.cell? ⟨g, 1, none⟩ = some (.slice A r.rows.length c) := H.h4.cell 1
        have HMK := Lib.hid (HMSK.out wr H.below)
        clear hmap
        go_wp2_with fail
        refine (HMK.out).mono ?_
        rintro e w5 ⟨rfl, b5⟩
        have H5 := ((H.step b5).g3.rowsNil.nil 27 1).g2.nil 3 1
        clear H b5 c0 c1 HMK
        have HML : Hid (r.mask < 2 ^ 36) := Lib.hid (by have := Reg.mask_lt HV.out; omega)
        obtain ⟨M, hM⟩ : ∃ M, M = r.mask := ⟨_, rfl⟩
        rw [← hM] at HML HRE ⊢
        have HSV := Lib.hid (solve_c gs (g + 1) ps.length (.slice Aa ps.length ca) avs (atN r ps) ps.length w w5 _ (.slice none 0 0) (.slice none 0 0) [] [] [] M 0 0 ⟨by simp, by simp, by simp, by simp [atN], by omega, atN_msk HV.out⟩ rfl (by omega) rfl (by omega) HML.out H5)
        clear H5 hM
        go_wp2_with fail
        refine (HSV.out).mono ?_
        rintro e w6 ⟨ov, vs6, n6, S, hS, hn6, rfl, H6⟩
        have HS : Hid (S = R) := Lib.hid (by rw [hS, HRE.out]; rfl)
        have HN6 := Lib.hid hn6
        obtain ⟨Ao, co, rfl, _, _, _⟩ := Res.row_at H6.h1
        have d0 : w6.cell? ⟨g + 1, 0, none⟩ = some (.slice Ao n6 co) := H6.h0.cell 0
        clear hS hn6 HSV
        go_wp2
        go_ret
        exact ⟨_, vs6, n6, _, rfl, by rw [← HS.out]; exact HN6.out, by rw [← HS.out]; exact H6.drop⟩
  · have hab : (a1 == a2) = false := by simpa using ha
    have hab2 : (a1 != a2) = true := by simpa using ha
    obtain rfl : R = [] := by rw [HRR.out, pzR, if_neg (by rw [← HA1.out, ← HA2.out]; exact ha)]
    clear ha
    go_wp2
    go_ret
    exact ⟨_, [], 0, _, rfl, rfl, (H1.rowsNil).nil 27 1⟩
end Go.Proofs.YtppbkiajcpdkiaaGreatDoor

namespace Go.Proofs.YtppbkiajcpdkiaaGreatDoor
open Go.RowKit

def PzSol (R : List (List Nat)) (w : World) : Ending → World → Prop := fun e w' => ∃ ov vs n L, e = .returned ov ∧ n = R.length ∧ Sep w w' (Res.row ov 27 1 n vs :: Res.rows vs (R.map nl) :: L)
theorem PzSol.mk {R : List (List Nat)} {w w' : World} {ov : Value} {vs : List Value} {n : Nat} {L : List Res} (hn : n = R.length) (H : Sep w w' (Res.row ov 27 1 n vs :: Res.rows vs (R.map nl) :: L)) : PzSol R w (.returned ov) w' := ⟨ov, vs, n, L, rfl, hn, H⟩
set_option maxRecDepth 100000 in
set_option maxHeartbeats 800000 in
theorem spec_pcsA_c {v2 : Value} {ps : List (List Cell)} (w : World) (h2 : CellSSRd w 0 w.heap.size v2 ps) (hp : arePcs ps = true) :
    Calls Tryz.prog 198 #[v2] w fun e w' => e = .returned (.int .i64 (pcsA ps)) ∧ Below w.heap.size w w' := by
  have HPS := Lib.hid (arePcs_on hp).1
  have hp5 := (arePcs_on hp).2.2
  have hsl8 : ∀ s ∈ ps, s.length ≤ 1048576 := fun s hs => by have := (shp_len (HPS.out s hs)).2; omega
  have HAP : Hid (∀ w1, Below w.heap.size w w1 → Calls Tryz.prog 106 #[v2] w1 fun e w' => e = .returned (.bool true) ∧ Below w1.heap.size w1 w') := Lib.hid fun w1 b1 => by
    have := spec_arePcs_c w1 ((h2.keep (SameIn.of_below b1 (Nat.le_refl _))).more (Nat.le_refl _) b1.size) (by omega) hsl8
    rw [hp] at this
    exact this
  have HLE := Lib.hid (arTo_le hsl8)
  obtain ⟨vs, ⟨A2, c2, rfl, hm2, hr2⟩, hsl⟩ := h2
  have HR2 := Lib.hid hr2
  have HSL := Lib.hid hsl
  have H0 := Sep.start w
  clear hr2 hsl hsl8 hp
  go_enter Tryz.func198, Tryz.ntmps198
  go_wp2
  go_loopw [3, 4] (fun nv kv wx => ∃ k : Nat, k ≤ ps.length ∧ kv = .int .i64 k ∧ nv = .int .i64 (arTo ps k : Nat) ∧ Sep w wx []) (fun _ kv _ => ps.length - (intOf kv).toNat)
  case atStart => exact ⟨0, Nat.zero_le _, rfl, rfl, H0⟩
  case round =>
    clear H0
    obtain ⟨k, hk, rfl, rfl, H⟩ := hrel
    by_cases hlt : k < ps.length
    · have hlti : (k : Int) < (ps.length : Int) := by omega
      obtain ⟨b, off, s, x, rfl, hb1, hb2, hla, x1, xr⟩ := HR2.out.slot HSL.out rfl hlt
      obtain ⟨Ax, cx, rfl, _, _⟩ := xr
      have HA := Lib.hid (HAP.out wr H.below)
      have HX1 := Lib.hid x1
      obtain ⟨a, ha⟩ : ∃ a, a = arTo ps k := ⟨_, rfl⟩
      have hal2 := HLE.out (k + 1)
      have has := arTo_succ hla
      rw [← ha] at has ⊢
      have HAS : Hid (arTo ps (k + 1) = a + s.length) := Lib.hid has
      have hsb : a + s.length ≤ 1152921504606846976 := by rw [← has]; exact Nat.le_trans hal2 (by omega)
      clear hla ha hal2 has x1
      go_wp2_with fail
      refine (HA.out).mono ?_
      rintro e w4 ⟨rfl, b4⟩
      have H4 := H.step b4
      have y1 := (H4.below.cell (p := ⟨b, off + k, none⟩) hb2).trans HX1.out
      clear H b4 HA
      go_wp2
      go_roundw
      case rel => exact ⟨k + 1, by omega, by go_num, by rw [HAS.out]; go_num, H4⟩
      case measure => simp [intOf]; omega
    · obtain rfl : k = ps.length := by omega
      go_wp2
      go_ret
      exact ⟨rfl, H.below⟩
set_option maxRecDepth 100000 in
set_option maxHeartbeats 3200000 in
theorem spec_sols_c {v v2 v3 : Value} {r : Reg} {ps : List (List Cell)} (w : World) (h : RegRd w 0 w.heap.size v r) (h2 : CellSSRd w 0 w.heap.size v2 ps) (h3 : IntsRd w 0 w.heap.size v3 (List.replicate ps.length (-1))) (hv : r.Valid) (hp : arePcs ps = true) :
    Calls Tryz.prog 175 #[v, v2, v3] w (PzSol (pzR r ps) w) := by
  obtain ⟨j0, hj, hy0, hy1, hy2⟩ := info_parts infoRowZ
  have HV := Lib.hid hv
  have HPS := Lib.hid (arePcs_on hp).1
  have hp5 := (arePcs_on hp).2.2
  have HRD : Hid (∀ w1, Below w.heap.size w w1 → RegRd w1 0 w1.heap.size v r) := Lib.hid fun w1 b1 => (h.keep (SameIn.of_below b1 (Nat.le_refl _))).more (Nat.le_refl _) b1.size
  have HH3 : Hid (∀ w1, Below w.heap.size w w1 → IntsRd w1 0 w1.heap.size v3 (List.replicate ps.length (-1))) := Lib.hid fun w1 b1 => (h3.keep (SameIn.of_below b1 (Nat.le_refl _))).more (Nat.le_refl _) b1.size
  have HAA : Hid (∀ w1, Below w.heap.size w w1 → Calls Tryz.prog 198 #[v2] w1 fun e w' => e = .returned (.int .i64 (pcsA ps)) ∧ Below w1.heap.size w1 w') := Lib.hid fun w1 b1 => spec_pcsA_c w1 ((h2.keep (SameIn.of_below b1 (Nat.le_refl _))).more (Nat.le_refl _) b1.size) hp
  have HAR : Hid (∀ w1, Below w.heap.size w w1 → Calls Tryz.prog 56 #[v] w1 fun e w' => e = .returned (.int .i64 (areaR r)) ∧ Below w1.heap.size w1 w') := Lib.hid fun w1 b1 => spec_area_c w1 (HRD.out w1 b1) (by have := HV.out.2.2.2.1; omega)
  have HMSK : Hid (∀ w1, Below w.heap.size w w1 → Calls Tryz.prog 57 #[v] w1 fun e w' => e = .returned (.int .i64 (r.mask : Int)) ∧ Below w1.heap.size w1 w') := Lib.hid fun w1 b1 => spec_mask_c w1 (HRD.out w1 b1) HV.out
  obtain ⟨R, hR⟩ : ∃ R, R = pzR r ps := ⟨_, rfl⟩
  rw [← hR]
  have HRR := Lib.hid hR
  obtain ⟨a1, ha1⟩ : ∃ a, a = pcsA ps := ⟨_, rfl⟩
  obtain ⟨a2, ha2⟩ : ∃ a, a = areaR r := ⟨_, rfl⟩
  rw [← ha1] at HAA
  rw [← ha2] at HAR
  have HA1 := Lib.hid ha1
  have HA2 := Lib.hid ha2
  obtain ⟨sr, rfl, hsr⟩ := h
  obtain ⟨A, c, rfl, _, _⟩ := hsr
  obtain ⟨vs, ⟨A2, c2, rfl, hm2, hr2⟩, hsl⟩ := h2
  have hlr : (List.replicate ps.length (-1 : Int)).length = ps.length := List.length_replicate
  obtain ⟨A3, c3, rfl, _, _⟩ := h3
  rw [hlr] at HH3 ⊢
  have HR2 := Lib.hid hr2
  have HSL := Lib.hid hsl
  have H0 := (Sep.start w).box 29 #[.int .i64 r.w, .slice A r.rows.length c]
  obtain ⟨g, hg⟩ : ∃ g, g = w.heap.size := ⟨_, rfl⟩
  rw [← hg] at H0
  clear hR ha1 ha2 hv hp hr2 hsl hlr
  go_enter Tryz.func175, Tryz.ntmps175
  go_upto_region 1 with fail
  rw [← hg]
  generalize (w.alloc (.cells #[.int .i64 r.w, .slice A r.rows.length c] 29)) = W at *
  clear hg
  have l0 := Later.cell (p := ⟨g, 0, none⟩) (v := .int .i64 r.w) (W := W) (H0.h0.cell 0) H0.h0.lt
  have l1 := Later.cell (p := ⟨g, 1, none⟩) (v := .slice A r.rows.length c) (W := W) (H0.h0.cell 1) H0.h0.lt
  have HB0 := Lib.hid H0.below
  have HA3 : Hid (∀ u : Later W, Calls Tryz.prog 198 #[.slice A2 ps.length c2] u.w fun e w' => e = .returned (.int .i64 a1) ∧ Below u.w.heap.size u.w w') := Lib.hid fun u => HAA.out u.w (HB0.out.trans (u.h.mono HB0.out.size))
  have HA4 : Hid (∀ u : Later W, Calls Tryz.prog 56 #[.agg #[.int .i64 r.w, .slice A r.rows.length c]] u.w fun e w' => e = .returned (.int .i64 a2) ∧ Below u.w.heap.size u.w w') := Lib.hid fun u => HAR.out u.w (HB0.out.trans (u.h.mono HB0.out.size))
  have HH := Lib.hid H0
  clear H0 HAA HAR
  refine wp_region_later (by kernel_rfl) (by kernel_rfl) ?_
  repeat (go_big_quiet_step ((first
    | (go_at_call 198; exact Later.call (HA3.out _))
    | (go_at_call 56; exact Later.call (HA4.out _)))))
  refine wpQuiet_nil ?_
  intro w3 hw3
  obtain ⟨u3, hu3⟩ := hw3
  subst hu3
  have H1 := Sep.later HH.out u3
  clear l0 l1 HH HA3 HA4 HB0
  generalize u3.w = w1 at *
  by_cases ha : a1 = a2
  · have hab : (a1 == a2) = true := by simpa using ha
    have hab2 : (a1 != a2) = false := by simpa using ha
    have HRE : Hid (R = (pzS (atN r ps) r.mask).take 300) := Lib.hid (by
      rw [HRR.out, pzR, if_pos (by rw [← HA1.out, ← HA2.out]; exact ha)])
    have H3 := H1.rowsNil.rowBox 27 #[] 1 0 rfl (by decide)
    clear ha H1
    go_wp2
    go_loopw [7, 8] (fun pv iv wx => ∃ (k : Nat) (av : Value) (avs : List Value), k ≤ ps.length ∧ pv = av ∧ iv = .int .i64 k ∧ Sep w wx [Res.row av 27 1 k avs, Res.rows avs ((ps.take k).map (plc r)), Res.box g 29 #[.int .i64 r.w, .slice A r.rows.length c]]) (fun _ iv _ => ps.length - (intOf iv).toNat)
    case atStart => exact ⟨0, _, [], Nat.zero_le _, rfl, rfl, H3⟩
    case round =>
      clear H3
      obtain ⟨k, av, avs, hk, rfl, rfl, H⟩ := hrel
      obtain ⟨Aa, ca, rfl, _, _, _⟩ := Res.row_at H.h0
      by_cases hlt : k < ps.length
      · have hlti : (k : Int) < (ps.length : Int) := by omega
        obtain ⟨b, off, s, x, rfl, hb1, hb2, hla, x1, xr⟩ := HR2.out.slot HSL.out rfl hlt
        have HX1 := Lib.hid x1
        have H4 := H.drew
        have y1 := (H4.below.cell (p := ⟨b, off + k, none⟩) hb2).trans x1
        have HPC := Lib.hid (spec_plc_c wr.drew (HRD.out wr.drew H4.below) ((xr.keep (SameIn.of_below H4.below (Nat.le_refl _))).more (Nat.le_refl _) H4.size) HV.out (HPS.out s (List.mem_of_getElem? hla)))
        have c0 : wr.drew.cell? ⟨g, 0, none⟩ = some (.int .i64 r.w) := H4.h2.cell 0
        have c1 : wr.drew.cell? ⟨g, 1, none⟩ = some (.slice A r.rows.length c) := H4.h2.cell 1
        obtain ⟨Ax, cx, rfl, _, _⟩ := xr
        obtain ⟨Q, hQ⟩ : ∃ Q, Q = plc r s := ⟨_, rfl⟩
        rw [← hQ] at HPC
        have HTK : Hid ((ps.take (k + 1)).map (plc r) = (ps.take k).map (plc r) ++ [Q]) := Lib.hid (by rw [List.take_add_one, hla, List.map_append, hQ]; rfl)
        obtain ⟨q, hq⟩ : ∃ q, q = Q.length := ⟨_, rfl⟩
        have HQL := Lib.hid hq
        clear hQ hla x1 hq H
        go_wp2_with fail
        go_region_held3 (fun w' => w'.cell? ⟨g, 0, none⟩ = some (.int .i64 r.w) ∧ w'.cell? ⟨g, 1, none⟩ = some (.slice A r.rows.length c) ∧ w'.cell? ⟨b, off + k, none⟩ = some (.slice Ax s.length cx))
          (first | ((try dsimp only); refine ⟨?_, ?_, ?_⟩ <;> assumption) | go_keep)
          (first
            | (go_at_call 136; (with_reducible refine (HPC.out).mono ?_); rintro e w5 ⟨pv, rfl, o5, b5⟩; have o6 : OI w5 wr.drew.heap.size w5.heap.size 3 1 pv q (ic Q) := (by rw [HQL.out]; exact o5); obtain ⟨Ap, cp, rfl, _, _, _⟩ := o6.rd; have H5 := H4.oiNew b5 o6; have d0 : w5.cell? ⟨g, 0, none⟩ = some (.int .i64 r.w) := H5.h3.cell 0; have d1 : w5.cell? ⟨g, 1, none⟩ = some (.slice A r.rows.length c) := H5.h3.cell 1; have y5 : w5.cell? ⟨b, off + k, none⟩ = some (.slice Ax s.length cx) := (H5.below.cell (p := ⟨b, off + k, none⟩) hb2).trans HX1.out)
            | (refine step_app rfl (.tmp 22) (.tmp 29) 109 rfl 27 j0 _ 1 24 Tryz.underlying109 hj hy0 hy1 hy2 rfl (by decide) _ _ _ (by rfl) (H5.g1.alloc _) _ _ _ [.slice Ap q cp] (by rfl) (Rd.fresh w5 _ #[.slice Ap q cp] 1 1 rfl) (ocZ rfl) (by unfold maxLen; omega) (by omega) ?_; intro v6 w6 H6; have d0' : w6.cell? ⟨g, 0, none⟩ = some (.int .i64 r.w) := H6.h3.cell 0; have d1' : w6.cell? ⟨g, 1, none⟩ = some (.slice A r.rows.length c) := H6.h3.cell 1; have y6 : w6.cell? ⟨b, off + k, none⟩ = some (.slice Ax s.length cx) := (H6.below.cell (p := ⟨b, off + k, none⟩) hb2).trans HX1.out))
        all_goals
          have H7 := (H6.g1.g2.rowsSnoc HQL.out).p1
          rw [← HTK.out] at H7
          clear H4 H5 H6 c0 c1 y1 d0 d1 y5 d0' d1' y6
          go_wp2
          go_roundw
          case rel => exact ⟨k + 1, _, _, by omega, rfl, by go_num, H7⟩
          case measure => simp [intOf]; omega
      · obtain rfl : k = ps.length := by omega
        have hmap : (ps.take ps.length).map (plc r) = (atN r ps).map nl := by rw [List.take_length, atN_nl HV.out ps]
        rw [hmap] at H
        have hlen2 : ps.length = ((atN r ps).map nl).length := by simp [atN]
        have HSS := Lib.hid hlen2
        have c0 : wr.cell? ⟨g, 0, none⟩ = some (.int .i64 r.w) := H.h2.cell 0
        have c1 : wr.cell? ⟨g, 1, none⟩ = some (.slice A r.rows.length c) := H.h2.cell 1
        have HMK := Lib.hid (HMSK.out wr H.below)
        clear hmap hlen2
        go_wp2_with fail
        refine (HMK.out).mono ?_
        rintro e w5 ⟨rfl, b5⟩
        have H5 := H.step b5
        clear H b5 c0 c1 HMK
        have HML : Hid (r.mask < 2 ^ 36) := Lib.hid (by have := Reg.mask_lt HV.out; omega)
        obtain ⟨M, hM⟩ : ∃ M, M = r.mask := ⟨_, rfl⟩
        rw [← hM] at HML HRE ⊢
        have HSV := Lib.hid (sr_c ps.length (.slice Aa ps.length ca) (.slice A3 ps.length c3) (atN r ps) ps.length w5 M 300 0 (by omega) (by simp [atN]) (by omega) (atN_msk HV.out) HML.out (by decide) (by decide) (H5.ssRd HSS.out) (HH3.out w5 H5.below))
        clear hM
        go_wp2_with fail
        refine (HSV.out).mono ?_
        rintro e w6 ⟨g6, n6, c6, vs6, rfl, hn6, H6⟩
        have HS : Hid ((pzS ((atN r ps).drop 0) M).take 300 = R) := Lib.hid (by rw [HRE.out]; rfl)
        rw [HS.out] at hn6 H6
        have HN6 := Lib.hid hn6
        have H7 := H6.join H5
        clear hn6 HSV H6 H5
        go_wp2
        go_ret
        exact PzSol.mk HN6.out H7
  · have hab : (a1 == a2) = false := by simpa using ha
    have hab2 : (a1 != a2) = true := by simpa using ha
    obtain rfl : R = [] := by rw [HRR.out, pzR, if_neg (by rw [← HA1.out, ← HA2.out]; exact ha)]
    clear ha
    have H2 := H1.rowsNil.rowBox 27 #[] 1 0 rfl (by decide)
    clear H1
    go_wp2
    go_ret
    exact PzSol.mk (R := []) (n := 0) (vs := []) rfl H2
end Go.Proofs.YtppbkiajcpdkiaaGreatDoor

namespace Go.Proofs.YtppbkiajcpdkiaaGreatDoor
open Go.RowKit

def PzsPost (M : List (List Nat)) (b : Bool) (w : World) : Ending → World → Prop := fun e w' => ∃ ov vs n L, e = .returned (.tuple #[ov, .bool b]) ∧ n = M.length ∧ Sep w w' (Res.row ov 27 1 n vs :: Res.rows vs (M.map nl) :: L)
theorem PzsPost.mk {M T : List (List Nat)} {b c : Bool} {w w' : World} {ov : Value} {vs : List Value} {n : Nat} {L : List Res} (hM : T = M) (hb : c = b) (hn : n = M.length) (H : Sep w w' (Res.row ov 27 1 n vs :: Res.rows vs (M.map nl) :: L)) : PzsPost T b w (.returned (.tuple #[ov, .bool c])) w' := by
  subst hM hb
  exact ⟨ov, vs, n, L, rfl, hn, H⟩
theorem pzM_no {r : Reg} {ps : List (List Cell)} (h : (r.valid && arePcs ps) = false) : pzM r ps = [] := by unfold pzM; rw [h]; rfl
theorem pzM_yes {r : Reg} {ps : List (List Cell)} (h : (r.valid && arePcs ps) = true) : pzM r ps = pzR r ps := by unfold pzM; rw [h]; rfl
set_option maxRecDepth 100000 in
set_option maxHeartbeats 1600000 in
theorem impl_pzs_c {v v2 : Value} {r : Reg} {ps : List (List Cell)} (w : World) (h : RegRd w 0 w.heap.size v r) (h2 : CellSSRd w 0 w.heap.size v2 ps) (hn : ps.length ≤ 1048576) (hl : ∀ s ∈ ps, s.length ≤ 1048576) :
    Calls Tryz.prog 149 #[v, v2] w (PzsPost (pzM r ps) (r.valid && arePcs ps) w) := by
  have HRD : Hid (∀ w1, Below w.heap.size w w1 → RegRd w1 0 w1.heap.size v r) := Lib.hid fun w1 b1 => (h.keep (SameIn.of_below b1 (Nat.le_refl _))).more (Nat.le_refl _) b1.size
  have HR2 : Hid (∀ w1, Below w.heap.size w w1 → CellSSRd w1 0 w1.heap.size v2 ps) := Lib.hid fun w1 b1 => (h2.keep (SameIn.of_below b1 (Nat.le_refl _))).more (Nat.le_refl _) b1.size
  obtain ⟨T, hT⟩ : ∃ T, T = pzM r ps := ⟨_, rfl⟩
  obtain ⟨K, hK⟩ : ∃ K, K = (r.valid && arePcs ps) := ⟨_, rfl⟩
  rw [← hT, ← hK]
  have HT := Lib.hid hT
  have HKK := Lib.hid hK
  obtain ⟨sr, rfl, hsr⟩ := h
  obtain ⟨A, c, rfl, _, _⟩ := hsr
  obtain ⟨vs, ⟨A2, c2, rfl, _, _⟩, _⟩ := h2
  have H0 := (Sep.start w).box 29 #[.int .i64 r.w, .slice A r.rows.length c]
  obtain ⟨g, hg⟩ : ∃ g, g = w.heap.size := ⟨_, rfl⟩
  rw [← hg] at H0
  clear hT hK
  go_enter Tryz.func149, Tryz.ntmps149
  go_upto_region 1 with fail
  rw [← hg]
  generalize (w.alloc (.cells #[.int .i64 r.w, .slice A r.rows.length c] 29)) = W at *
  clear hg
  have c0 : W.cell? ⟨g, 0, none⟩ = some (.int .i64 r.w) := H0.h0.cell 0
  have c1 : W.cell? ⟨g, 1, none⟩ = some (.slice A r.rows.length c) := H0.h0.cell 1
  have HP := Lib.hid (impl_prob_c W (HRD.out W H0.below) (HR2.out W H0.below) hn hl)
  rw [← HKK.out] at HP
  go_wp2_with fail
  refine (HP.out).mono ?_
  rintro e w1 ⟨rfl, b1⟩
  have H1 := H0.step b1
  clear c0 c1 H0 HP b1
  cases K
  · have HN : Hid (T = []) := Lib.hid (by rw [HT.out]; exact pzM_no HKK.out.symm)
    have H2 := H1.rowsNil.nil 27 1
    go_wp2
    go_ret2
    exact PzsPost.mk (M := []) HN.out rfl rfl H2
  · have HN : Hid (T = pzR r ps) := Lib.hid (by rw [HT.out]; exact pzM_yes HKK.out.symm)
    have hkk := HKK.out.symm
    rw [Bool.and_eq_true] at hkk
    have HS := Lib.hid (impl_sols_c w1 (HRD.out w1 H1.below) (HR2.out w1 H1.below) (Reg.valid_iff.1 hkk.1) hkk.2)
    have c0 : w1.cell? ⟨g, 0, none⟩ = some (.int .i64 r.w) := H1.h0.cell 0
    have c1 : w1.cell? ⟨g, 1, none⟩ = some (.slice A r.rows.length c) := H1.h0.cell 1
    have HB := Lib.hid H1
    clear hkk H1
    go_wp2_with fail
    refine (HS.out).mono ?_
    rintro e w2 ⟨ov, vs2, n2, L2, rfl, hn2, H2⟩
    rw [← HN.out] at hn2 H2
    have H3 := H2.join HB.out
    have HN2 := Lib.hid hn2
    obtain ⟨Ao, co, rfl, _, _, _⟩ := Res.row_at H2.h0
    clear hn2 H2 HS HB c0 c1
    go_wp2
    go_ret2
    exact PzsPost.mk rfl rfl HN2.out H3
set_option maxRecDepth 100000 in
set_option maxHeartbeats 1600000 in
theorem spec_pzs_c {v v2 : Value} {r : Reg} {ps : List (List Cell)} (w : World) (h : RegRd w 0 w.heap.size v r) (h2 : CellSSRd w 0 w.heap.size v2 ps) (hn : ps.length ≤ 1048576) (hl : ∀ s ∈ ps, s.length ≤ 1048576) :
    Calls Tryz.prog 137 #[v, v2] w (PzsPost (pzM r ps) (r.valid && arePcs ps) w) := by
  have HRD : Hid (∀ w1, Below w.heap.size w w1 → RegRd w1 0 w1.heap.size v r) := Lib.hid fun w1 b1 => (h.keep (SameIn.of_below b1 (Nat.le_refl _))).more (Nat.le_refl _) b1.size
  have HR2 : Hid (∀ w1, Below w.heap.size w w1 → CellSSRd w1 0 w1.heap.size v2 ps) := Lib.hid fun w1 b1 => (h2.keep (SameIn.of_below b1 (Nat.le_refl _))).more (Nat.le_refl _) b1.size
  have HAR : Hid (∀ w1, Below w.heap.size w w1 → Calls Tryz.prog 106 #[v2] w1 fun e w' => e = .returned (.bool (arePcs ps)) ∧ Below w1.heap.size w1 w') := Lib.hid fun w1 b1 => spec_arePcs_c w1 (HR2.out w1 b1) hn hl
  obtain ⟨T, hT⟩ : ∃ T, T = pzM r ps := ⟨_, rfl⟩
  obtain ⟨K, hK⟩ : ∃ K, K = (r.valid && arePcs ps) := ⟨_, rfl⟩
  rw [← hT, ← hK]
  have HT := Lib.hid hT
  have HKK := Lib.hid hK
  obtain ⟨K1, hK1⟩ : ∃ K, K = r.valid := ⟨_, rfl⟩
  obtain ⟨K2, hK2⟩ : ∃ K, K = arePcs ps := ⟨_, rfl⟩
  have HK1 := Lib.hid hK1
  have HK2 := Lib.hid hK2
  rw [← hK2] at HAR
  obtain ⟨sr, rfl, hsr⟩ := h
  obtain ⟨A, c, rfl, _, _⟩ := hsr
  obtain ⟨vs, ⟨A2, c2, rfl, _, _⟩, _⟩ := h2
  have H0 := (Sep.start w).box 29 #[.int .i64 r.w, .slice A r.rows.length c]
  obtain ⟨g, hg⟩ : ∃ g, g = w.heap.size := ⟨_, rfl⟩
  rw [← hg] at H0
  clear hT hK hK1 hK2
  go_enter Tryz.func137, Tryz.ntmps137
  go_upto_region 1 with fail
  rw [← hg]
  generalize (w.alloc (.cells #[.int .i64 r.w, .slice A r.rows.length c] 29)) = W at *
  clear hg
  have c0 : W.cell? ⟨g, 0, none⟩ = some (.int .i64 r.w) := H0.h0.cell 0
  have c1 : W.cell? ⟨g, 1, none⟩ = some (.slice A r.rows.length c) := H0.h0.cell 1
  have HP := Lib.hid (spec_IsRegion_c W (HRD.out W H0.below))
  rw [← HK1.out] at HP
  go_wp2_with fail
  refine (HP.out).mono ?_
  rintro e w1 ⟨rfl, b1⟩
  have H1 := H0.step b1
  clear c0 c1 H0 HP b1
  cases K1
  · obtain rfl : K = false := by rw [HKK.out, ← HK1.out]; rfl
    have HN : Hid (T = []) := Lib.hid (by rw [HT.out]; exact pzM_no HKK.out.symm)
    have H2 := H1.rowsNil.rowBox 27 #[] 1 0 rfl (by decide)
    go_wp2
    go_ret2
    exact PzsPost.mk (M := []) HN.out rfl rfl H2
  have HP2 := Lib.hid (HAR.out w1 H1.below)
  go_wp2_with fail
  refine (HP2.out).mono ?_
  rintro e w2 ⟨rfl, b2⟩
  replace H1 := H1.step b2
  clear HP2 b2 HAR
  cases K2
  · obtain rfl : K = false := by rw [HKK.out, ← HK2.out, Bool.and_false]
    have HN : Hid (T = []) := Lib.hid (by rw [HT.out]; exact pzM_no HKK.out.symm)
    have H2 := H1.rowsNil.rowBox 27 #[] 1 0 rfl (by decide)
    go_wp2
    go_ret2
    exact PzsPost.mk (M := []) HN.out rfl rfl H2
  obtain rfl : K = true := by rw [HKK.out, ← HK1.out, ← HK2.out]; rfl
  have HN : Hid (T = pzR r ps) := Lib.hid (by rw [HT.out]; exact pzM_yes HKK.out.symm)
  have HV := Lib.hid (Reg.valid_iff.1 HK1.out.symm)
  have hp5 := (arePcs_on HK2.out.symm).2.2
  have HS : Hid (∀ (w1 : World) (v3 : Value), Below w.heap.size w w1 → IntsRd w1 0 w1.heap.size v3 (List.replicate ps.length (-1)) → Calls Tryz.prog 175 #[.agg #[.int .i64 r.w, .slice A r.rows.length c], .slice A2 ps.length c2, v3] w1 (PzSol T w1)) := Lib.hid fun w1 v3 b1 h3 => by
    rw [HN.out]
    exact spec_sols_c w1 (HRD.out w1 b1) (HR2.out w1 b1) h3 HV.out HK2.out.symm
  have H2 := H1.drew
  have c0 : w2.drew.cell? ⟨g, 0, none⟩ = some (.int .i64 r.w) := H2.h0.cell 0
  have c1 : w2.drew.cell? ⟨g, 1, none⟩ = some (.slice A r.rows.length c) := H2.h0.cell 1
  have HNC := Lib.hid (none_c (n := ps.length) (by omega) H2)
  unfold PzSol at HS
  clear H1
  go_wp2_with fail
  go_region_held3 (fun w' => w'.cell? ⟨g, 0, none⟩ = some (.int .i64 r.w) ∧ w'.cell? ⟨g, 1, none⟩ = some (.slice A r.rows.length c))
    (first | ((try dsimp only); refine ⟨?_, ?_⟩ <;> assumption) | go_keep)
    (first
      | (go_at_call 176; (with_reducible refine (HNC.out).mono ?_); rintro e w5 ⟨nv, rfl, H5⟩; have hrd := row_rdZ (w := w5) (v := nv) (n := ps.length) (l := List.replicate ps.length (-1)) H5.h0 (by rw [List.length_replicate]); have d0 : w5.cell? ⟨g, 0, none⟩ = some (.int .i64 r.w) := H5.h1.cell 0; have d1 : w5.cell? ⟨g, 1, none⟩ = some (.slice A r.rows.length c) := H5.h1.cell 1)
      | (go_at_call 175; (with_reducible refine (HS.out _ _ H5.below hrd).mono ?_); rintro e w6 ⟨ov, vs6, n6, L6, rfl, hn6, H6⟩; have H7 := H6.join H5; have d0' : w6.cell? ⟨g, 0, none⟩ = some (.int .i64 r.w) := (H6.below.cell (p := ⟨g, 0, none⟩) (H5.h1.lt)).trans d0; have d1' : w6.cell? ⟨g, 1, none⟩ = some (.slice A r.rows.length c) := (H6.below.cell (p := ⟨g, 1, none⟩) (H5.h1.lt)).trans d1))
  all_goals
    have HN6 := Lib.hid hn6
    have HH := Lib.hid H7
    obtain ⟨Ao, co, rfl, _, _, _⟩ := Res.row_at H7.h0
    clear hn6 H6 H7 hrd H5 d0 d1 d0' d1' c0 c1 H2 HNC HS
    go_wp2
    go_ret2
    exact PzsPost.mk rfl rfl HN6.out HH.out
end Go.Proofs.YtppbkiajcpdkiaaGreatDoor

namespace Go.Proofs.YtppbkiajcpdkiaaGreatDoor
open Go.RowKit

/-- is each mask a placement of its piece, apart from what is used, and have they all cells with it? -/
def solF (r : Reg) : Nat → List (List Cell) → List Int → Bool
  | u, s :: ps, n :: t => hasI (plc r s) n && ((u &&& n.toNat == 0) && solF r (u ||| n.toNat) ps t)
  | u, [], _ => u == r.mask
  | u, _ :: _, [] => u == r.mask
def solB (r : Reg) (ps : List (List Cell)) (t : List Int) : Bool := (r.valid && arePcs ps) && (decide (t.length = ps.length) && solF r 0 ps t)
theorem dropL {α : Type} {t : List α} {i : Nat} {n : α} (h : t[i]? = some n) : t.drop i = n :: t.drop (i + 1) := by
  obtain ⟨h1, h2⟩ := List.getElem?_eq_some_iff.1 h
  rw [List.drop_eq_getElem_cons h1, h2]
theorem sol_end {r : Reg} {u : Nat} {ps : List (List Cell)} {t : List Int} {i : Nat} (h : i = ps.length) : solF r u (ps.drop i) (t.drop i) = (u == r.mask) := by
  rw [h, List.drop_length]; rfl
theorem sol_at {r : Reg} {u : Nat} {ps : List (List Cell)} {t : List Int} {i : Nat} {s : List Cell} {n : Int} (h : ps[i]? = some s) (h2 : t[i]? = some n) : solF r u (ps.drop i) (t.drop i) = (hasI (plc r s) n && ((u &&& n.toNat == 0) && solF r (u ||| n.toNat) (ps.drop (i + 1)) (t.drop (i + 1)))) := by
  rw [dropL h, dropL h2]
  conv => lhs; unfold solF
set_option maxRecDepth 100000 in
set_option maxHeartbeats 6400000 in
theorem impl_sol_c {v v2 v3 : Value} {r : Reg} {ps : List (List Cell)} {t : List Int} (w : World) (h : RegRd w 0 w.heap.size v r) (h2 : CellSSRd w 0 w.heap.size v2 ps) (h3 : IntsRd w 0 w.heap.size v3 t) (hn : ps.length ≤ 1048576) (hl : ∀ s ∈ ps, s.length ≤ 1048576) :
    Calls Tryz.prog 86 #[v, v2, v3] w fun e w' => e = .returned (.bool (solB r ps t)) ∧ Below w.heap.size w w' := by
  have HRD : Hid (∀ w1, Below w.heap.size w w1 → RegRd w1 0 w1.heap.size v r) := Lib.hid fun w1 b1 => (h.keep (SameIn.of_below b1 (Nat.le_refl _))).more (Nat.le_refl _) b1.size
  have HR3 : Hid (∀ w1, Below w.heap.size w w1 → IntsRd w1 0 w1.heap.size v3 t) := Lib.hid fun w1 b1 => (h3.keep (SameIn.of_below b1 (Nat.le_refl _))).more (Nat.le_refl _) b1.size
  have HRP : Hid (∀ w1, Below w.heap.size w w1 → CellSSRd w1 0 w1.heap.size v2 ps) := Lib.hid fun w1 b1 => (h2.keep (SameIn.of_below b1 (Nat.le_refl _))).more (Nat.le_refl _) b1.size
  obtain ⟨T, hT⟩ : ∃ T, T = solB r ps t := ⟨_, rfl⟩
  rw [← hT]
  have HT := Lib.hid hT
  obtain ⟨sr, rfl, hsr⟩ := h
  obtain ⟨A0, c, rfl, _, _⟩ := hsr
  obtain ⟨vs, ⟨A2, c2, rfl, hm2, hr2⟩, hsl⟩ := h2
  have HR2 := Lib.hid hr2
  have HSL := Lib.hid hsl
  obtain ⟨A3, c3, rfl, hm3, _⟩ := id h3
  have H0 := (Sep.start w).box 29 #[.int .i64 r.w, .slice A0 r.rows.length c]
  obtain ⟨g, hg⟩ : ∃ g, g = w.heap.size := ⟨_, rfl⟩
  rw [← hg] at H0
  obtain ⟨n, hnn⟩ : ∃ n, n = t.length := ⟨_, rfl⟩
  obtain ⟨np, hnp⟩ : ∃ n, n = ps.length := ⟨_, rfl⟩
  have hn63 : n ≤ 9223372036854775807 := by unfold maxLen at hm3; omega
  have hnp63 : np ≤ 1048576 := by omega
  rw [← hnn] at HR3 ⊢
  rw [← hnp] at HR2 HRP ⊢
  have HN := Lib.hid hnn
  have HNP := Lib.hid hnp
  clear hT h3 hm3 hnn hr2 hsl hm2 hnp
  go_enter Tryz.func86, Tryz.ntmps86
  go_upto_region 1 with fail
  rw [← hg]
  generalize (w.alloc (.cells #[.int .i64 r.w, .slice A0 r.rows.length c] 29)) = W at *
  clear hg
  have c0 : W.cell? ⟨g, 0, none⟩ = some (.int .i64 r.w) := H0.h0.cell 0
  have c1 : W.cell? ⟨g, 1, none⟩ = some (.slice A0 r.rows.length c) := H0.h0.cell 1
  obtain ⟨K, hK⟩ : ∃ K, K = (r.valid && arePcs ps) := ⟨_, rfl⟩
  have HK := Lib.hid hK
  have HP := Lib.hid (impl_prob_c W (HRD.out W H0.below) (HRP.out W H0.below) hn hl)
  rw [← hK] at HP
  clear hK
  go_wp2_with fail
  refine (HP.out).mono ?_
  rintro e w1 ⟨rfl, b1⟩
  have H1 := H0.step b1
  clear c0 c1 H0 HP b1
  cases K
  · obtain rfl : T = false := by rw [HT.out, solB, ← HK.out]; rfl
    go_wp2
    go_ret
    exact ⟨rfl, H1.below⟩
  have hkk := HK.out.symm
  rw [Bool.and_eq_true] at hkk
  have HV := Lib.hid (Reg.valid_iff.1 hkk.1)
  have HPS := Lib.hid (arePcs_on hkk.2).1
  clear hkk
  by_cases hne : n = np
  rotate_left
  · have hb : ((n : Int) != (np : Int)) = true := by simp; omega
    obtain rfl : T = false := by rw [HT.out, solB, ← HK.out, decide_eq_false (by rw [← HN.out, ← HNP.out]; exact hne)]; rfl
    clear hne
    go_wp2
    go_ret
    exact ⟨rfl, H1.below⟩
  have hb : ((n : Int) != (np : Int)) = false := by simp; omega
  have HEQ := Lib.hid hne
  obtain ⟨M, hM⟩ : ∃ M, M = r.mask := ⟨_, rfl⟩
  have HMM := Lib.hid hM
  have HC0 : Hid (T = solF r 0 (ps.drop 0) (t.drop 0)) := Lib.hid (by rw [HT.out, solB, ← HK.out, decide_eq_true (by rw [← HN.out, ← HNP.out]; exact hne)]; rfl)
  clear hM hne
  go_wp2
  go_loopw [7, 23] (fun uv iv wx => ∃ i u : Nat, i ≤ n ∧ iv = .int .i64 i ∧ uv = .int .i64 u ∧ u < 68719476736 ∧ Hid (T = solF r u (ps.drop i) (t.drop i)) ∧ Sep w wx [Res.box g 29 #[.int .i64 r.w, .slice A0 r.rows.length c]]) (fun _ iv _ => n - (intOf iv).toNat)
  case atStart => exact ⟨0, 0, Nat.zero_le _, rfl, rfl, by decide, HC0, H1⟩
  case round =>
    clear H1
    obtain ⟨i, u, hin, rfl, rfl, hu36, HC, HSP⟩ := hrel
    have HO : Hid (Below w.heap.size w wr) := Lib.hid HSP.below
    by_cases hlt : i < n
    rotate_left
    · obtain rfl : n = i := by omega
      have HC2 : Hid (T = (u == M)) := Lib.hid (by rw [HC.out, HMM.out]; exact sol_end (by rw [← HNP.out]; exact HEQ.out))
      have hbe : ((u : Int) == (M : Int)) = (u == M) := by rw [Bool.eq_iff_iff]; simp only [beq_iff_eq]; omega
      obtain ⟨Z, hZ⟩ : ∃ Z, Z = (u == M) := ⟨_, rfl⟩
      rw [← hZ] at hbe
      obtain rfl : T = Z := HC2.out.trans hZ.symm
      have c0 : wr.cell? ⟨g, 0, none⟩ = some (.int .i64 r.w) := HSP.h0.cell 0
      have c1 : wr.cell? ⟨g, 1, none⟩ = some (.slice A0 r.rows.length c) := HSP.h0.cell 1
      have HMK := Lib.hid (impl_mask_c wr (HRD.out wr HO.out) HV.out)
      rw [← HMM.out] at HMK
      clear hZ HC2 HC
      go_wp2_with fail
      refine (HMK.out).mono ?_
      rintro e w6 ⟨rfl, b6⟩
      have HO6 : Hid (Below w.heap.size w w6) := Lib.hid (HO.out.trans (b6.mono HO.out.size))
      clear HSP
      clear b6 c0 c1
      go_wp2
      go_ret
      exact ⟨rfl, HO6.out⟩
    have hlti : (i : Int) < (n : Int) := by omega
    have hltp : i < np := by have := HEQ.out; omega
    have hltpi : (i : Int) < (np : Int) := by omega
    obtain ⟨x, hx⟩ : ∃ x, t[i]? = some x := ⟨t[i]'(by rw [← HN.out]; exact hlt), List.getElem?_eq_getElem _⟩
    obtain ⟨b3, off3, hA3, hb3, y0⟩ := ints_atZ (HR3.out wr HO.out) hx
    subst hA3
    obtain ⟨b2, off2, s, sv, rfl, hb1, hb2, hla, x1, xr⟩ := HR2.out.slot HSL.out HNP.out hltp
    have y1 := (HO.out.cell (p := ⟨b2, off2 + i, none⟩) hb2).trans x1
    have HSH := Lib.hid (HPS.out s (List.mem_of_getElem? hla))
    have HXR : Hid (∀ w', Below wr.heap.size wr w' → CellsRd w' 0 w'.heap.size sv s) := Lib.hid fun w' b => by
      have hb := HO.out.trans (b.mono HO.out.size)
      exact (xr.keep (SameIn.of_below hb (Nat.le_refl _))).more (Nat.le_refl _) hb.size
    obtain ⟨Ax, cx, rfl, _, _⟩ := xr
    have HPC : Hid (∀ w', Below wr.heap.size wr w' → Calls Tryz.prog 113 #[.agg #[.int .i64 r.w, .slice A0 r.rows.length c], .slice Ax s.length cx] w' fun e w'' => ∃ v', e = .returned v' ∧ IntsIn w'' w'.heap.size w''.heap.size v' (plc r s) ∧ Below w'.heap.size w' w'') := Lib.hid fun w' b =>
      impl_plc_c w' (HRD.out w' (HO.out.trans (b.mono HO.out.size))) (HXR.out w' b) HV.out HSH.out
    have HHI : Hid (∀ w' v', IntsRd w' 0 w'.heap.size v' (plc r s) → Calls Tryz.prog 112 #[v', .int .i64 x] w' fun e w'' => e = .returned (.bool (hasI (plc r s) x)) ∧ w' = w'') := Lib.hid fun w' v' hv' => impl_hasI_c w' hv' (by have := plc_len HV.out (s := s); omega)
    have HAT := Lib.hid (sol_at (r := r) (u := u) hla hx)
    have HMK : Hid (hasI (plc r s) x = true → Mk36 x) := Lib.hid fun hh => plc_mk HV.out (of_decide_eq_true hh)
    have HB3 := Lib.hid hb3
    have BF : Hid (∀ w', Below wr.heap.size wr w' → (w'.cell? ⟨g, 0, none⟩ = some (.int .i64 r.w) ∧ w'.cell? ⟨g, 1, none⟩ = some (.slice A0 r.rows.length c)) ∧ (w'.cell? ⟨b2, off2 + i, none⟩ = some (.slice Ax s.length cx) ∧ w'.cell? ⟨b3, off3 + i, none⟩ = some (.int .i64 x))) := Lib.hid fun w' b => ⟨⟨(HSP.step b).h0.cell 0, (HSP.step b).h0.cell 1⟩, ⟨(b.cell (p := ⟨b2, off2 + i, none⟩) (Nat.lt_of_lt_of_le hb2 HO.out.size)).trans y1, (b.cell (p := ⟨b3, off3 + i, none⟩) hb3).trans y0⟩⟩
    obtain ⟨PL, hPL⟩ : ∃ P, P = plc r s := ⟨_, rfl⟩
    rw [← hPL] at HPC HHI HAT HMK
    obtain ⟨HH, hHH⟩ : ∃ H, H = hasI PL x := ⟨_, rfl⟩
    rw [← hHH] at HHI HAT HMK
    clear hHH hPL hx hla x1 y1 hb1 hb2 hb3
    obtain ⟨CC, hCC⟩ : ∃ C, C = (!HH || !(u &&& x.toNat == 0)) := ⟨_, rfl⟩
    have HCC := Lib.hid hCC
    clear hCC
    go_upto_region 7 with fail
    go_cut [42] (fun q wx => q = .bool CC ∧ Below wr.heap.size wr wx)
    case first =>
      cases HH
      · obtain rfl : CC = true := HCC.out
        clear HCC HAT HC HMK
        have HX : Below wr.heap.size wr wr.drew := below_drew (Below.refl _ _)
        have f0 := (BF.out _ HX).1.1
        have f1 := (BF.out _ HX).1.2
        have f2 := (BF.out _ HX).2.1
        have f3 := (BF.out _ HX).2.2
        refine wp_region_held_drew (S := fun w' => (w'.cell? ⟨g, 0, none⟩ = some (.int .i64 r.w) ∧ w'.cell? ⟨g, 1, none⟩ = some (.slice A0 r.rows.length c)) ∧ (w'.cell? ⟨b2, off2 + i, none⟩ = some (.slice Ax s.length cx) ∧ w'.cell? ⟨b3, off3 + i, none⟩ = some (.int .i64 x))) (by kernel_rfl) ⟨⟨f0, f1⟩, ⟨f2, f3⟩⟩ (fun hHeld => ?_)
        refine wpAnyH_take (i := 0) (oi := { dst := some 28, op := _, type := _, pos := _, after := _, guard := _ }) (v := .agg #[.int .i64 r.w, .slice A0 r.rows.length c]) rfl (by kernel_rfl) (by kernel_rfl) (by kernel_rfl) (fun _ _ _ h => h) (Or.inl ⟨by rfl, ?_⟩) (by assumption) ?_
        · intro w hSw
          obtain ⟨⟨h1, h2⟩, h3, h4⟩ := hSw
          go_simp
          (try with_reducible rfl)
        simp only [Act.put, List.setIfInBounds_toArray, List.set_cons_zero, List.set_cons_succ]
        refine wpAnyH_take (i := 1) (oi := { dst := some 29, op := _, type := _, pos := _, after := _, guard := _ }) (v := .slice (some ⟨b2, off2, none⟩) np c2) rfl (by kernel_rfl) (by kernel_rfl) (by kernel_rfl) (fun _ _ _ h => h) (Or.inl ⟨by rfl, ?_⟩) (by assumption) ?_
        · intro w hSw
          obtain ⟨⟨h1, h2⟩, h3, h4⟩ := hSw
          go_simp
          (try with_reducible rfl)
        simp only [Act.put, List.setIfInBounds_toArray, List.set_cons_zero, List.set_cons_succ]
        refine wpAnyH_take (i := 2) (oi := { dst := some 30, op := _, type := _, pos := _, after := _, guard := _ }) (v := .int .i64 (i : Int)) rfl (by kernel_rfl) (by kernel_rfl) (by kernel_rfl) (fun _ _ _ h => h) (Or.inl ⟨by rfl, ?_⟩) (by assumption) ?_
        · intro w hSw
          obtain ⟨⟨h1, h2⟩, h3, h4⟩ := hSw
          go_simp
          (try with_reducible rfl)
        simp only [Act.put, List.setIfInBounds_toArray, List.set_cons_zero, List.set_cons_succ]
        refine wpAnyH_take (i := 3) (oi := { dst := some 31, op := _, type := _, pos := _, after := _, guard := _ }) (v := .pointer (some ⟨b2, off2 + i, none⟩)) rfl (by kernel_rfl) (by kernel_rfl) (by kernel_rfl) (fun _ _ _ h => h) (Or.inl ⟨by rfl, ?_⟩) (by assumption) ?_
        · intro w hSw
          obtain ⟨⟨h1, h2⟩, h3, h4⟩ := hSw
          go_simp
          (try with_reducible rfl)
        simp only [Act.put, List.setIfInBounds_toArray, List.set_cons_zero, List.set_cons_succ]
        refine wpAnyH_take (i := 4) (oi := { dst := some 32, op := _, type := _, pos := _, after := _, guard := _ }) (v := .slice Ax s.length cx) rfl (by kernel_rfl) (by kernel_rfl) (by kernel_rfl) (fun _ _ _ h => h) (Or.inl ⟨by rfl, ?_⟩) (by assumption) ?_
        · intro w hSw
          obtain ⟨⟨h1, h2⟩, h3, h4⟩ := hSw
          go_simp
          (try with_reducible rfl)
        simp only [Act.put, List.setIfInBounds_toArray, List.set_cons_zero, List.set_cons_succ]
        refine wpAnyH_take (i := 6) (oi := { dst := some 34, op := _, type := _, pos := _, after := _, guard := _ }) (v := .int .i64 x) rfl (by kernel_rfl) (by kernel_rfl) (by kernel_rfl) (fun _ _ _ h => h) (Or.inl ⟨by rfl, ?_⟩) (by assumption) ?_
        · intro w hSw
          obtain ⟨⟨h1, h2⟩, h3, h4⟩ := hSw
          go_simp
          (try with_reducible rfl)
        simp only [Act.put, List.setIfInBounds_toArray, List.set_cons_zero, List.set_cons_succ]
        refine wpAnyH_ready (rs := [5]) (by kernel_rfl) (by simp) ?_
        refine AllReadyH.cons (o := { dst := some 33, op := _, type := _, pos := _, after := _, guard := _ }) rfl (fun K hK => ?_) AllReadyH.nil
        go_simp
        refine (HPC.out _ HX).mono ?_
        rintro e wz ⟨va, rfl, oa, bz⟩
        have HA := Lib.hid ((IntsIn.rd oa).more (Nat.zero_le _) (Nat.le_refl _))
        obtain ⟨Aa, ca, rfl, _, _⟩ := (IntsIn.rd oa)
        replace HX := HX.trans (bz.mono HX.size)
        clear bz oa f0 f1 f2 f3 hHeld
        refine hK.out _ _ (BF.out _ HX) (fun hHeld => ?_)
        clear hK K
        refine wpAnyH_ready (rs := [7]) (by kernel_rfl) (by simp) ?_
        refine AllReadyH.cons (o := { dst := some 35, op := _, type := _, pos := _, after := _, guard := _ }) rfl (fun K hK => ?_) AllReadyH.nil
        go_simp
        refine (HHI.out _ _ HA.out).mono ?_
        rintro e wz2 ⟨rfl, rfl⟩
        clear hHeld
        refine hK.out _ _ (BF.out _ HX) (fun hHeld => ?_)
        clear hK K
        refine wpAnyH_take (i := 8) (oi := { dst := some 36, op := _, type := _, pos := _, after := _, guard := _ }) (v := .bool true) rfl (by kernel_rfl) (by kernel_rfl) (by kernel_rfl) (fun _ _ _ h => h) (Or.inl ⟨by rfl, ?_⟩) (by assumption) ?_
        · intro w hSw
          obtain ⟨⟨h1, h2⟩, h3, h4⟩ := hSw
          go_simp
          (try with_reducible rfl)
        simp only [Act.put, List.setIfInBounds_toArray, List.set_cons_zero, List.set_cons_succ]
        refine wpAnyH_take (i := 9) (oi := { dst := some 37, op := _, type := _, pos := _, after := _, guard := _ }) (v := .bool true) rfl (by kernel_rfl) (by kernel_rfl) (by kernel_rfl) (fun _ _ _ h => h) (Or.inl ⟨by rfl, ?_⟩) (by assumption) ?_
        · intro w hSw
          obtain ⟨⟨h1, h2⟩, h3, h4⟩ := hSw
          go_simp
          (try with_reducible rfl)
        simp only [Act.put, List.setIfInBounds_toArray, List.set_cons_zero, List.set_cons_succ]
        refine wpAnyH_take (i := 10) (oi := { dst := some 38, op := _, type := _, pos := _, after := _, guard := _ }) (v := undef) rfl (by kernel_rfl) (by kernel_rfl) (by kernel_rfl) (fun _ _ _ h => h) (Or.inr ⟨by rfl, rfl⟩) (by assumption) ?_
        simp only [Act.put, List.setIfInBounds_toArray, List.set_cons_zero, List.set_cons_succ]
        refine wpAnyH_take (i := 11) (oi := { dst := some 39, op := _, type := _, pos := _, after := _, guard := _ }) (v := undef) rfl (by kernel_rfl) (by kernel_rfl) (by kernel_rfl) (fun _ _ _ h => h) (Or.inr ⟨by rfl, rfl⟩) (by assumption) ?_
        simp only [Act.put, List.setIfInBounds_toArray, List.set_cons_zero, List.set_cons_succ]
        refine wpAnyH_take (i := 12) (oi := { dst := some 40, op := _, type := _, pos := _, after := _, guard := _ }) (v := undef) rfl (by kernel_rfl) (by kernel_rfl) (by kernel_rfl) (fun _ _ _ h => h) (Or.inr ⟨by rfl, rfl⟩) (by assumption) ?_
        simp only [Act.put, List.setIfInBounds_toArray, List.set_cons_zero, List.set_cons_succ]
        refine wpAnyH_take (i := 13) (oi := { dst := some 41, op := _, type := _, pos := _, after := _, guard := _ }) (v := undef) rfl (by kernel_rfl) (by kernel_rfl) (by kernel_rfl) (fun _ _ _ h => h) (Or.inr ⟨by rfl, rfl⟩) (by assumption) ?_
        simp only [Act.put, List.setIfInBounds_toArray, List.set_cons_zero, List.set_cons_succ]
        refine wpAnyH_take (i := 14) (oi := { dst := some 42, op := _, type := _, pos := _, after := _, guard := _ }) (v := .bool true) rfl (by kernel_rfl) (by kernel_rfl) (by kernel_rfl) (fun _ _ _ h => h) (Or.inl ⟨by rfl, ?_⟩) (by assumption) ?_
        · intro w hSw
          obtain ⟨⟨h1, h2⟩, h3, h4⟩ := hSw
          go_simp
          (try with_reducible rfl)
        simp only [Act.put, List.setIfInBounds_toArray, List.set_cons_zero, List.set_cons_succ]
        refine wpAnyH_done (by kernel_rfl) ?_ _
        go_wp2_with fail
        go_meet
        exact ⟨rfl, HX⟩
      · obtain ⟨hx0, hx36⟩ := HMK.out rfl
        obtain ⟨m, rfl⟩ := Int.eq_ofNat_of_zero_le hx0
        have hm36 : m < 68719476736 := by omega
        have hand := i64_and_nat u m (by omega) (by omega)
        have hce : CC = !(u &&& m == 0) := by rw [HCC.out, Int.toNat_natCast]; rfl
        obtain ⟨a, ha⟩ : ∃ a, a = u &&& m := ⟨_, rfl⟩
        rw [← ha] at hand hce
        clear HCC HAT HC HMK ha hx0 hx36
        by_cases hz : a = 0
        · subst hz
          have hz1 : (((0 : Nat) : Int) != 0) = false := rfl
          obtain rfl : CC = false := hce
          have HX : Below wr.heap.size wr wr.drew := below_drew (Below.refl _ _)
          have f0 := (BF.out _ HX).1.1
          have f1 := (BF.out _ HX).1.2
          have f2 := (BF.out _ HX).2.1
          have f3 := (BF.out _ HX).2.2
          go_region_held3 (fun w' => (w'.cell? ⟨g, 0, none⟩ = some (.int .i64 r.w) ∧ w'.cell? ⟨g, 1, none⟩ = some (.slice A0 r.rows.length c)) ∧ (w'.cell? ⟨b2, off2 + i, none⟩ = some (.slice Ax s.length cx) ∧ w'.cell? ⟨b3, off3 + i, none⟩ = some (.int .i64 (m : Int))))
            (first | ((try dsimp only); refine ⟨⟨?_, ?_⟩, ⟨?_, ?_⟩⟩ <;> assumption) | go_keep)
            (first
            | (go_at_call 113; (with_reducible refine (HPC.out _ HX).mono ?_); rintro e wz ⟨va, rfl, oa, bz⟩; have HA := Lib.hid ((IntsIn.rd oa).more (Nat.zero_le _) (Nat.le_refl _)); obtain ⟨Aa, ca, rfl, _, _⟩ := (IntsIn.rd oa); replace HX := HX.trans (bz.mono HX.size); clear bz oa; have f0 := (BF.out _ HX).1.1; have f1 := (BF.out _ HX).1.2; have f2 := (BF.out _ HX).2.1; have f3 := (BF.out _ HX).2.2)
            | (go_at_call 112; (with_reducible refine (HHI.out _ _ HA.out).mono ?_); rintro e wz ⟨rfl, rfl⟩))
          all_goals
            go_wp2_with fail
            go_meet
            exact ⟨rfl, HX⟩
        · have hz1 : ((a : Int) != 0) = true := by simp; omega
          obtain rfl : CC = true := by rw [hce]; simpa using hz
          clear hce hz
          have HX : Below wr.heap.size wr wr.drew := below_drew (Below.refl _ _)
          have f0 := (BF.out _ HX).1.1
          have f1 := (BF.out _ HX).1.2
          have f2 := (BF.out _ HX).2.1
          have f3 := (BF.out _ HX).2.2
          go_region_held3 (fun w' => (w'.cell? ⟨g, 0, none⟩ = some (.int .i64 r.w) ∧ w'.cell? ⟨g, 1, none⟩ = some (.slice A0 r.rows.length c)) ∧ (w'.cell? ⟨b2, off2 + i, none⟩ = some (.slice Ax s.length cx) ∧ w'.cell? ⟨b3, off3 + i, none⟩ = some (.int .i64 (m : Int))))
            (first | ((try dsimp only); refine ⟨⟨?_, ?_⟩, ⟨?_, ?_⟩⟩ <;> assumption) | go_keep)
            (first
            | (go_at_call 113; (with_reducible refine (HPC.out _ HX).mono ?_); rintro e wz ⟨va, rfl, oa, bz⟩; have HA := Lib.hid ((IntsIn.rd oa).more (Nat.zero_le _) (Nat.le_refl _)); obtain ⟨Aa, ca, rfl, _, _⟩ := (IntsIn.rd oa); replace HX := HX.trans (bz.mono HX.size); clear bz oa; have f0 := (BF.out _ HX).1.1; have f1 := (BF.out _ HX).1.2; have f2 := (BF.out _ HX).2.1; have f3 := (BF.out _ HX).2.2)
            | (go_at_call 112; (with_reducible refine (HHI.out _ _ HA.out).mono ?_); rintro e wz ⟨rfl, rfl⟩))
          all_goals
            go_wp2_with fail
            go_meet
            exact ⟨rfl, HX⟩
    case rest =>
    obtain ⟨rfl, hbw⟩ := hcut
    generalize hwc : wc = w4 at *
    clear hwc
    have HSP4 := HSP.step hbw
    have z0 := (BF.out _ hbw).2.2
    have hb34 : b3 < w4.heap.size := Nat.lt_of_lt_of_le HB3.out hbw.size
    clear HPC HHI BF hbw HSP HO
    cases CC
    · obtain rfl : HH = true := by
        have := HCC.out
        cases HH
        · cases this
        · rfl
      obtain ⟨hx0, hx36⟩ := HMK.out rfl
      obtain ⟨m, rfl⟩ := Int.eq_ofNat_of_zero_le hx0
      have hm36 : m < 68719476736 := by omega
      have hor := i64_or_nat u m (by omega) (by omega)
      obtain ⟨u2, hu2⟩ : ∃ u2, u2 = u ||| m := ⟨_, rfl⟩
      rw [← hu2] at hor
      have hu236 : u2 < 68719476736 := by rw [hu2]; exact Nat.or_lt_two_pow (n := 36) hu36 hm36
      have HC2 : Hid (T = solF r u2 (ps.drop (i + 1)) (t.drop (i + 1))) := Lib.hid (by
        have h1 := HCC.out
        rw [Int.toNat_natCast] at h1
        have h2 : (u &&& m == 0) = true := by
          cases hb : (u &&& m == 0)
          · rw [hb] at h1; cases h1
          · rfl
        rw [HC.out, HAT.out, Int.toNat_natCast, h2, hu2]
        rfl)
      clear HCC HMK HAT HC hu2 hx0 hx36
      go_wp2
      go_roundw
      case rel => exact ⟨i + 1, u2, by omega, by go_num, rfl, hu236, HC2, HSP4⟩
      case measure => simp [intOf]; omega
    · obtain rfl : T = false := by
        rw [HC.out, HAT.out]
        have h1 := HCC.out
        cases HH
        · rfl
        · cases hb : (u &&& x.toNat == 0)
          · rfl
          · rw [hb] at h1; cases h1
      clear HCC HMK HAT HC
      go_wp2
      go_ret
      exact ⟨rfl, HSP4.below⟩
set_option maxRecDepth 100000 in
set_option maxHeartbeats 6400000 in
theorem spec_sol_c {v v2 v3 : Value} {r : Reg} {ps : List (List Cell)} {t : List Int} (w : World) (h : RegRd w 0 w.heap.size v r) (h2 : CellSSRd w 0 w.heap.size v2 ps) (h3 : IntsRd w 0 w.heap.size v3 t) (hn : ps.length ≤ 1048576) (hl : ∀ s ∈ ps, s.length ≤ 1048576) :
    Calls Tryz.prog 75 #[v, v2, v3] w fun e w' => e = .returned (.bool (solB r ps t)) ∧ Below w.heap.size w w' := by
  have HAPC0 : Hid (∀ w1, Below w.heap.size w w1 → Calls Tryz.prog 106 #[v2] w1 fun e w' => e = .returned (.bool (arePcs ps)) ∧ Below w1.heap.size w1 w') := Lib.hid fun w1 b1 => spec_arePcs_c w1 ((h2.keep (SameIn.of_below b1 (Nat.le_refl _))).more (Nat.le_refl _) b1.size) hn hl
  have HRD : Hid (∀ w1, Below w.heap.size w w1 → RegRd w1 0 w1.heap.size v r) := Lib.hid fun w1 b1 => (h.keep (SameIn.of_below b1 (Nat.le_refl _))).more (Nat.le_refl _) b1.size
  have HR3 : Hid (∀ w1, Below w.heap.size w w1 → IntsRd w1 0 w1.heap.size v3 t) := Lib.hid fun w1 b1 => (h3.keep (SameIn.of_below b1 (Nat.le_refl _))).more (Nat.le_refl _) b1.size
  have HRP : Hid (∀ w1, Below w.heap.size w w1 → CellSSRd w1 0 w1.heap.size v2 ps) := Lib.hid fun w1 b1 => (h2.keep (SameIn.of_below b1 (Nat.le_refl _))).more (Nat.le_refl _) b1.size
  obtain ⟨T, hT⟩ : ∃ T, T = solB r ps t := ⟨_, rfl⟩
  rw [← hT]
  have HT := Lib.hid hT
  obtain ⟨sr, rfl, hsr⟩ := h
  obtain ⟨A0, c, rfl, _, _⟩ := hsr
  obtain ⟨vs, ⟨A2, c2, rfl, hm2, hr2⟩, hsl⟩ := h2
  have HR2 := Lib.hid hr2
  have HSL := Lib.hid hsl
  obtain ⟨A3, c3, rfl, hm3, _⟩ := id h3
  have H0 := (Sep.start w).box 29 #[.int .i64 r.w, .slice A0 r.rows.length c]
  obtain ⟨g, hg⟩ : ∃ g, g = w.heap.size := ⟨_, rfl⟩
  rw [← hg] at H0
  obtain ⟨n, hnn⟩ : ∃ n, n = t.length := ⟨_, rfl⟩
  obtain ⟨np, hnp⟩ : ∃ n, n = ps.length := ⟨_, rfl⟩
  have hn63 : n ≤ 9223372036854775807 := by unfold maxLen at hm3; omega
  have hnp63 : np ≤ 1048576 := by omega
  rw [← hnn] at HR3 ⊢
  rw [← hnp] at HR2 HRP ⊢
  have HN := Lib.hid hnn
  have HNP := Lib.hid hnp
  clear hT h3 hm3 hnn hr2 hsl hm2 hnp
  have HAPC : Hid (∀ w1, Below w.heap.size w w1 → Calls Tryz.prog 106 #[.slice A2 np c2] w1 fun e w' => e = .returned (.bool (arePcs ps)) ∧ Below w1.heap.size w1 w') := Lib.hid (by rw [HNP.out]; exact HAPC0.out)
  obtain ⟨K1, hK1⟩ : ∃ K, K = r.valid := ⟨_, rfl⟩
  obtain ⟨K2, hK2⟩ : ∃ K, K = arePcs ps := ⟨_, rfl⟩
  rw [← hK2] at HAPC
  have HK1 := Lib.hid hK1
  have HK2 := Lib.hid hK2
  clear hK1 hK2 HAPC0
  go_enter Tryz.func75, Tryz.ntmps75
  go_upto_region 1 with fail
  rw [← hg]
  generalize (w.alloc (.cells #[.int .i64 r.w, .slice A0 r.rows.length c] 29)) = W at *
  clear hg
  have c0 : W.cell? ⟨g, 0, none⟩ = some (.int .i64 r.w) := H0.h0.cell 0
  have c1 : W.cell? ⟨g, 1, none⟩ = some (.slice A0 r.rows.length c) := H0.h0.cell 1
  have HP := Lib.hid (spec_IsRegion_c W (HRD.out W H0.below))
  rw [← HK1.out] at HP
  go_wp2_with fail
  refine (HP.out).mono ?_
  rintro e w2 ⟨rfl, b1⟩
  have H2 := H0.step b1
  clear c0 c1 H0 HP b1
  cases K1
  · obtain rfl : T = false := by rw [HT.out, solB, ← HK1.out]; rfl
    go_wp2
    go_ret
    exact ⟨rfl, H2.below⟩
  have HP2 := Lib.hid (HAPC.out w2 H2.below)
  go_wp2_with fail
  refine (HP2.out).mono ?_
  rintro e w1 ⟨rfl, b2⟩
  have H1 := H2.step b2
  clear HP2 b2 HAPC H2
  cases K2
  · obtain rfl : T = false := by rw [HT.out, solB, ← HK2.out, Bool.and_false]; rfl
    go_wp2
    go_ret
    exact ⟨rfl, H1.below⟩
  have HV := Lib.hid (Reg.valid_iff.1 HK1.out.symm)
  have HPS := Lib.hid (arePcs_on HK2.out.symm).1
  have HKK : Hid (true = (r.valid && arePcs ps)) := Lib.hid (by rw [← HK1.out, ← HK2.out]; rfl)
  by_cases hne : n = np
  rotate_left
  · have hb : ((n : Int) != (np : Int)) = true := by simp; omega
    obtain rfl : T = false := by rw [HT.out, solB, ← HKK.out, decide_eq_false (by rw [← HN.out, ← HNP.out]; exact hne)]; rfl
    clear hne
    go_wp2
    go_ret
    exact ⟨rfl, H1.below⟩
  have hb : ((n : Int) != (np : Int)) = false := by simp; omega
  have HEQ := Lib.hid hne
  obtain ⟨M, hM⟩ : ∃ M, M = r.mask := ⟨_, rfl⟩
  have HMM := Lib.hid hM
  have HC0 : Hid (T = solF r 0 (ps.drop 0) (t.drop 0)) := Lib.hid (by rw [HT.out, solB, ← HKK.out, decide_eq_true (by rw [← HN.out, ← HNP.out]; exact hne)]; rfl)
  clear hM hne
  go_wp2
  go_loopw [7, 8] (fun uv iv wx => ∃ i u : Nat, i ≤ n ∧ iv = .int .i64 i ∧ uv = .int .i64 u ∧ u < 68719476736 ∧ Hid (T = solF r u (ps.drop i) (t.drop i)) ∧ Sep w wx [Res.box g 29 #[.int .i64 r.w, .slice A0 r.rows.length c]]) (fun _ iv _ => n - (intOf iv).toNat)
  case atStart => exact ⟨0, 0, Nat.zero_le _, rfl, rfl, by decide, HC0, H1⟩
  case round =>
    clear H1
    obtain ⟨i, u, hin, rfl, rfl, hu36, HC, HSP⟩ := hrel
    have HO : Hid (Below w.heap.size w wr) := Lib.hid HSP.below
    by_cases hlt : i < n
    rotate_left
    · obtain rfl : n = i := by omega
      have HC2 : Hid (T = (u == M)) := Lib.hid (by rw [HC.out, HMM.out]; exact sol_end (by rw [← HNP.out]; exact HEQ.out))
      have hbe : ((u : Int) == (M : Int)) = (u == M) := by rw [Bool.eq_iff_iff]; simp only [beq_iff_eq]; omega
      obtain ⟨Z, hZ⟩ : ∃ Z, Z = (u == M) := ⟨_, rfl⟩
      rw [← hZ] at hbe
      obtain rfl : T = Z := HC2.out.trans hZ.symm
      have c0 : wr.cell? ⟨g, 0, none⟩ = some (.int .i64 r.w) := HSP.h0.cell 0
      have c1 : wr.cell? ⟨g, 1, none⟩ = some (.slice A0 r.rows.length c) := HSP.h0.cell 1
      have HMK := Lib.hid (spec_mask_c wr (HRD.out wr HO.out) HV.out)
      rw [← HMM.out] at HMK
      clear hZ HC2 HC
      go_wp2_with fail
      refine (HMK.out).mono ?_
      rintro e w6 ⟨rfl, b6⟩
      have HO6 : Hid (Below w.heap.size w w6) := Lib.hid (HO.out.trans (b6.mono HO.out.size))
      clear HSP
      clear b6 c0 c1
      go_wp2
      go_ret
      exact ⟨rfl, HO6.out⟩
    have hlti : (i : Int) < (n : Int) := by omega
    have hltp : i < np := by have := HEQ.out; omega
    have hltpi : (i : Int) < (np : Int) := by omega
    obtain ⟨x, hx⟩ : ∃ x, t[i]? = some x := ⟨t[i]'(by rw [← HN.out]; exact hlt), List.getElem?_eq_getElem _⟩
    obtain ⟨b3, off3, hA3, hb3, y0⟩ := ints_atZ (HR3.out wr HO.out) hx
    subst hA3
    obtain ⟨b2, off2, s, sv, rfl, hb1, hb2, hla, x1, xr⟩ := HR2.out.slot HSL.out HNP.out hltp
    have y1 := (HO.out.cell (p := ⟨b2, off2 + i, none⟩) hb2).trans x1
    have HSH := Lib.hid (HPS.out s (List.mem_of_getElem? hla))
    have HXR : Hid (∀ w', Below wr.heap.size wr w' → CellsRd w' 0 w'.heap.size sv s) := Lib.hid fun w' b => by
      have hb := HO.out.trans (b.mono HO.out.size)
      exact (xr.keep (SameIn.of_below hb (Nat.le_refl _))).more (Nat.le_refl _) hb.size
    obtain ⟨Ax, cx, rfl, _, _⟩ := xr
    have HPC : Hid (∀ w', Below wr.heap.size wr w' → Calls Tryz.prog 136 #[.agg #[.int .i64 r.w, .slice A0 r.rows.length c], .slice Ax s.length cx] w' fun e w'' => ∃ v', e = .returned v' ∧ IntsIn w'' w'.heap.size w''.heap.size v' (plc r s) ∧ Below w'.heap.size w' w'') := Lib.hid fun w' b =>
      spec_plc_c w' (HRD.out w' (HO.out.trans (b.mono HO.out.size))) (HXR.out w' b) HV.out HSH.out
    have HHI : Hid (∀ w' v', IntsRd w' 0 w'.heap.size v' (plc r s) → Calls Tryz.prog 129 #[v', .int .i64 x] w' fun e w'' => e = .returned (.bool (hasI (plc r s) x)) ∧ w' = w'') := Lib.hid fun w' v' hv' => spec_hasI_c w' hv' (by have := plc_len HV.out (s := s); omega)
    have HAT := Lib.hid (sol_at (r := r) (u := u) hla hx)
    have HMK : Hid (hasI (plc r s) x = true → Mk36 x) := Lib.hid fun hh => plc_mk HV.out (of_decide_eq_true hh)
    have HB3 := Lib.hid hb3
    have BF : Hid (∀ w', Below wr.heap.size wr w' → (w'.cell? ⟨g, 0, none⟩ = some (.int .i64 r.w) ∧ w'.cell? ⟨g, 1, none⟩ = some (.slice A0 r.rows.length c)) ∧ (w'.cell? ⟨b2, off2 + i, none⟩ = some (.slice Ax s.length cx) ∧ w'.cell? ⟨b3, off3 + i, none⟩ = some (.int .i64 x))) := Lib.hid fun w' b => ⟨⟨(HSP.step b).h0.cell 0, (HSP.step b).h0.cell 1⟩, ⟨(b.cell (p := ⟨b2, off2 + i, none⟩) (Nat.lt_of_lt_of_le hb2 HO.out.size)).trans y1, (b.cell (p := ⟨b3, off3 + i, none⟩) hb3).trans y0⟩⟩
    obtain ⟨PL, hPL⟩ : ∃ P, P = plc r s := ⟨_, rfl⟩
    rw [← hPL] at HPC HHI HAT HMK
    obtain ⟨HH, hHH⟩ : ∃ H, H = hasI PL x := ⟨_, rfl⟩
    rw [← hHH] at HHI HAT HMK
    clear hHH hPL hx hla x1 y1 hb1 hb2 hb3
    obtain ⟨CC, hCC⟩ : ∃ C, C = (!HH || !(u &&& x.toNat == 0)) := ⟨_, rfl⟩
    have HCC := Lib.hid hCC
    clear hCC
    go_upto_region 7 with fail
    go_cut [50] (fun q wx => q = .bool CC ∧ Below wr.heap.size wr wx)
    case first =>
      cases HH
      · obtain rfl : CC = true := HCC.out
        clear HCC HAT HC HMK
        have HX : Below wr.heap.size wr wr.drew := below_drew (Below.refl _ _)
        have f0 := (BF.out _ HX).1.1
        have f1 := (BF.out _ HX).1.2
        have f2 := (BF.out _ HX).2.1
        have f3 := (BF.out _ HX).2.2
        refine wp_region_held_drew (S := fun w' => (w'.cell? ⟨g, 0, none⟩ = some (.int .i64 r.w) ∧ w'.cell? ⟨g, 1, none⟩ = some (.slice A0 r.rows.length c)) ∧ (w'.cell? ⟨b2, off2 + i, none⟩ = some (.slice Ax s.length cx) ∧ w'.cell? ⟨b3, off3 + i, none⟩ = some (.int .i64 x))) (by kernel_rfl) ⟨⟨f0, f1⟩, ⟨f2, f3⟩⟩ (fun hHeld => ?_)
        refine wpAnyH_take (i := 0) (oi := { dst := some 30, op := _, type := _, pos := _, after := _, guard := _ }) (v := .agg #[.int .i64 r.w, .slice A0 r.rows.length c]) rfl (by kernel_rfl) (by kernel_rfl) (by kernel_rfl) (fun _ _ _ h => h) (Or.inl ⟨by rfl, ?_⟩) (by assumption) ?_
        · intro w hSw
          obtain ⟨⟨h1, h2⟩, h3, h4⟩ := hSw
          go_simp
          (try with_reducible rfl)
        simp only [Act.put, List.setIfInBounds_toArray, List.set_cons_zero, List.set_cons_succ]
        refine wpAnyH_take (i := 1) (oi := { dst := some 31, op := _, type := _, pos := _, after := _, guard := _ }) (v := .slice (some ⟨b2, off2, none⟩) np c2) rfl (by kernel_rfl) (by kernel_rfl) (by kernel_rfl) (fun _ _ _ h => h) (Or.inl ⟨by rfl, ?_⟩) (by assumption) ?_
        · intro w hSw
          obtain ⟨⟨h1, h2⟩, h3, h4⟩ := hSw
          go_simp
          (try with_reducible rfl)
        simp only [Act.put, List.setIfInBounds_toArray, List.set_cons_zero, List.set_cons_succ]
        refine wpAnyH_take (i := 2) (oi := { dst := some 32, op := _, type := _, pos := _, after := _, guard := _ }) (v := .int .i64 (i : Int)) rfl (by kernel_rfl) (by kernel_rfl) (by kernel_rfl) (fun _ _ _ h => h) (Or.inl ⟨by rfl, ?_⟩) (by assumption) ?_
        · intro w hSw
          obtain ⟨⟨h1, h2⟩, h3, h4⟩ := hSw
          go_simp
          (try with_reducible rfl)
        simp only [Act.put, List.setIfInBounds_toArray, List.set_cons_zero, List.set_cons_succ]
        refine wpAnyH_take (i := 3) (oi := { dst := some 33, op := _, type := _, pos := _, after := _, guard := _ }) (v := .pointer (some ⟨b2, off2 + i, none⟩)) rfl (by kernel_rfl) (by kernel_rfl) (by kernel_rfl) (fun _ _ _ h => h) (Or.inl ⟨by rfl, ?_⟩) (by assumption) ?_
        · intro w hSw
          obtain ⟨⟨h1, h2⟩, h3, h4⟩ := hSw
          go_simp
          (try with_reducible rfl)
        simp only [Act.put, List.setIfInBounds_toArray, List.set_cons_zero, List.set_cons_succ]
        refine wpAnyH_take (i := 4) (oi := { dst := some 34, op := _, type := _, pos := _, after := _, guard := _ }) (v := .slice Ax s.length cx) rfl (by kernel_rfl) (by kernel_rfl) (by kernel_rfl) (fun _ _ _ h => h) (Or.inl ⟨by rfl, ?_⟩) (by assumption) ?_
        · intro w hSw
          obtain ⟨⟨h1, h2⟩, h3, h4⟩ := hSw
          go_simp
          (try with_reducible rfl)
        simp only [Act.put, List.setIfInBounds_toArray, List.set_cons_zero, List.set_cons_succ]
        refine wpAnyH_take (i := 6) (oi := { dst := some 36, op := _, type := _, pos := _, after := _, guard := _ }) (v := .slice (some ⟨b3, off3, none⟩) n c3) rfl (by kernel_rfl) (by kernel_rfl) (by kernel_rfl) (fun _ _ _ h => h) (Or.inl ⟨by rfl, ?_⟩) (by assumption) ?_
        · intro w hSw
          obtain ⟨⟨h1, h2⟩, h3, h4⟩ := hSw
          go_simp
          (try with_reducible rfl)
        simp only [Act.put, List.setIfInBounds_toArray, List.set_cons_zero, List.set_cons_succ]
        refine wpAnyH_take (i := 7) (oi := { dst := some 37, op := _, type := _, pos := _, after := _, guard := _ }) (v := .int .i64 (i : Int)) rfl (by kernel_rfl) (by kernel_rfl) (by kernel_rfl) (fun _ _ _ h => h) (Or.inl ⟨by rfl, ?_⟩) (by assumption) ?_
        · intro w hSw
          obtain ⟨⟨h1, h2⟩, h3, h4⟩ := hSw
          go_simp
          (try with_reducible rfl)
        simp only [Act.put, List.setIfInBounds_toArray, List.set_cons_zero, List.set_cons_succ]
        refine wpAnyH_take (i := 8) (oi := { dst := some 38, op := _, type := _, pos := _, after := _, guard := _ }) (v := .pointer (some ⟨b3, off3 + i, none⟩)) rfl (by kernel_rfl) (by kernel_rfl) (by kernel_rfl) (fun _ _ _ h => h) (Or.inl ⟨by rfl, ?_⟩) (by assumption) ?_
        · intro w hSw
          obtain ⟨⟨h1, h2⟩, h3, h4⟩ := hSw
          go_simp
          (try with_reducible rfl)
        simp only [Act.put, List.setIfInBounds_toArray, List.set_cons_zero, List.set_cons_succ]
        refine wpAnyH_take (i := 9) (oi := { dst := some 39, op := _, type := _, pos := _, after := _, guard := _ }) (v := .int .i64 x) rfl (by kernel_rfl) (by kernel_rfl) (by kernel_rfl) (fun _ _ _ h => h) (Or.inl ⟨by rfl, ?_⟩) (by assumption) ?_
        · intro w hSw
          obtain ⟨⟨h1, h2⟩, h3, h4⟩ := hSw
          go_simp
          (try with_reducible rfl)
        simp only [Act.put, List.setIfInBounds_toArray, List.set_cons_zero, List.set_cons_succ]
        refine wpAnyH_ready (rs := [5]) (by kernel_rfl) (by simp) ?_
        refine AllReadyH.cons (o := { dst := some 35, op := _, type := _, pos := _, after := _, guard := _ }) rfl (fun K hK => ?_) AllReadyH.nil
        go_simp
        refine (HPC.out _ HX).mono ?_
        rintro e wz ⟨va, rfl, oa, bz⟩
        have HA := Lib.hid ((IntsIn.rd oa).more (Nat.zero_le _) (Nat.le_refl _))
        obtain ⟨Aa, ca, rfl, _, _⟩ := (IntsIn.rd oa)
        replace HX := HX.trans (bz.mono HX.size)
        clear bz oa f0 f1 f2 f3 hHeld
        refine hK.out _ _ (BF.out _ HX) (fun hHeld => ?_)
        clear hK K
        refine wpAnyH_ready (rs := [10]) (by kernel_rfl) (by simp) ?_
        refine AllReadyH.cons (o := { dst := some 40, op := _, type := _, pos := _, after := _, guard := _ }) rfl (fun K hK => ?_) AllReadyH.nil
        go_simp
        refine (HHI.out _ _ HA.out).mono ?_
        rintro e wz2 ⟨rfl, rfl⟩
        clear hHeld
        refine hK.out _ _ (BF.out _ HX) (fun hHeld => ?_)
        clear hK K
        refine wpAnyH_take (i := 11) (oi := { dst := some 41, op := _, type := _, pos := _, after := _, guard := _ }) (v := .bool true) rfl (by kernel_rfl) (by kernel_rfl) (by kernel_rfl) (fun _ _ _ h => h) (Or.inl ⟨by rfl, ?_⟩) (by assumption) ?_
        · intro w hSw
          obtain ⟨⟨h1, h2⟩, h3, h4⟩ := hSw
          go_simp
          (try with_reducible rfl)
        simp only [Act.put, List.setIfInBounds_toArray, List.set_cons_zero, List.set_cons_succ]
        refine wpAnyH_take (i := 12) (oi := { dst := some 42, op := _, type := _, pos := _, after := _, guard := _ }) (v := .bool true) rfl (by kernel_rfl) (by kernel_rfl) (by kernel_rfl) (fun _ _ _ h => h) (Or.inl ⟨by rfl, ?_⟩) (by assumption) ?_
        · intro w hSw
          obtain ⟨⟨h1, h2⟩, h3, h4⟩ := hSw
          go_simp
          (try with_reducible rfl)
        simp only [Act.put, List.setIfInBounds_toArray, List.set_cons_zero, List.set_cons_succ]
        refine wpAnyH_take (i := 13) (oi := { dst := some 43, op := _, type := _, pos := _, after := _, guard := _ }) (v := undef) rfl (by kernel_rfl) (by kernel_rfl) (by kernel_rfl) (fun _ _ _ h => h) (Or.inr ⟨by rfl, rfl⟩) (by assumption) ?_
        simp only [Act.put, List.setIfInBounds_toArray, List.set_cons_zero, List.set_cons_succ]
        refine wpAnyH_take (i := 14) (oi := { dst := some 44, op := _, type := _, pos := _, after := _, guard := _ }) (v := undef) rfl (by kernel_rfl) (by kernel_rfl) (by kernel_rfl) (fun _ _ _ h => h) (Or.inr ⟨by rfl, rfl⟩) (by assumption) ?_
        simp only [Act.put, List.setIfInBounds_toArray, List.set_cons_zero, List.set_cons_succ]
        refine wpAnyH_take (i := 15) (oi := { dst := some 45, op := _, type := _, pos := _, after := _, guard := _ }) (v := undef) rfl (by kernel_rfl) (by kernel_rfl) (by kernel_rfl) (fun _ _ _ h => h) (Or.inr ⟨by rfl, rfl⟩) (by assumption) ?_
        simp only [Act.put, List.setIfInBounds_toArray, List.set_cons_zero, List.set_cons_succ]
        refine wpAnyH_take (i := 16) (oi := { dst := some 46, op := _, type := _, pos := _, after := _, guard := _ }) (v := undef) rfl (by kernel_rfl) (by kernel_rfl) (by kernel_rfl) (fun _ _ _ h => h) (Or.inr ⟨by rfl, rfl⟩) (by assumption) ?_
        simp only [Act.put, List.setIfInBounds_toArray, List.set_cons_zero, List.set_cons_succ]
        refine wpAnyH_take (i := 17) (oi := { dst := some 47, op := _, type := _, pos := _, after := _, guard := _ }) (v := undef) rfl (by kernel_rfl) (by kernel_rfl) (by kernel_rfl) (fun _ _ _ h => h) (Or.inr ⟨by rfl, rfl⟩) (by assumption) ?_
        simp only [Act.put, List.setIfInBounds_toArray, List.set_cons_zero, List.set_cons_succ]
        refine wpAnyH_take (i := 18) (oi := { dst := some 48, op := _, type := _, pos := _, after := _, guard := _ }) (v := undef) rfl (by kernel_rfl) (by kernel_rfl) (by kernel_rfl) (fun _ _ _ h => h) (Or.inr ⟨by rfl, rfl⟩) (by assumption) ?_
        simp only [Act.put, List.setIfInBounds_toArray, List.set_cons_zero, List.set_cons_succ]
        refine wpAnyH_take (i := 19) (oi := { dst := some 49, op := _, type := _, pos := _, after := _, guard := _ }) (v := undef) rfl (by kernel_rfl) (by kernel_rfl) (by kernel_rfl) (fun _ _ _ h => h) (Or.inr ⟨by rfl, rfl⟩) (by assumption) ?_
        simp only [Act.put, List.setIfInBounds_toArray, List.set_cons_zero, List.set_cons_succ]
        refine wpAnyH_take (i := 20) (oi := { dst := some 50, op := _, type := _, pos := _, after := _, guard := _ }) (v := .bool true) rfl (by kernel_rfl) (by kernel_rfl) (by kernel_rfl) (fun _ _ _ h => h) (Or.inl ⟨by rfl, ?_⟩) (by assumption) ?_
        · intro w hSw
          obtain ⟨⟨h1, h2⟩, h3, h4⟩ := hSw
          go_simp
          (try with_reducible rfl)
        simp only [Act.put, List.setIfInBounds_toArray, List.set_cons_zero, List.set_cons_succ]
        refine wpAnyH_done (by kernel_rfl) ?_ _
        go_wp2_with fail
        go_meet
        exact ⟨rfl, HX⟩
      · obtain ⟨hx0, hx36⟩ := HMK.out rfl
        obtain ⟨m, rfl⟩ := Int.eq_ofNat_of_zero_le hx0
        have hm36 : m < 68719476736 := by omega
        have hand := i64_and_nat u m (by omega) (by omega)
        have hce : CC = !(u &&& m == 0) := by rw [HCC.out, Int.toNat_natCast]; rfl
        obtain ⟨a, ha⟩ : ∃ a, a = u &&& m := ⟨_, rfl⟩
        rw [← ha] at hand hce
        clear HCC HAT HC HMK ha hx0 hx36
        by_cases hz : a = 0
        · subst hz
          have hz1 : (((0 : Nat) : Int) != 0) = false := rfl
          obtain rfl : CC = false := hce
          have HX : Below wr.heap.size wr wr.drew := below_drew (Below.refl _ _)
          have f0 := (BF.out _ HX).1.1
          have f1 := (BF.out _ HX).1.2
          have f2 := (BF.out _ HX).2.1
          have f3 := (BF.out _ HX).2.2
          go_region_held3 (fun w' => (w'.cell? ⟨g, 0, none⟩ = some (.int .i64 r.w) ∧ w'.cell? ⟨g, 1, none⟩ = some (.slice A0 r.rows.length c)) ∧ (w'.cell? ⟨b2, off2 + i, none⟩ = some (.slice Ax s.length cx) ∧ w'.cell? ⟨b3, off3 + i, none⟩ = some (.int .i64 (m : Int))))
            (first | ((try dsimp only); refine ⟨⟨?_, ?_⟩, ⟨?_, ?_⟩⟩ <;> assumption) | go_keep)
            (first
            | (go_at_call 136; (with_reducible refine (HPC.out _ HX).mono ?_); rintro e wz ⟨va, rfl, oa, bz⟩; have HA := Lib.hid ((IntsIn.rd oa).more (Nat.zero_le _) (Nat.le_refl _)); obtain ⟨Aa, ca, rfl, _, _⟩ := (IntsIn.rd oa); replace HX := HX.trans (bz.mono HX.size); clear bz oa; have f0 := (BF.out _ HX).1.1; have f1 := (BF.out _ HX).1.2; have f2 := (BF.out _ HX).2.1; have f3 := (BF.out _ HX).2.2)
            | (go_at_call 129; (with_reducible refine (HHI.out _ _ HA.out).mono ?_); rintro e wz ⟨rfl, rfl⟩))
          all_goals
            go_wp2_with fail
            go_meet
            exact ⟨rfl, HX⟩
        · have hz1 : ((a : Int) != 0) = true := by simp; omega
          obtain rfl : CC = true := by rw [hce]; simpa using hz
          clear hce hz
          have HX : Below wr.heap.size wr wr.drew := below_drew (Below.refl _ _)
          have f0 := (BF.out _ HX).1.1
          have f1 := (BF.out _ HX).1.2
          have f2 := (BF.out _ HX).2.1
          have f3 := (BF.out _ HX).2.2
          go_region_held3 (fun w' => (w'.cell? ⟨g, 0, none⟩ = some (.int .i64 r.w) ∧ w'.cell? ⟨g, 1, none⟩ = some (.slice A0 r.rows.length c)) ∧ (w'.cell? ⟨b2, off2 + i, none⟩ = some (.slice Ax s.length cx) ∧ w'.cell? ⟨b3, off3 + i, none⟩ = some (.int .i64 (m : Int))))
            (first | ((try dsimp only); refine ⟨⟨?_, ?_⟩, ⟨?_, ?_⟩⟩ <;> assumption) | go_keep)
            (first
            | (go_at_call 136; (with_reducible refine (HPC.out _ HX).mono ?_); rintro e wz ⟨va, rfl, oa, bz⟩; have HA := Lib.hid ((IntsIn.rd oa).more (Nat.zero_le _) (Nat.le_refl _)); obtain ⟨Aa, ca, rfl, _, _⟩ := (IntsIn.rd oa); replace HX := HX.trans (bz.mono HX.size); clear bz oa; have f0 := (BF.out _ HX).1.1; have f1 := (BF.out _ HX).1.2; have f2 := (BF.out _ HX).2.1; have f3 := (BF.out _ HX).2.2)
            | (go_at_call 129; (with_reducible refine (HHI.out _ _ HA.out).mono ?_); rintro e wz ⟨rfl, rfl⟩))
          all_goals
            go_wp2_with fail
            go_meet
            exact ⟨rfl, HX⟩
    case rest =>
    obtain ⟨rfl, hbw⟩ := hcut
    generalize hwc : wc = w4 at *
    clear hwc
    have HSP4 := HSP.step hbw
    have z0 := (BF.out _ hbw).2.2
    have hb34 : b3 < w4.heap.size := Nat.lt_of_lt_of_le HB3.out hbw.size
    clear HPC HHI BF hbw HSP HO
    cases CC
    · obtain rfl : HH = true := by
        have := HCC.out
        cases HH
        · cases this
        · rfl
      obtain ⟨hx0, hx36⟩ := HMK.out rfl
      obtain ⟨m, rfl⟩ := Int.eq_ofNat_of_zero_le hx0
      have hm36 : m < 68719476736 := by omega
      have hor := i64_or_nat u m (by omega) (by omega)
      obtain ⟨u2, hu2⟩ : ∃ u2, u2 = u ||| m := ⟨_, rfl⟩
      rw [← hu2] at hor
      have hu236 : u2 < 68719476736 := by rw [hu2]; exact Nat.or_lt_two_pow (n := 36) hu36 hm36
      have HC2 : Hid (T = solF r u2 (ps.drop (i + 1)) (t.drop (i + 1))) := Lib.hid (by
        have h1 := HCC.out
        rw [Int.toNat_natCast] at h1
        have h2 : (u &&& m == 0) = true := by
          cases hb : (u &&& m == 0)
          · rw [hb] at h1; cases h1
          · rfl
        rw [HC.out, HAT.out, Int.toNat_natCast, h2, hu2]
        rfl)
      clear HCC HMK HAT HC hu2 hx0 hx36
      go_wp2
      go_roundw
      case rel => exact ⟨i + 1, u2, by omega, by go_num, rfl, hu236, HC2, HSP4⟩
      case measure => simp [intOf]; omega
    · obtain rfl : T = false := by
        rw [HC.out, HAT.out]
        have h1 := HCC.out
        cases HH
        · rfl
        · cases hb : (u &&& x.toNat == 0)
          · rfl
          · rw [hb] at h1; cases h1
      clear HCC HMK HAT HC
      go_wp2
      go_ret
      exact ⟨rfl, HSP4.below⟩
end Go.Proofs.YtppbkiajcpdkiaaGreatDoor

namespace Go.Proofs.YtppbkiajcpdkiaaGreatDoor
open Go.RowKit

def cnsN (r : Reg) (ps : List (List Cell)) : Int := if (r.valid && arePcs ps) = true then ((pzM r ps).length : Int) else -1
set_option maxRecDepth 100000 in
set_option maxHeartbeats 1600000 in
theorem impl_cns_c {v v2 : Value} {r : Reg} {ps : List (List Cell)} (w : World) (h : RegRd w 0 w.heap.size v r) (h2 : CellSSRd w 0 w.heap.size v2 ps) (hn : ps.length ≤ 1048576) (hl : ∀ s ∈ ps, s.length ≤ 1048576) :
    Calls Tryz.prog 87 #[v, v2] w fun e w' => e = .returned (.int .i64 (cnsN r ps)) ∧ Below w.heap.size w w' := by
  have HRD : Hid (∀ w1, Below w.heap.size w w1 → Calls Tryz.prog 149 #[v, v2] w1 (PzsPost (pzM r ps) (r.valid && arePcs ps) w1)) := Lib.hid fun w1 b1 => impl_pzs_c w1 ((h.keep (SameIn.of_below b1 (Nat.le_refl _))).more (Nat.le_refl _) b1.size) ((h2.keep (SameIn.of_below b1 (Nat.le_refl _))).more (Nat.le_refl _) b1.size) hn hl
  obtain ⟨N, hN⟩ : ∃ N, N = cnsN r ps := ⟨_, rfl⟩
  rw [← hN]
  have HN := Lib.hid hN
  obtain ⟨K, hK⟩ : ∃ K, K = (r.valid && arePcs ps) := ⟨_, rfl⟩
  rw [← hK] at HRD
  have HK := Lib.hid hK
  obtain ⟨sr, rfl, hsr⟩ := h
  obtain ⟨A, c, rfl, _, _⟩ := hsr
  obtain ⟨vs, ⟨A2, c2, rfl, _, _⟩, _⟩ := h2
  have H0 := (Sep.start w).box 29 #[.int .i64 r.w, .slice A r.rows.length c]
  obtain ⟨g, hg⟩ : ∃ g, g = w.heap.size := ⟨_, rfl⟩
  rw [← hg] at H0
  clear hN hK
  go_enter Tryz.func87, Tryz.ntmps87
  go_upto_region 1 with fail
  rw [← hg]
  generalize (w.alloc (.cells #[.int .i64 r.w, .slice A r.rows.length c] 29)) = W at *
  clear hg
  have c0 : W.cell? ⟨g, 0, none⟩ = some (.int .i64 r.w) := H0.h0.cell 0
  have c1 : W.cell? ⟨g, 1, none⟩ = some (.slice A r.rows.length c) := H0.h0.cell 1
  have HC := Lib.hid (HRD.out W H0.below)
  unfold PzsPost at HC
  go_wp2_with fail
  refine (HC.out).mono ?_
  rintro e w1 ⟨ov, vs1, n, L, rfl, hn1, HS⟩
  have hb := H0.below.trans (HS.below.mono H0.size)
  have HN1 := Lib.hid hn1
  obtain ⟨A1, q1, rfl, _, _, _⟩ := Res.row_at HS.h0
  clear HC c0 c1 H0 HS hn1 HRD
  cases K
  · obtain rfl : N = -1 := by rw [HN.out, cnsN, if_neg (by rw [← HK.out]; decide)]
    go_wp2
    go_ret
    exact ⟨rfl, hb⟩
  · obtain rfl : N = (n : Int) := by rw [HN.out, cnsN, if_pos HK.out.symm, HN1.out]
    go_wp2
    go_ret
    exact ⟨rfl, hb⟩
set_option maxRecDepth 100000 in
set_option maxHeartbeats 1600000 in
theorem spec_cns_c {v v2 : Value} {r : Reg} {ps : List (List Cell)} (w : World) (h : RegRd w 0 w.heap.size v r) (h2 : CellSSRd w 0 w.heap.size v2 ps) (hn : ps.length ≤ 1048576) (hl : ∀ s ∈ ps, s.length ≤ 1048576) :
    Calls Tryz.prog 76 #[v, v2] w fun e w' => e = .returned (.int .i64 (cnsN r ps)) ∧ Below w.heap.size w w' := by
  have HRD : Hid (∀ w1, Below w.heap.size w w1 → Calls Tryz.prog 137 #[v, v2] w1 (PzsPost (pzM r ps) (r.valid && arePcs ps) w1)) := Lib.hid fun w1 b1 => spec_pzs_c w1 ((h.keep (SameIn.of_below b1 (Nat.le_refl _))).more (Nat.le_refl _) b1.size) ((h2.keep (SameIn.of_below b1 (Nat.le_refl _))).more (Nat.le_refl _) b1.size) hn hl
  obtain ⟨N, hN⟩ : ∃ N, N = cnsN r ps := ⟨_, rfl⟩
  rw [← hN]
  have HN := Lib.hid hN
  obtain ⟨K, hK⟩ : ∃ K, K = (r.valid && arePcs ps) := ⟨_, rfl⟩
  rw [← hK] at HRD
  have HK := Lib.hid hK
  obtain ⟨sr, rfl, hsr⟩ := h
  obtain ⟨A, c, rfl, _, _⟩ := hsr
  obtain ⟨vs, ⟨A2, c2, rfl, _, _⟩, _⟩ := h2
  have H0 := (Sep.start w).box 29 #[.int .i64 r.w, .slice A r.rows.length c]
  obtain ⟨g, hg⟩ : ∃ g, g = w.heap.size := ⟨_, rfl⟩
  rw [← hg] at H0
  clear hN hK
  go_enter Tryz.func76, Tryz.ntmps76
  go_upto_region 1 with fail
  rw [← hg]
  generalize (w.alloc (.cells #[.int .i64 r.w, .slice A r.rows.length c] 29)) = W at *
  clear hg
  have c0 : W.cell? ⟨g, 0, none⟩ = some (.int .i64 r.w) := H0.h0.cell 0
  have c1 : W.cell? ⟨g, 1, none⟩ = some (.slice A r.rows.length c) := H0.h0.cell 1
  have HC := Lib.hid (HRD.out W H0.below)
  unfold PzsPost at HC
  go_wp2_with fail
  refine (HC.out).mono ?_
  rintro e w1 ⟨ov, vs1, n, L, rfl, hn1, HS⟩
  have hb := H0.below.trans (HS.below.mono H0.size)
  have HN1 := Lib.hid hn1
  obtain ⟨A1, q1, rfl, _, _, _⟩ := Res.row_at HS.h0
  clear HC c0 c1 H0 HS hn1 HRD
  cases K
  · obtain rfl : N = -1 := by rw [HN.out, cnsN, if_neg (by rw [← HK.out]; decide)]
    go_wp2
    go_ret
    exact ⟨rfl, hb⟩
  · obtain rfl : N = (n : Int) := by rw [HN.out, cnsN, if_pos HK.out.symm, HN1.out]
    go_wp2
    go_ret
    exact ⟨rfl, hb⟩
end Go.Proofs.YtppbkiajcpdkiaaGreatDoor
