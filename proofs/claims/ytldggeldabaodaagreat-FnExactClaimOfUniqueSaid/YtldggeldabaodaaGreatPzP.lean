
/-
  Puzzles, plain: the solutions in order, the first of them, and when there is none.
-/
import Derived.Test.YtldggeldabaodaaGreatPlcP
import Derived.Test.YtldggeldabaodaaGreatMskX
namespace Go.Proofs.YtldggeldabaodaaGreat

theorem pz_or_add {m x : Nat} (hm : m < 2 ^ 64) (hx : x < 2 ^ 64) (h : m &&& x = 0) : m ||| x = m + x := by
  have hb : BitVec.ofNat 64 m &&& BitVec.ofNat 64 x = 0#64 := by
    apply BitVec.eq_of_toNat_eq
    rw [BitVec.toNat_and, BitVec.toNat_ofNat, BitVec.toNat_ofNat, Nat.mod_eq_of_lt hm, Nat.mod_eq_of_lt hx, h]; rfl
  have h1 := BitVec.toNat_add_of_and_eq_zero hb
  rw [BitVec.add_eq_or_of_and_eq_zero _ _ hb, BitVec.toNat_or, BitVec.toNat_ofNat, BitVec.toNat_ofNat, Nat.mod_eq_of_lt hm, Nat.mod_eq_of_lt hx] at h1
  exact h1
theorem pz_sub_and {a m : Nat} (h : m &&& a = m) (ha : a < 2 ^ 64) : a &&& (2 ^ 64 - (m + 1)) = a - m := by
  have hm : m < 2 ^ 64 := by rw [← h]; exact Nat.lt_of_le_of_lt Nat.and_le_right ha
  have e : a = m + (a &&& (2 ^ 64 - (m + 1))) := by
    have h1 : m &&& (a &&& (2 ^ 64 - (m + 1))) = 0 := by
      apply Nat.eq_of_testBit_eq
      intro i
      rw [Nat.testBit_and, Nat.testBit_and, Nat.testBit_two_pow_sub_succ hm]
      cases m.testBit i <;> simp
    have h2 : m ||| (a &&& (2 ^ 64 - (m + 1))) = a := by
      apply Nat.eq_of_testBit_eq
      intro i
      rw [Nat.testBit_or, Nat.testBit_and, Nat.testBit_two_pow_sub_succ hm]
      have h3 : (m &&& a).testBit i = m.testBit i := by rw [h]
      rw [Nat.testBit_and] at h3
      by_cases hi : i < 64
      · cases hm : m.testBit i <;> cases ha : a.testBit i <;> simp_all
      · have : a.testBit i = false := Nat.testBit_lt_two_pow (Nat.lt_of_lt_of_le ha (Nat.pow_le_pow_right (by decide) (by omega)))
        rw [this] at h3 ⊢
        simpa using h3.symm
    conv => lhs; rw [← h2]
    exact pz_or_add hm (Nat.lt_of_le_of_lt Nat.and_le_left ha) h1
  omega
theorem pz_sub_test {a m : Nat} (h : m &&& a = m) (ha : a < 2 ^ 64) (i : Nat) : (a - m).testBit i = (a.testBit i && !m.testBit i) := by
  have hm : m < 2 ^ 64 := by rw [← h]; exact Nat.lt_of_le_of_lt Nat.and_le_right ha
  rw [← pz_sub_and h ha, Nat.testBit_and, Nat.testBit_two_pow_sub_succ hm]
  by_cases hi : i < 64
  · simp [hi]
  · have : a.testBit i = false := Nat.testBit_lt_two_pow (Nat.lt_of_lt_of_le ha (Nat.pow_le_pow_right (by decide) (by omega)))
    rw [this]; simp
theorem pz_le {f m : Nat} (h : m &&& f = m) : m ≤ f := by rw [← h]; exact Nat.and_le_right
/-- what a placement of the first piece gives, with what the others give -/
def pzAt (S : Nat → List (List Nat)) (f m : Nat) : List (List Nat) := if m &&& f = m then (S (f - m)).map (m :: ·) else []
/-- all ways to put the pieces in order -/
def pzS : List (List Nat) → Nat → List (List Nat)
  | [], f => if f = 0 then [[]] else []
  | P :: at', f => P.flatMap (pzAt (pzS at') f)
theorem pzS_drop {at' : List (List Nat)} {i f : Nat} {P : List Nat} (h : at'[i]? = some P) : pzS (at'.drop i) f = P.flatMap (pzAt (pzS (at'.drop (i + 1))) f) := by
  obtain ⟨h1, h2⟩ := List.getElem?_eq_some_iff.1 h
  rw [List.drop_eq_getElem_cons h1, h2]
  rfl
theorem pzS_len : ∀ {at' : List (List Nat)} {f : Nat} {t : List Nat}, t ∈ pzS at' f → t.length = at'.length
  | [], f, t, h => by
    unfold pzS at h
    split at h
    · simp at h; subst h; rfl
    · simp at h
  | P :: at', f, t, h => by
    unfold pzS at h
    obtain ⟨m, _, h2⟩ := List.mem_flatMap.1 h
    unfold pzAt at h2
    split at h2
    · obtain ⟨t', h3, rfl⟩ := List.mem_map.1 h2
      rw [List.length_cons, List.length_cons, pzS_len h3]
    · simp at h2
/-- where the pieces do not reach, there is nothing -/
theorem pzS_reach : ∀ {at' : List (List Nat)} {f acc : Nat} {t : List Nat}, f < 2 ^ 64 → t ∈ pzS at' f → (∀ P ∈ at', ∀ m ∈ P, m &&& f = m → m &&& acc = m) → f &&& acc = f
  | [], f, acc, t, _, h, _ => by
    unfold pzS at h
    split at h
    · rename_i h0; rw [h0, Nat.zero_and]
    · simp at h
  | P :: at', f, acc, t, hf, h, hr => by
    unfold pzS at h
    obtain ⟨m, hm, h2⟩ := List.mem_flatMap.1 h
    unfold pzAt at h2
    split at h2
    · rename_i hmf
      obtain ⟨t', h3, rfl⟩ := List.mem_map.1 h2
      have hma := hr P (List.mem_cons_self ..) m hm hmf
      have hst := pz_sub_test hmf hf
      have ih := pzS_reach (acc := acc) (show f - m < 2 ^ 64 by omega) h3 (fun Q hQ m' hm' h4 => hr Q (List.mem_cons_of_mem _ hQ) m' hm' (by
        apply Nat.eq_of_testBit_eq
        intro i
        have h5 : (m' &&& (f - m)).testBit i = m'.testBit i := by rw [h4]
        rw [Nat.testBit_and, hst] at h5
        rw [Nat.testBit_and]
        cases h6 : m'.testBit i <;> cases h7 : f.testBit i <;> simp_all))
      apply Nat.eq_of_testBit_eq
      intro i
      have h5 : ((f - m) &&& acc).testBit i = (f - m).testBit i := by rw [ih]
      have h6 : (m &&& acc).testBit i = m.testBit i := by rw [hma]
      rw [Nat.testBit_and, hst] at h5
      rw [Nat.testBit_and] at h6 ⊢
      cases h7 : m.testBit i <;> cases h8 : f.testBit i <;> simp_all
    · simp at h2
theorem pzS_none {at' : List (List Nat)} {f acc : Nat} (hf : f < 2 ^ 64) (ha : acc &&& f = acc) (hne : acc ≠ f) (hr : ∀ P ∈ at', ∀ m ∈ P, m &&& f = m → m &&& acc = m) : pzS at' f = [] := by
  cases h : pzS at' f with
  | nil => rfl
  | cons t T =>
    have := pzS_reach hf (t := t) (by rw [h]; exact List.mem_cons_self ..) hr
    rw [Nat.and_comm] at this
    exact absurd (ha.symm.trans this) hne
/-- lists behind others, at most N -/
def ext (N : Nat) (seen T : List (List Nat)) : List (List Nat) := seen ++ T.take (N - seen.length)
theorem ext_nil {N : Nat} {seen : List (List Nat)} : ext N seen [] = seen := by simp [ext]
theorem ext_le {N : Nat} {seen T : List (List Nat)} (h : seen.length ≤ N) : (ext N seen T).length ≤ N := by unfold ext; rw [List.length_append, List.length_take]; omega
theorem ext_app {N : Nat} {seen X Y : List (List Nat)} (h : (ext N seen X).length < N) : ext N (ext N seen X) Y = ext N seen (X ++ Y) := by
  unfold ext at h ⊢
  rw [List.length_append, List.length_take] at h
  have e : X.take (N - seen.length) = X := List.take_of_length_le (by omega)
  rw [e, List.length_append, List.append_assoc, List.take_append, e, Nat.sub_sub]
theorem ext_stop {N : Nat} {seen X Y : List (List Nat)} (h : ¬ (ext N seen X).length < N) : ext N seen (X ++ Y) = ext N seen X := by
  unfold ext at h ⊢
  rw [List.length_append, List.length_take] at h
  rw [List.take_append, show N - seen.length - X.length = 0 by omega, List.take_zero, List.append_nil]
theorem ext_one {N : Nat} {seen : List (List Nat)} {t : List Nat} (h : seen.length < N) : ext N seen [t] = seen ++ [t] := by
  unfold ext
  obtain ⟨k, hk⟩ : ∃ k, N - seen.length = k + 1 := ⟨N - seen.length - 1, by omega⟩
  rw [hk]; simp
/-- .. with what was put before -/
def pzL (l : List Nat) (T : List (List Nat)) : List (List Nat) := T.map (l ++ ·)
theorem pzL_app {l : List Nat} {X Y : List (List Nat)} : pzL l (X ++ Y) = pzL l X ++ pzL l Y := by simp [pzL]
theorem pzL_at {S : Nat → List (List Nat)} {f m : Nat} {l : List Nat} (h : m &&& f = m) : pzL l (pzAt S f m) = pzL (l ++ [m]) (S (f - m)) := by
  unfold pzAt pzL
  rw [if_pos h, List.map_map]
  apply List.map_congr_left
  intro t _
  simp
theorem pzL_not {S : Nat → List (List Nat)} {f m : Nat} {l : List Nat} (h : ¬ m &&& f = m) : pzL l (pzAt S f m) = [] := by
  unfold pzAt pzL
  rw [if_neg h]; rfl
theorem pz_take {P : List Nat} {g : Nat → List (List Nat)} {j m : Nat} (h : P[j]? = some m) : (P.take (j + 1)).flatMap g = (P.take j).flatMap g ++ g m := by
  rw [List.take_add_one, h]; simp
theorem pz_split {P : List Nat} {g : Nat → List (List Nat)} (j : Nat) : P.flatMap g = (P.take j).flatMap g ++ (P.drop j).flatMap g := by
  rw [← List.flatMap_append, List.take_append_drop]
theorem and_or_l {m a b : Nat} (h : m &&& a = m) : m &&& (a ||| b) = m := by
  apply Nat.eq_of_testBit_eq
  intro i
  have h5 : (m &&& a).testBit i = m.testBit i := by rw [h]
  rw [Nat.testBit_and] at h5
  rw [Nat.testBit_and, Nat.testBit_or]
  cases h6 : m.testBit i <;> cases h7 : a.testBit i <;> simp_all
theorem or_and_r {a b f : Nat} (h : a &&& f = a) (h2 : b &&& f = b) : (a ||| b) &&& f = a ||| b := by
  apply Nat.eq_of_testBit_eq
  intro i
  have h5 : (a &&& f).testBit i = a.testBit i := by rw [h]
  have h6 : (b &&& f).testBit i = b.testBit i := by rw [h2]
  rw [Nat.testBit_and] at h5 h6
  rw [Nat.testBit_and, Nat.testBit_or]
  cases h7 : a.testBit i <;> cases h8 : b.testBit i <;> simp_all
/-- what the pieces from i on reach, j of them seen -/
def PzR (at' : List (List Nat)) (free i j acc : Nat) : Prop := acc &&& free = acc ∧ ∀ j', j' < j → ∀ P, at'[i + j']? = some P → ∀ m ∈ P, m &&& free = m → m &&& acc = m
def PzR2 (at' : List (List Nat)) (free i j acc : Nat) (Q : List Nat) (q : Nat) : Prop := PzR at' free i j acc ∧ ∀ m ∈ Q.take q, m &&& free = m → m &&& acc = m
theorem PzR.start {at' : List (List Nat)} {free i : Nat} : PzR at' free i 0 0 := ⟨Nat.zero_and _, fun _ h => absurd h (Nat.not_lt_zero _)⟩
theorem PzR.row {at' : List (List Nat)} {free i j acc : Nat} {Q : List Nat} (h : PzR at' free i j acc) : PzR2 at' free i j acc Q 0 := ⟨h, fun m hm => by simp at hm⟩
theorem PzR2.skip {at' : List (List Nat)} {free i j acc q m : Nat} {Q : List Nat} (h : PzR2 at' free i j acc Q q) (hm : Q[q]? = some m) (hn : ¬ m &&& free = m) : PzR2 at' free i j acc Q (q + 1) :=
  ⟨h.1, fun x hx hf => by
    rw [List.take_add_one, hm] at hx
    rcases List.mem_append.1 hx with hx | hx
    · exact h.2 x hx hf
    · simp at hx; subst hx; exact absurd hf hn⟩
theorem PzR2.take {at' : List (List Nat)} {free i j acc q m : Nat} {Q : List Nat} (h : PzR2 at' free i j acc Q q) (hm : Q[q]? = some m) (hy : m &&& free = m) : PzR2 at' free i j (acc ||| m) Q (q + 1) :=
  ⟨⟨or_and_r h.1.1 hy, fun j' hj P hP x hx hf => and_or_l (h.1.2 j' hj P hP x hx hf)⟩, fun x hx hf => by
    rw [List.take_add_one, hm] at hx
    rcases List.mem_append.1 hx with hx | hx
    · exact and_or_l (h.2 x hx hf)
    · simp at hx; subst hx
      rw [Nat.or_comm]
      exact and_or_l (Nat.and_self _)⟩
theorem PzR2.all {at' : List (List Nat)} {free i j acc : Nat} {Q : List Nat} (h : PzR2 at' free i j acc Q Q.length) (hQ : at'[i + j]? = some Q) : PzR at' free i (j + 1) acc :=
  ⟨h.1.1, fun j' hj P hP x hx hf => by
    by_cases e : j' = j
    · subst e
      rw [hQ] at hP
      injection hP with hP
      subst hP
      exact h.2 x (by rw [List.take_length]; exact hx) hf
    · exact h.1.2 j' (by omega) P hP x hx hf⟩
theorem PzR.none {at' : List (List Nat)} {free i acc k : Nat} (h : PzR at' free i (k - i) acc) (hk : k = at'.length) (hf : free < 2 ^ 64) (hne : acc ≠ free) : pzS (at'.drop i) free = [] :=
  pzS_none hf h.1 hne fun P hP m hm hmf => by
    obtain ⟨j, hj⟩ := List.getElem?_of_mem hP
    rw [List.getElem?_drop] at hj
    have := (List.getElem?_eq_some_iff.1 hj).1
    exact h.2 j (by omega) P hj m hm hmf
/-- what is kept behind q placements of piece i -/
def pzQ (at' : List (List Nat)) (seen : List (List Nat)) (l : List Nat) (free : Nat) (P : List Nat) (q : Nat) : List (List Nat) := ext 300 seen (pzL l ((P.take q).flatMap (pzAt (pzS (at'.drop (l.length + 1))) free)))
theorem pzQ_zero {at' seen : List (List Nat)} {l P : List Nat} {free : Nat} : pzQ at' seen l free P 0 = seen := by unfold pzQ; exact ext_nil
theorem pzQ_skip {at' seen : List (List Nat)} {l P : List Nat} {free q m : Nat} (hm : P[q]? = some m) (hn : ¬ m &&& free = m) : pzQ at' seen l free P (q + 1) = pzQ at' seen l free P q := by
  unfold pzQ
  rw [pz_take hm, pzL_app, pzL_not hn, List.append_nil]
theorem pzQ_take {at' seen : List (List Nat)} {l P : List Nat} {free q m : Nat} (hm : P[q]? = some m) (hy : m &&& free = m) (h3 : (pzQ at' seen l free P q).length < 300) : pzQ at' seen l free P (q + 1) = ext 300 (pzQ at' seen l free P q) (pzL (l ++ [m]) (pzS (at'.drop (l ++ [m]).length) (free - m))) := by
  unfold pzQ at h3 ⊢
  rw [ext_app h3, pz_take hm, pzL_app, pzL_at hy, List.length_append]
  rfl
theorem pzQ_stop {at' seen : List (List Nat)} {l P : List Nat} {free q : Nat} (hP : at'[l.length]? = some P) (h3 : ¬ (pzQ at' seen l free P q).length < 300) : pzQ at' seen l free P q = ext 300 seen (pzL l (pzS (at'.drop l.length) free)) := by
  unfold pzQ at h3 ⊢
  rw [pzS_drop hP, pz_split (P := P) q, pzL_app, ext_stop h3]
theorem pzQ_end {at' seen : List (List Nat)} {l P : List Nat} {free q : Nat} (hP : at'[l.length]? = some P) (hq : q = P.length) : pzQ at' seen l free P q = ext 300 seen (pzL l (pzS (at'.drop l.length) free)) := by
  unfold pzQ
  rw [pzS_drop hP, hq, List.take_length]
end Go.Proofs.YtldggeldabaodaaGreat
