
/-
  A slice of the call's own that may begin anywhere in its block: a queue, cut at its head and appended to at its end.
-/
import Derived.Test.YtghpkfihdcjlaaaGreatDoorKinds
import Derived.ArgAppend
namespace Go.Proofs.YtghpkfihdcjlaaaGreatDoor
open Go.RowKit

def setAll (cs : Array Value) (o : Nat) : List Value → Array Value
  | [] => cs
  | v :: vs => setAll (cs.setIfInBounds o v) (o + 1) vs
theorem setAll_size (vs : List Value) : ∀ (cs : Array Value) (o : Nat), (setAll cs o vs).size = cs.size := by
  induction vs with
  | nil => intro cs o; rfl
  | cons v vs ih => intro cs o; simp [setAll, ih]
theorem setAll_out (vs : List Value) : ∀ (cs : Array Value) (o i : Nat), i < o → (setAll cs o vs)[i]? = cs[i]? := by
  induction vs with
  | nil => intro cs o i _; rfl
  | cons v vs ih =>
    intro cs o i h
    rw [setAll, ih _ _ _ (by omega), Array.getElem?_setIfInBounds_ne (by omega)]
theorem setAll_in (vs : List Value) : ∀ (cs : Array Value) (o j : Nat) (u : Value), o + vs.length ≤ cs.size → vs[j]? = some u → (setAll cs o vs)[o + j]? = some u := by
  induction vs with
  | nil => intro cs o j u _ h; simp at h
  | cons v vs ih =>
    intro cs o j u hs h
    simp at hs
    rw [setAll]
    cases j with
    | zero =>
      simp at h
      subst h
      rw [Nat.add_zero, setAll_out _ _ _ _ (by omega)]
      simp [show o < cs.size by omega]
    | succ j =>
      rw [show o + (j + 1) = o + 1 + j by omega]
      exact ih _ _ _ _ (by simp; omega) (by simpa using h)
theorem Blk.setCells (vs : List Value) : ∀ {w : World} {g : Nat} {t : TypeId} {cs : Array Value} (_ : Blk w g t cs) (o : Nat), Blk (w.setCells g o vs) g t (setAll cs o vs) := by
  induction vs with
  | nil => intro w g t cs h o; exact h
  | cons v vs ih => intro w g t cs h o; exact ih (h.set_ o v) (o + 1)
theorem only_setCells (vs : List Value) : ∀ {a w : World} {g : Nat} (_ : a.grownBy w (some g)) (o : Nat), a.grownBy (w.setCells g o vs) (some g) := by
  induction vs with
  | nil => intro a w g h o; exact h
  | cons v vs ih => intro a w g h o; exact ih (only_setCell (p := ⟨g, o, none⟩) h (.inl rfl) v) (o + 1)

def QI (w : World) (lo : Nat) (e : TypeId) (sz : Nat) (v : Value) (n : Nat) (xs : List Value) : Prop :=
  xs.length = n * sz ∧ ((v = .slice none 0 0 ∧ n = 0) ∨ ∃ g off cap cs, v = .slice (some ⟨g, off, none⟩) n cap ∧ lo ≤ g ∧ Blk w g e cs ∧ n ≤ cap ∧ cap ≤ maxLen ∧ off + cap * sz ≤ cs.size ∧ ∀ j u, xs[j]? = some u → cs[off + j]? = some u)
section
variable {w w' : World} {lo n sz : Nat} {e : TypeId} {v : Value} {xs : List Value}
theorem QI.nil : QI w lo e sz (.slice none 0 0) 0 [] := ⟨by simp, .inl ⟨rfl, rfl⟩⟩
theorem QI.keep (h : QI w lo e sz v n xs) (hs : ∀ g, v.ownBlock = some g → w'.heap[g]? = w.heap[g]?) : QI w' lo e sz v n xs := by
  refine ⟨h.1, ?_⟩
  rcases h.2 with hn | ⟨g, off, cap, cs, rfl, h1, hb, rest⟩
  · exact .inl hn
  · exact .inr ⟨g, off, cap, cs, rfl, h1, (hs g (by simp [Value.ownBlock])).trans hb, rest⟩
theorem QI.lt (h : QI w lo e sz v n xs) : ∀ k, v.ownBlock = some k → lo ≤ k ∧ k < w.heap.size := by
  intro k hk
  rcases h.2 with ⟨rfl, _⟩ | ⟨g, off, cap, cs, rfl, h1, hb, rest⟩
  · simp [Value.ownBlock] at hk
  · simp [Value.ownBlock] at hk
    subst hk
    exact ⟨h1, hb.lt⟩
theorem QI.below {B : Nat} (h : QI w lo e sz v n xs) (hb : Below B w w') (hB : w.heap.size ≤ B) : QI w' lo e sz v n xs := h.keep fun g hg => hb.block g (by have := h.lt g hg; omega)
theorem QI.alloc (h : QI w lo e sz v n xs) (o : Obj) : QI (w.alloc o) lo e sz v n xs := h.keep fun g hg => Below.heap_alloc w o g (h.lt g hg).2
theorem QI.shape (h : QI w lo e sz v n xs) : ∃ A c, v = .slice A n c := by
  rcases h.2 with ⟨rfl, rfl⟩ | ⟨g, off, cap, cs, rfl, _⟩
  · exact ⟨_, _, rfl⟩
  · exact ⟨_, _, rfl⟩
/-- not empty: where it lies -/
theorem QI.at_ (h : QI w lo e sz v n xs) (hn : 0 < n) : ∃ g off cap cs, v = .slice (some ⟨g, off, none⟩) n cap ∧ lo ≤ g ∧ Blk w g e cs ∧ n ≤ cap ∧ cap ≤ maxLen ∧ off + cap * sz ≤ cs.size ∧ ∀ j u, xs[j]? = some u → w.cell? ⟨g, off + j, none⟩ = some u := by
  rcases h.2 with ⟨_, h0⟩ | ⟨g, off, cap, cs, rfl, h1, hb, h2, h3, h4, h5⟩
  · omega
  · exact ⟨g, off, cap, cs, rfl, h1, hb, h2, h3, h4, fun j u hu => by rw [hb.cell]; exact h5 j u hu⟩
/-- cut at its head -/
theorem QI.tail {g off cap : Nat} (h : QI w lo e sz (.slice (some ⟨g, off, none⟩) (n + 1) cap) (n + 1) xs) : QI w lo e sz (.slice (some (if cap = 1 then ⟨g, off, none⟩ else ⟨g, off + sz, none⟩)) n (cap - 1)) n (xs.drop sz) := by
  refine ⟨by rw [List.length_drop, h.1, Nat.add_mul]; omega, ?_⟩
  rcases h.2 with ⟨h0, _⟩ | ⟨g', off', cap', cs, he, h1, hb, h2, h3, h4, h5⟩
  · cases h0
  · injection he with e1 e2 e3
    injection e1 with e1
    injection e1 with e1 e4 _
    subst e1 e3 e4
    by_cases hc : cap = 1
    · subst hc
      have hn : n = 0 := by omega
      subst hn
      refine .inr ⟨g, off, 0, cs, by simp, h1, hb, Nat.le_refl _, Nat.zero_le _, by omega, fun j u hu => ?_⟩
      have hl := h.1
      have : (xs.drop sz)[j]? = none := by rw [List.getElem?_eq_none]; rw [List.length_drop]; omega
      rw [this] at hu
      cases hu
    · refine .inr ⟨g, off + sz, cap - 1, cs, by simp [hc], h1, hb, by omega, by omega, ?_, fun j u hu => ?_⟩
      · obtain ⟨q, rfl⟩ : ∃ q, cap = q + 1 := ⟨cap - 1, by omega⟩
        simp only [Nat.add_sub_cancel]
        rw [Nat.add_mul] at h4
        omega
      · rw [List.getElem?_drop] at hu
        have := h5 (sz + j) u hu
        rwa [← Nat.add_assoc] at this
end

section
variable {P : Program} (w : World)
theorem run_append_q (lo : Nat) (t ty e : TypeId) (i : TypeInfo) (z : Value) (size bytes : Nat) (ht : P.underlying t = some (.slice e)) (hi : P.info? e = some i) (hz : i.zero = some z)
    (hsize : i.size = size) (hby : i.bytes = bytes) (hzs : z.cells.size = size) (hsz : 0 < size)
    (v : Value) (n : Nat) (xs : List Value) (hq : QI w lo e size v n xs)
    (a : Addr) (c : Nat) (news : List Value) (hl : news.length = 1 * size) (hnews : ∀ j u, news[j]? = some u → w.cell? (a.add j) = some u) (h1 : ∀ u ∈ news, u.oneCell' = true)
    (h63 : n + 1 ≤ maxLen) (hbytes : (n + 1) * bytes ≤ 140737488355328) (hlo : lo ≤ w.heap.size) :
    ∃ v' w', (Builtin.append_ #[t, t] ty #[v, .slice (some a) 1 c]).run P w = .ok v' w' ∧ QI w' lo e size v' (n + 1) (xs ++ news) ∧ w.grownBy w' v.ownBlock ∧ (v'.ownBlock = v.ownBlock ∨ v'.ownBlock = some w.heap.size) := by
  rcases hq.2 with ⟨rfl, rfl⟩ | ⟨g, off, cap, cs, rfl, hg, hb, hnc, hcm, hfit, hcs⟩
  · have hx : xs = [] := List.eq_nil_of_length_eq_zero (by simpa using hq.1)
    subst hx
    obtain ⟨v', w', hr, h2, h3, _, h5⟩ := run_append_own_at (P := P) w lo t ty e i z size bytes ht hi hz hsize hby hzs hsz (.slice none 0 0) 0 [] (World.ownsRow_nil _ _ _ _) a 1 c news hl hnews h1 h63 hbytes hlo
    refine ⟨v', w', hr, ?_, h3, h5⟩
    rcases h2.2 with ⟨_, h0⟩ | ⟨g, cap, cur, rfl, hbg, hgg, q1, q2, q3, q4⟩
    · omega
    · refine ⟨h2.1, .inr ⟨g, 0, cap, cur, rfl, hbg, hgg, q1, q2, by omega, fun j u hu => ?_⟩⟩
      rw [← q4, List.getElem?_take] at hu
      split at hu
      · simpa using hu
      · cases hu
  · subst hsize
    subst hby
    by_cases hroom : n + 1 ≤ cap
    · have hsp : off + n * i.size + news.length ≤ cs.size := by
        have : (n + 1) * i.size ≤ cap * i.size := Nat.mul_le_mul_right _ hroom
        rw [Nat.add_mul] at this
        omega
      have hr := run_append_room_cells (P := P) w t ty e i ht hi g off n cap a 1 c news hl hnews h1 hroom
        (fun j hj => by rw [hb.cell, Array.getElem?_eq_getElem (by omega)]; rfl) (fun j _ => hb.frozen _)
      refine ⟨_, _, hr, ⟨?_, .inr ⟨g, off, cap, _, rfl, hg, hb.setCells news _, hroom, hcm, by rw [setAll_size]; exact hfit, fun j u hu => ?_⟩⟩, only_setCells news (World.grownBy.refl w _) _, .inl rfl⟩
      · rw [List.length_append, hq.1, hl, Nat.add_mul]
      · by_cases hj : j < xs.length
        · rw [List.getElem?_append_left hj] at hu
          rw [setAll_out _ _ _ _ (by have := hq.1; omega)]
          exact hcs j u hu
        · rw [List.getElem?_append_right (by omega)] at hu
          have := setAll_in news cs (off + n * i.size) (j - xs.length) u hsp hu
          rwa [show off + n * i.size + (j - xs.length) = off + j by have := hq.1; omega] at this
    · have holds : ∀ j u, xs[j]? = some u → w.cell? ((⟨g, off, none⟩ : Addr).add j) = some u := by
        intro j u hu
        have hadd : (⟨g, off, none⟩ : Addr).add j = ⟨g, off + j, none⟩ := by unfold Addr.add; split <;> simp_all
        rw [hadd, hb.cell]
        exact hcs j u hu
      have hr := run_append_grow (P := P) w t ty e i z ht hi hz ⟨g, off, none⟩ n cap xs hq.1 holds a 1 c news hl hnews (by omega) (by simp only [maxLen] at h63; omega) (growslice_fits (by omega) hbytes)
      have hge := grownCap_ge w (n + 1) cap e
      have hcm' : grownCap w (n + 1) cap e ≤ maxLen := grownCap_le_maxLen w (n + 1) cap e h63
      have hlen : (xs ++ news).length = (n + 1) * i.size := by rw [List.length_append, hq.1, hl, Nat.add_mul]
      refine ⟨_, _, hr, ⟨hlen, .inr ⟨w.heap.size, 0, _, _, rfl, hlo, heap_alloc_new w.drew _, hge, hcm', ?_, fun j u hu => ?_⟩⟩, ⟨rfl, rfl, rfl, by simp, fun _ hk _ => heap_alloc_old w.drew _ hk⟩, .inr rfl⟩
      · simp only [Array.size_append, List.size_toArray, size_zeroCells, hzs]
        have : (xs.length + news.length) = (n + 1) * i.size := by rw [← List.length_append, hlen]
        rw [this, ← Nat.add_mul]
        rw [Nat.zero_add, show n + 1 + (grownCap w (n + 1) cap e - (n + 1)) = grownCap w (n + 1) cap e by omega]
        exact Nat.le_refl _
      · have hj := (List.getElem?_eq_some_iff.1 hu).1
        rw [Nat.zero_add]
        have e1 : (xs.toArray ++ news.toArray) = (xs ++ news).toArray := by simp
        rw [e1, Array.getElem?_append_left (by simpa using hj)]
        simpa using hu

theorem wpList_append_q {ops : Array Oper} {rest : List Oper} {o : Oper} {a : Act} {Q : Exit → Act → World → Prop} (hgd : o.guard = none) (s x : Operand) (t : TypeId)
    (ho : o.op = .call { callee := .builtin .append, args := #[s, x], argTypes := #[t, t] })
    (lo : Nat) (e : TypeId) (i : TypeInfo) (z : Value) (size bytes : Nat) (ht : P.underlying t = some (.slice e)) (hi : P.info? e = some i) (hz : i.zero = some z)
    (hsize : i.size = size) (hby : i.bytes = bytes) (hzs : z.cells.size = size) (hsz : 0 < size)
    (v : Value) (n : Nat) (xs : List Value) (hs : a.eval s = v) (hq : QI w lo e size v n xs)
    (ad : Addr) (c : Nat) (news : List Value) (hx : a.eval x = .slice (some ad) 1 c) (hl : news.length = 1 * size) (hnews : ∀ j u, news[j]? = some u → w.cell? (ad.add j) = some u) (h1 : ∀ u ∈ news, u.oneCell' = true)
    (h63 : n + 1 ≤ maxLen) (hbytes : (n + 1) * bytes ≤ 140737488355328) (hlo : lo ≤ w.heap.size)
    (h : ∀ v' w', QI w' lo e size v' (n + 1) (xs ++ news) → w.grownBy w' v.ownBlock → (v'.ownBlock = v.ownBlock ∨ v'.ownBlock = some w.heap.size) → wpList P ops Q rest (a.put o.dst v') w') :
    wpList P ops Q (o :: rest) a w := by
  refine wpList_plain hgd fun K hK => ?_
  obtain ⟨v', w', hr, h2, h3, h4⟩ := run_append_q (P := P) w lo t o.type e i z size bytes ht hi hz hsize hby hzs hsz v n xs hq ad c news hl hnews h1 h63 hbytes hlo
  unfold Oper.wp execOp
  simp only [ho, resolve, invoke, builtin, Sem.run_bind, Sem.run_pure, Result.andThen_ok, List.map_toArray, List.map_cons, List.map_nil, hs, hx, hr]
  exact hK _ _ (h v' w' h2 h3 h4)
theorem run_tail_q (t e : TypeId) (i : TypeInfo) (size : Nat) (ht : P.underlying t = some (.slice e)) (hi : P.info? e = some i) (hsize : i.size = size) (hsz : 0 < size) (g off n cap : Nat) (hc : n + 1 ≤ cap) :
    (Instr.slice t (.slice (some ⟨g, off, none⟩) (n + 1) cap) (some (.int .i64 1)) none none).run P w = .ok (.slice (some (if cap = 1 then ⟨g, off, none⟩ else ⟨g, off + size, none⟩)) n (cap - 1)) w := by
  have h1 : (0 : Int) ≤ 1 ∧ (1 : Int) ≤ ((n + 1 : Nat) : Int) := ⟨by omega, by omega⟩
  have hadd : (⟨g, off, none⟩ : Addr).add size = ⟨g, off + size, none⟩ := by unfold Addr.add; split <;> simp_all
  simp [Instr.slice, run_underlying ht, Instr.sliceBounds, Instr.sliceBound, asIntOf, sizeOf, typeInfo, hi, hsize]
  by_cases hc1 : cap = 1 <;> simp [hc1, hadd] <;> (intro hx; omega)
theorem wpList_tail_q {ops : Array Oper} {rest : List Oper} {o : Oper} {a : Act} {Q : Exit → Act → World → Prop} (hgd : o.guard = none) (x : Operand) (t : TypeId)
    (ho : o.op = .slice t x (some (.const (.int .i64 1))) none none) (lo : Nat) (e : TypeId) (i : TypeInfo) (size : Nat) (ht : P.underlying t = some (.slice e)) (hi : P.info? e = some i) (hsize : i.size = size) (hsz : 0 < size)
    (g off n cap : Nat) (xs : List Value) (hx : a.eval x = .slice (some ⟨g, off, none⟩) (n + 1) cap) (hc : n + 1 ≤ cap) (hq : QI w lo e size (.slice (some ⟨g, off, none⟩) (n + 1) cap) (n + 1) xs)
    (h : ∀ v', QI w lo e size v' n (xs.drop size) → v'.ownBlock = some g → wpList P ops Q rest (a.put o.dst v') w) : wpList P ops Q (o :: rest) a w := by
  refine wpList_plain hgd fun K hK => ?_
  have hr := run_tail_q (P := P) w t e i size ht hi hsize hsz g off n cap hc
  unfold Oper.wp execOp
  simp only [ho, Sem.run_bind, Sem.run_pure, hx, Option.map_some, Option.map_none]
  have hev : a.eval (.const (.int .i64 1)) = .int .i64 1 := rfl
  have hat : (Instr.sliceAt t (.slice (some ⟨g, off, none⟩) (n + 1) cap) (some (.int .i64 1)) none none).run P w = (Instr.slice t (.slice (some ⟨g, off, none⟩) (n + 1) cap) (some (.int .i64 1)) none none).run P w := by simp [Instr.sliceAt, run_underlying ht]
  rw [hev, hat, hr]
  exact hK _ _ (h _ hq.tail (by split <;> rfl))
end
end Go.Proofs.YtghpkfihdcjlaaaGreatDoor
