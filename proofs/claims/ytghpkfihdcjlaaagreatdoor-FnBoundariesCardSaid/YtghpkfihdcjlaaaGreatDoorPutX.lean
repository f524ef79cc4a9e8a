
/-
  copy onto a row that a walk owns. No program in sight. A region that draws its order: quiet operations, then a tail that writes: the quiet ones by the cheap step. No program in sight. A shape put into an ordered list, once: the program's walk.
-/
import Derived.Test.YtghpkfihdcjlaaaGreatDoorSepX
import Derived.Laws.CopyOwn
import Derived.Test.YtghpkfihdcjlaaaGreatDoorCommon
import Derived.Test.YtghpkfihdcjlaaaGreatDoorOriS
import Derived.Test.YtghpkfihdcjlaaaGreatDoorSearch
namespace Go.Proofs.YtghpkfihdcjlaaaGreatDoor
open Go.RowKit

section
variable {P : Program} {w0 w : World} {L : List Res} {g n c : Nat} {e : TypeId} {xs : List Value}
theorem Sep.spliceRow (H : Sep w0 w (Res.row (.slice (some ⟨g, 0, none⟩) n c) e 1 n xs :: L)) (off : Nat) (cs : List Value) (hfit : off + cs.length ≤ n) :
    ∃ cur, w.heap[g]? = some (.cells cur e (0, 0)) ∧ n ≤ cur.size ∧ Sep w0 (w.setRow g (cur.toList.take off ++ (cs ++ cur.toList.drop (off + cs.length))).toArray) (Res.row (.slice (some ⟨g, 0, none⟩) n c) e 1 n (splice xs off cs) :: L) := by
  obtain ⟨_, cur, hB, h2, h3, h4, h5⟩ := own_blk H.own
  have hxl : xs.length = n * 1 := H.own.1
  rw [Nat.mul_one] at h4 h5 hxl
  have hcl : cur.toList.length = c := by rw [Array.length_toList, h4]
  refine ⟨cur, hB, by omega, ?_⟩
  have hB2 := setRow_heap w g cur (cur.toList.take off ++ (cs ++ cur.toList.drop (off + cs.length))).toArray e (0, 0) hB
  have hO : Only (fun b => b = g) w (w.setRow g (cur.toList.take off ++ (cs ++ cur.toList.drop (off + cs.length))).toArray) :=
    ⟨rfl, rfl, rfl, by simp [World.setRow], fun b _ hd => setRow_other w g b _ hd⟩
  refine H.turn ⟨hO.os, hO.tape, hO.output, hO.size, fun b hb' hd => hO.block b hb' (fun e => hd (by subst e; rfl))⟩ ?_ fun b hb' => .inl hb'
  refine ⟨by rw [length_splice _ _ _ (by omega), Nat.mul_one]; exact hxl, .inr ⟨g, c, _, rfl, Nat.zero_le _, hB2, h2, h3, ?_, ?_⟩⟩
  · simp only [List.size_toArray, List.length_append, List.length_take, List.length_drop, hcl]
    omega
  · rw [Nat.mul_one]
    unfold splice
    rw [← h5, List.toList_toArray]
    rw [List.take_append, List.take_append, List.take_take, List.take_take, List.drop_take]
    rw [List.length_take, hcl]
    have e1 : min off c = off := by omega
    have e2 : min n off = off := by omega
    have e3 : min off n = off := by omega
    rw [e1, e2, e3, List.take_of_length_le (show cs.length ≤ n - off by omega)]
    congr 3
    omega
theorem wpList_copy_row {ops : Array Oper} {rest : List Oper} {o : Oper} {a : Act} {Q : Exit → Act → World → Prop} (hgd : o.guard = none) (d s : Operand) (dT sT : TypeId)
    (ho : o.op = .call { callee := .builtin .copy, args := #[d, s], argTypes := #[dT, sT] }) (elem : TypeId) (hu : P.underlying dT = some (.slice elem)) (hsz : (P.info? elem).map (·.size) = some 1)
    (dp sp : Option Addr) (dLen dCap sLen sCap : Nat) (hd : a.eval d = .slice dp dLen dCap) (hs : a.eval s = .slice sp sLen sCap)
    (H : Sep w0 w (Res.row (.slice (some ⟨g, 0, none⟩) n c) e 1 n xs :: L)) (off : Nat) (cs : List Value) (hn : cs.length = Nat.min sLen dLen)
    (hpos : 0 < cs.length → dp = some ⟨g, off, none⟩ ∧ ∃ ad, sp = some ad ∧ ∀ j v, cs[j]? = some v → w.cell? (ad.add j) = some v)
    (hfit : off + cs.length ≤ n) (h1 : ∀ v ∈ cs, v.oneCell' = true)
    (h : ∀ w', Sep w0 w' (Res.row (.slice (some ⟨g, 0, none⟩) n c) e 1 n (splice xs off cs) :: L) → wpList P ops Q rest (a.put o.dst (goInt cs.length)) w') :
    wpList P ops Q (o :: rest) a w := by
  obtain ⟨cur, hB, hnc, H2⟩ := H.spliceRow off cs hfit
  by_cases h0 : cs.length = 0
  · obtain rfl : cs = [] := List.eq_nil_of_length_eq_zero h0
    refine wpList_copy_nothing hgd d s dT sT ho elem hu hsz dp sp dLen dCap sLen sCap hd hs (by simpa using hn.symm) ?_
    refine h w ?_
    have e1 : splice xs off [] = xs := by simp [splice]
    rw [e1]
    exact H
  · obtain ⟨rfl, ad, rfl, hsrc⟩ := hpos (by omega)
    refine wpList_copy_own hgd d s dT sT ho elem hu hsz g off dLen dCap ad sLen sCap hd hs cur e hB cs hn hsrc (by omega) h1 ?_
    exact h _ H2
end
/-- a shift by one and a store: an element goes in at place k -/
theorem splice_put {vs : List Value} {x u : Value} {k : Nat} (hk : k ≤ vs.length) : (splice (vs ++ [x]) (k + 1) (vs.drop k)).set k u = vs.take k ++ u :: vs.drop k := by
  unfold splice
  have h1 : (vs ++ [x]).drop (k + 1 + (vs.drop k).length) = [] := List.drop_of_length_le (by rw [List.length_append, List.length_drop]; simp; omega)
  obtain ⟨y, hy⟩ : ∃ y, (vs ++ [x])[k]? = some y := ⟨(vs ++ [x])[k]'(by simp; omega), List.getElem?_eq_getElem _⟩
  rw [h1, List.append_nil, List.take_add_one, hy, List.take_append_of_le_length hk]
  have hl : (vs.take k).length = k := by rw [List.length_take]; omega
  rw [List.append_assoc, List.set_append_right _ _ (by omega), hl, Nat.sub_self]
  rfl
end Go.Proofs.YtghpkfihdcjlaaaGreatDoor

namespace Go.Proofs.YtghpkfihdcjlaaaGreatDoor
open Go.RowKit

section
variable {P : Program} {ops : Array Oper} {w : World} {Q : Act → Prop}
theorem still_of_quiet {o : Oper} {a : Act} {next : Act → Prop} (h : o.quiet P a (fun w' => w' = w) next) : o.still P a w next := by
  obtain ⟨v, h1, h2⟩ := h
  have h3 := h1 w rfl
  unfold Oper.quietAt at h3
  unfold Oper.still
  generalize (execOp a.eval o).run P w = r at *
  cases r with
  | ok n w' =>
    cases n <;> simp only [Oper.quietUpon, Oper.stillUpon] at *
    case value u =>
      obtain ⟨e1, e2⟩ := h3
      subst e2
      exact ⟨e1, h2⟩
    case skip =>
      obtain ⟨e1, e2⟩ := h3
      subst e2
      exact ⟨e1, h2⟩
    case enter f args => exact ⟨h3.1, v, h3.2, h2⟩
  | halt h w' => exact h3
theorem wpStill_of_quiet : ∀ {l : List Oper} {a : Act}, wpQuiet P ops (fun w' => w' = w) Q l a → wpStill P ops w Q l a
  | [], _, h => h
  | o :: rest, a, h => by
    unfold wpStill
    unfold wpQuiet at h
    split
    · rename_i hw
      rw [if_pos hw] at h
      obtain ⟨v, h1, h2⟩ := h
      exact still_of_quiet ⟨v, h1, wpStill_of_quiet h2⟩
    · rename_i hw
      rw [if_neg hw] at h
      exact wpStill_of_quiet h
theorem wp_region_stq {id : Nat} {Q : Exit → Act → World → Prop} {a : Act} {l : List Oper} (n : Nat) (hm : P.follows .mixedOrders = true) (hB : Region.lexTailB .any l.toArray n = true)
    (h : wpQuiet P l.toArray (fun w' => w' = w.drew) (fun a' => wpList P l.toArray Q (l.drop n) a' w.drew) (l.take n) a) : (Code.region id l.toArray true).wp P Q a w :=
  wp_region_still_tail n hm hB (wpStill_of_quiet h)
end
end Go.Proofs.YtghpkfihdcjlaaaGreatDoor

namespace Go.Proofs.YtghpkfihdcjlaaaGreatDoor
open Go.RowKit

theorem putAt_of {s : List Cell} {M : List (List Cell)} {k : Nat} (hk : k ≤ M.length) (hS : SrtS M) (h1 : ∀ (i : Nat) (r : List Cell), i < k → M[i]? = some r → cmpS r s < 0) (h2 : ∀ (i : Nat) (r : List Cell), k ≤ i → M[i]? = some r → 0 ≤ cmpS r s) :
    (M[k]? = some s → insS s M = M) ∧ (¬ M[k]? = some s → insS s M = M.take k ++ s :: M.drop k) := by
  refine ⟨fun h => insS_has hS (List.mem_of_getElem? h), fun h => insS_put hS (fun d hd => ?_) (fun d hd => ?_)⟩
  · obtain ⟨j, hj, hdj⟩ := mem_dropI hd
    clear hd
    have hd := hdj
    have h3 := h2 j d hj hd
    rcases cmpS_tri s d with e | e | e
    · exact e
    · subst e
      exfalso
      by_cases ej : j = k
      · subst ej; exact h hd
      · obtain ⟨q, hq⟩ : ∃ q, M[k]? = some q := ⟨M[k]'(by have := (List.getElem?_eq_some_iff.1 hd).1; omega), List.getElem?_eq_getElem _⟩
        have h4 := srtS_lt hS (show k < j by omega) hq hd
        have h5 := h2 k q (Nat.le_refl _) hq
        omega
    · omega
  · obtain ⟨j, hj, hd⟩ := mem_takeI hd
    exact h1 j d hj hd
theorem map_ins {α β : Type} {f : α → β} {P : List α} {x : α} {k : Nat} : (P.take k ++ x :: P.drop k).map f = (P.map f).take k ++ f x :: (P.map f).drop k := by simp
theorem shps_one {w : World} {P : List (Value × List Cell)} (h : ShpsAt w P) : ∀ u ∈ P.map Prod.fst, u.oneCell' = true := by
  intro u hu
  obtain ⟨p, hp, rfl⟩ := List.mem_map.1 hu
  obtain ⟨A, c, e, _⟩ := h.rd hp
  rw [e]; rfl
end Go.Proofs.YtghpkfihdcjlaaaGreatDoor
