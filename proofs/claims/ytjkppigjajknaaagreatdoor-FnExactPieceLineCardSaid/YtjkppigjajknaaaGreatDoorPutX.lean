
/-
  copy onto a row that a walk owns. No program in sight. A region that draws its order: quiet operations, then a tail that writes: the quiet ones by the cheap step. No program in sight. A shape put into an ordered list, once: the program's walk.
-/
import Derived.Test.YtjkppigjajknaaaGreatDoorSepX
import Derived.Laws.CopyOwn
import Derived.Test.YtjkppigjajknaaaGreatDoorCommon
import Derived.Test.YtjkppigjajknaaaGreatDoorOriS
import Derived.Test.YtjkppigjajknaaaGreatDoorSearch
namespace Go.Proofs.YtjkppigjajknaaaGreatDoor
open Go.RowKit

section
variable {P : Program} {w0 w : World} {L : List Res} {g n c : Nat} {e : TypeId} {xs : List Value}
theorem Sep.spliceRow (H : Sep w0 w (Res.row (.slice (some ⟨g, 0, none⟩) n c) e 1 n xs :: L)) (off : Nat) (cs : List Value) (hfit : off + cs.length ≤ n) :
    ∃ cur, w.heap[g]? = some (.cells cur e (0, 0)) ∧ n ≤ cur.size ∧ Sep w0 (w.setRow g (cur.toList.take off ++ (cs ++ cur.toList.drop (off + cs.length))).toArray) (Res.row (.slice (some ⟨g, 0, none⟩) n c) e 1 n (splice xs off cs) :: L) := by
  obtain ⟨_, cur, hB, h2, h3, h4, h5⟩ := own_blk H.own
  have hxl : xs.length = n * 1 := H.own.1
  rw [Nat.mul_one] at h4 h5 hxl
  have hcl : cur.toList.length = c := by rw [Array.length_toList, h4]
  refine ⟨cur, hB, by omega, ?_⟩
  have hB2 := setRow_heap w g cur (cur.toList.take off ++ (cs ++ cur.toList.drop (off + cs.length))).toArray e (0, 0) hB
  have hO : Only (fun b => b = g) w (w.setRow g (cur.toList.take off ++ (cs ++ cur.toList.drop (off + cs.length))).toArray) :=
    ⟨rfl, rfl, rfl, by simp [World.setRow], fun b _ hd => setRow_other w g b _ hd⟩
  refine H.turn ⟨hO.os, hO.tape, hO.output, hO.size, fun b hb' hd => hO.block b hb' (fun e => hd (by subst e; rfl))⟩ ?_ fun b hb' => .inl hb'
  refine ⟨by rw [length_splice _ _ _ (by omega), Nat.mul_one]; exact hxl, .inr ⟨g, c, _, rfl, Nat.zero_le _, hB2, h2, h3, ?_, ?_⟩⟩
  · simp only [List.size_toArray, List.length_append, List.length_take, List.length_drop, hcl]
    omega
  · rw [Nat.mul_one]
    unfold splice
    rw [← h5, List.toList_toArray]
    rw [List.take_append, List.take_append, List.take_take, List.take_take, List.drop_take]
    rw [List.length_take, hcl]
    have e1 : min off c = off := by omega
    have e2 : min n off = off := by omega
    have e3 : min off n = off := by omega
    rw [e1, e2, e3, List.take_of_length_le (show cs.length ≤ n - off by omega)]
    congr 3
    omega
theorem wpList_copy_row {ops : Array Oper} {rest : List Oper} {o : Oper} {a : Act} {Q : Exit → Act → World → Prop} (hgd : o.guard = none) (d s : Operand) (dT sT : TypeId)
    (ho : o.op = .call { callee := .builtin .copy, args := #[d, s], argTypes := #[dT, sT] }) (elem : TypeId) (hu : P.underlying dT = some (.slice elem)) (hsz : (P.info? elem).map (·.size) = some 1)
    (dp sp : Option Addr) (dLen dCap sLen sCap : Nat) (hd : a.eval d = .slice dp dLen dCap) (hs : a.eval s = .slice sp sLen sCap)
    (H : Sep w0 w (Res.row (.slice (some ⟨g, 0, none⟩) n c) e 1 n xs :: L)) (off : Nat) (cs : List Value) (hn : cs.length = Nat.min sLen dLen)
    (hpos : 0 < cs.length → dp = some ⟨g, off, none⟩ ∧ ∃ ad, sp = some ad ∧ ∀ j v, cs[j]? = some v → w.cell? (ad.add j) = some v)
    (hfit : off + cs.length ≤ n) (h1 : ∀ v ∈ cs, v.oneCell' = true)
    (h : ∀ w', Sep w0 w' (Res.row (.slice (some ⟨g, 0, none⟩) n c) e 1 n (splice xs off cs) :: L) → wpList P ops Q rest (a.put o.dst (goInt cs.length)) w') :
    wpList P ops Q (o :: rest) a w := by
  obtain ⟨cur, hB, hnc, H2⟩ := H.spliceRow off cs hfit
  by_cases h0 : cs.length = 0
  · obtain rfl : cs = [] := List.eq_nil_of_length_eq_zero h0
    refine wpList_copy_nothing hgd d s dT sT ho elem hu hsz dp sp dLen dCap sLen sCap hd hs (by simpa using hn.symm) ?_
    refine h w ?_
    have e1 : splice xs off [] = xs := by simp [splice]
    rw [e1]
    exact H
  · obtain ⟨rfl, ad, rfl, hsrc⟩ := hpos (by omega)
    refine wpList_copy_own hgd d s dT sT ho elem hu hsz g off dLen dCap ad sLen sCap hd hs cur e hB cs hn hsrc (by omega) h1 ?_
    exact h _ H2
end
/-- a shift by one and a store: an element goes in at place k -/
theorem splice_put {vs : List Value} {x u : Value} {k : Nat} (hk : k ≤ vs.length) : (splice (vs ++ [x]) (k + 1) (vs.drop k)).set k u = vs.take k ++ u :: vs.drop k := by
  unfold splice
  have h1 : (vs ++ [x]).drop (k + 1 + (vs.drop k).length) = [] := List.drop_of_length_le (by rw [List.length_append, List.length_drop]; simp; omega)
  obtain ⟨y, hy⟩ : ∃ y, (vs ++ [x])[k]? = some y := ⟨(vs ++ [x])[k]'(by simp; omega), List.getElem?_eq_getElem _⟩
  rw [h1, List.append_nil, List.take_add_one, hy, List.take_append_of_le_length hk]
  have hl : (vs.take k).length = k := by rw [List.length_take]; omega
  rw [List.append_assoc, List.set_append_right _ _ (by omega), hl, Nat.sub_self]
  rfl
end Go.Proofs.YtjkppigjajknaaaGreatDoor

namespace Go.Proofs.YtjkppigjajknaaaGreatDoor
open Go.RowKit

section
variable {P : Program} {ops : Array Oper} {w : World} {Q : Act → Prop}
theorem still_of_quiet {o : Oper} {a : Act} {next : Act → Prop} (h : o.quiet P a (fun w' => w' = w) next) : o.still P a w next := by
  obtain ⟨v, h1, h2⟩ := h
  have h3 := h1 w rfl
  unfold Oper.quietAt at h3
  unfold Oper.still
  generalize (execOp a.eval o).run P w = r at *
  cases r with
  | ok n w' =>
    cases n <;> simp only [Oper.quietUpon, Oper.stillUpon] at *
    case value u =>
      obtain ⟨e1, e2⟩ := h3
      subst e2
      exact ⟨e1, h2⟩
    case skip =>
      obtain ⟨e1, e2⟩ := h3
      subst e2
      exact ⟨e1, h2⟩
    case enter f args => exact ⟨h3.1, v, h3.2, h2⟩
  | halt h w' => exact h3
theorem wpStill_of_quiet : ∀ {l : List Oper} {a : Act}, wpQuiet P ops (fun w' => w' = w) Q l a → wpStill P ops w Q l a
  | [], _, h => h
  | o :: rest, a, h => by
    unfold wpStill
    unfold wpQuiet at h
    split
    · rename_i hw
      rw [if_pos hw] at h
      obtain ⟨v, h1, h2⟩ := h
      exact still_of_quiet ⟨v, h1, wpStill_of_quiet h2⟩
    · rename_i hw
      rw [if_neg hw] at h
      exact wpStill_of_quiet h
theorem wp_region_stq {id : Nat} {Q : Exit → Act → World → Prop} {a : Act} {l : List Oper} (n : Nat) (hm : P.follows .mixedOrders = true) (hB : Region.lexTailB .any l.toArray n = true)
    (h : wpQuiet P l.toArray (fun w' => w' = w.drew) (fun a' => wpList P l.toArray Q (l.drop n) a' w.drew) (l.take n) a) : (Code.region id l.toArray true).wp P Q a w :=
  wp_region_still_tail n hm hB (wpStill_of_quiet h)
end
end Go.Proofs.YtjkppigjajknaaaGreatDoor

namespace Go.Proofs.YtjkppigjajknaaaGreatDoor
open Go.RowKit

/-- what the two boxes of putShape's closure hold -/
structure PutBoxes (w : World) (bl bs : Nat) (lv u : Value) : Prop where
  l : Blk w bl 38 #[lv]
  s : Blk w bs 25 #[u]
set_option maxRecDepth 100000 in
set_option maxHeartbeats 1600000 in
theorem putLess_c {bl bs n c i : Nat} {A : Option Addr} {u : Value} {vs : List Value} {M : List (List Cell)} {s r : List Cell} (w : World) (hB : PutBoxes w bl bs (.slice A n c) u)
    (hr : Rd w 0 w.heap.size 1 A n vs) (hsl : SlotsRd w 0 w.heap.size vs M) (hn : n = M.length) (hs : CellsRd w 0 w.heap.size u s) (hM : M[i]? = some r) (hr8 : r.length ≤ 64) :
    Calls Tryz.prog 219 #[.int .i64 i, .pointer (some ⟨bl, 0, none⟩), .pointer (some ⟨bs, 0, none⟩)] w fun e w' => e = .returned (.bool (decide (0 ≤ cmpS r s))) ∧ Below w.heap.size w w' := by
  have hi : i < n := by rw [hn]; exact (List.getElem?_eq_some_iff.1 hM).1
  obtain ⟨b, off, r', x, rfl, _, hb, hMr, x1, xr⟩ := hr.slot hsl hn hi
  rw [hM] at hMr
  injection hMr with hMr
  subst hMr
  have HC : Hid (∀ u' : Later w, Calls Tryz.prog 220 #[x, u] u'.w fun e w' => e = .returned (.int .i64 (cmpS r s)) ∧ Below u'.w.heap.size u'.w w') := Lib.hid fun u' =>
    impl_cmp_c u'.w ((xr.keep (SameIn.of_below u'.h (Nat.le_refl _))).more (Nat.le_refl _) u'.h.size) ((hs.keep (SameIn.of_below u'.h (Nat.le_refl _))).more (Nat.le_refl _) u'.h.size) (by omega)
  have z1 : w.cell? ⟨bl, 0, none⟩ = some (.slice (some ⟨b, off, none⟩) n c) := hB.l.cell 0
  have z2 : w.cell? ⟨bs, 0, none⟩ = some u := hB.s.cell 0
  have l1 := Later.cell z1 hB.l.lt
  have l2 := Later.cell z2 hB.s.lt
  have l3 := Later.cell x1 hb
  have e1 : (i : Int) < (n : Int) := by omega
  obtain ⟨Ax, cx, rfl, _, _⟩ := xr
  obtain ⟨As, cs, rfl, _, _⟩ := hs
  obtain ⟨q, hq⟩ : ∃ q, q = cmpS r s := ⟨_, rfl⟩
  rw [← hq] at HC ⊢
  clear hr hsl hn hM hB z1 z2 x1 hb hq
  go_enter Tryz.func219, Tryz.ntmps219
  go_wp2_with fail
  refine wp_region_later (by kernel_rfl) (by kernel_rfl) ?_
  repeat (go_big_quiet_step ((go_at_call 220; exact Later.call (HC.out _))))
  refine wpQuiet_nil ?_
  intro w3 hw3
  obtain ⟨u3, hu3⟩ := hw3
  subst hu3
  have hb3 := u3.h
  generalize u3.w = w3 at *
  clear l1 l2 l3
  go_wp2
  go_ret
  exact ⟨rfl, hb3⟩
theorem putAt_of {s : List Cell} {M : List (List Cell)} {k : Nat} (hk : k ≤ M.length) (hS : SrtS M) (h1 : ∀ (i : Nat) (r : List Cell), i < k → M[i]? = some r → cmpS r s < 0) (h2 : ∀ (i : Nat) (r : List Cell), k ≤ i → M[i]? = some r → 0 ≤ cmpS r s) :
    (M[k]? = some s → insS s M = M) ∧ (¬ M[k]? = some s → insS s M = M.take k ++ s :: M.drop k) := by
  refine ⟨fun h => insS_has hS (List.mem_of_getElem? h), fun h => insS_put hS (fun d hd => ?_) (fun d hd => ?_)⟩
  · obtain ⟨j, hj, hdj⟩ := mem_dropI hd
    clear hd
    have hd := hdj
    have h3 := h2 j d hj hd
    rcases cmpS_tri s d with e | e | e
    · exact e
    · subst e
      exfalso
      by_cases ej : j = k
      · subst ej; exact h hd
      · obtain ⟨q, hq⟩ : ∃ q, M[k]? = some q := ⟨M[k]'(by have := (List.getElem?_eq_some_iff.1 hd).1; omega), List.getElem?_eq_getElem _⟩
        have h4 := srtS_lt hS (show k < j by omega) hq hd
        have h5 := h2 k q (Nat.le_refl _) hq
        omega
    · omega
  · obtain ⟨j, hj, hd⟩ := mem_takeI hd
    exact h1 j d hj hd
theorem map_ins {α β : Type} {f : α → β} {P : List α} {x : α} {k : Nat} : (P.take k ++ x :: P.drop k).map f = (P.map f).take k ++ f x :: (P.map f).drop k := by simp
theorem shps_one {w : World} {P : List (Value × List Cell)} (h : ShpsAt w P) : ∀ u ∈ P.map Prod.fst, u.oneCell' = true := by
  intro u hu
  obtain ⟨p, hp, rfl⟩ := List.mem_map.1 hu
  obtain ⟨A, c, e, _⟩ := h.rd hp
  rw [e]; rfl
set_option maxRecDepth 100000 in
set_option maxHeartbeats 3200000 in
theorem impl_putK_c {n cs : Nat} {lv : Value} {As : Option Addr} {s : List Cell} {P : List (Value × List Cell)} {w0 w : World} {K : List Res} (H : Sep w0 w (Res.row lv 25 1 n (P.map Prod.fst) :: Res.shps P :: Res.row (.slice As s.length cs) 49 2 s.length (cc s) :: K))
    (hn : n = P.length) (hn8 : n ≤ 900000) (_ : s.length ≤ 64) (hP : ∀ p ∈ P, p.2.length ≤ 64) (hS : SrtS (P.map Prod.snd)) :
    Calls Tryz.prog 198 #[lv, .slice As s.length cs] w fun e w' => ∃ v' P', e = .returned v' ∧ P'.map Prod.snd = insS s (P.map Prod.snd) ∧ Sep w0 w' (Res.row v' 25 1 P'.length (P'.map Prod.fst) :: Res.shps P' :: K) := by
  obtain ⟨i0, hi, hz0, hz1, hz2⟩ := info_parts infoCellsP
  have hmf : ∀ (fn : Fn) (first cap : Array Value) (w : World), (Instr.makeFunc fn first cap).run Tryz.prog w = .ok (.func fn first cap) w := fun _ _ _ _ => rfl
  obtain ⟨A, c, hlv, hnc, hcm, _⟩ := Res.row_at H.h0
  subst hlv
  have H0 := ((H.box 38 #[.slice A n c]).box 25 #[.slice As s.length cs])
  simp only [World.size_alloc] at H0
  obtain ⟨bl, hbl⟩ : ∃ bl, bl = w.heap.size := ⟨_, rfl⟩
  obtain ⟨bs, hbs⟩ : ∃ bs, bs = bl + 1 := ⟨_, rfl⟩
  rw [← hbl, ← hbs] at H0
  obtain ⟨M, hM⟩ : ∃ M, M = P.map Prod.snd := ⟨_, rfl⟩
  obtain ⟨vs, hvs⟩ : ∃ vs, vs = P.map Prod.fst := ⟨_, rfl⟩
  have hML : M.length = n := by rw [hM, List.length_map, hn]
  rw [← hM] at hS ⊢
  have HM := Lib.hid hM
  have HV := Lib.hid hvs
  have HN := Lib.hid hn
  have HS := Lib.hid hS
  have HP := Lib.hid hP
  have HMn := Lib.hid hML
  clear H hM hvs hn hS hP hML
  go_enter Tryz.func198, Tryz.ntmps198
  go_upto_region 1 with fail
  rw [← hbl, ← hbs]
  generalize (w.alloc (.cells #[.slice A n c] 38)).alloc (.cells #[.slice As s.length cs] 25) = W at *
  clear hbl hbs
  have HSE : Hid (Calls Tryz.prog 218 #[.int .i64 n, .func (.func 219) #[] #[.pointer (some ⟨bl, 0, none⟩), .pointer (some ⟨bs, 0, none⟩)]] W fun e w' => ∃ k : Nat, k ≤ n ∧ e = .returned (.int .i64 k) ∧ Below W.heap.size W w' ∧ (∀ i r, i < k → M[i]? = some r → cmpS r s < 0) ∧ (∀ i r, k ≤ i → M[i]? = some r → 0 ≤ cmpS r s)) := Lib.hid (by
    refine (search_c (.pointer (some ⟨bl, 0, none⟩)) (.pointer (some ⟨bs, 0, none⟩)) n (fun i => decide (0 ≤ cmpS (M.getD i []) s)) W (by omega) (fun i w' hin hb => ?_) (fun i j hij hjn h => ?_)).mono ?_
    · have H1 := H0.step hb
      obtain ⟨r, hr⟩ : ∃ r, M[i]? = some r := ⟨M[i]'(by rw [HMn.out]; exact hin), List.getElem?_eq_getElem _⟩
      have e1 : M.getD i [] = r := by simp [List.getD, hr]
      rw [e1]
      obtain ⟨_, _, he, _, _, hrd⟩ := Res.row_at H1.h2
      injection he with he1 he2 he3
      subst he1 he3
      have hrow : ∃ p ∈ P, p.2 = r := by
        have := List.mem_of_getElem? hr
        rw [HM.out] at this
        obtain ⟨p, hp, e⟩ := List.mem_map.1 this
        exact ⟨p, hp, e⟩
      obtain ⟨p, hp, hpr⟩ := hrow
      exact putLess_c (vs := P.map Prod.fst) (M := M) w' ⟨H1.h1, H1.h0⟩ hrd ⟨by rw [HM.out]; simp, fun i r hr => by
        rw [HM.out, List.getElem?_map] at hr
        obtain ⟨p, hp, rfl⟩ := Option.map_eq_some_iff.1 hr
        exact ⟨p.1, by rw [List.getElem?_map, hp]; rfl, ShpsAt.rd H1.h3 (List.mem_of_getElem? hp)⟩⟩ HMn.out.symm (H1.g4.oi.sr.more (Nat.zero_le _) (Nat.le_refl _)) hr (by rw [← hpr]; exact HP.out p hp)
    · have h := of_decide_eq_true h
      refine decide_eq_true ?_
      have hjM : j < M.length := by rw [HMn.out]; exact hjn
      have e1 : M.getD i [] = M[i]'(by omega) := by simp [List.getD, show i < M.length by omega]
      have e2 : M.getD j [] = M[j] := by simp [List.getD, hjM]
      rw [e1] at h
      rw [e2]
      by_cases e : i = j
      · subst e; exact h
      · have hlt := srtS_lt HS.out (show i < j by omega) (List.getElem?_eq_getElem (by omega)) (List.getElem?_eq_getElem hjM)
        rcases Int.lt_or_le (cmpS M[j] s) 0 with hc | hc
        · have := cmpS_trans hlt hc; omega
        · exact hc
    · rintro e w' ⟨k, hk, he, hb, h1, h2⟩
      refine ⟨k, hk, he, hb, fun i r hik hr => ?_, fun i r hik hr => ?_⟩
      · have := of_decide_eq_false (h1 i hik)
        simp only [List.getD, hr, Option.getD_some] at this
        omega
      · have := of_decide_eq_true (h2 i hik (by rw [← HMn.out]; exact (List.getElem?_eq_some_iff.1 hr).1))
        simpa only [List.getD, hr, Option.getD_some] using this)
  have z1 : W.cell? ⟨bl, 0, none⟩ = some (.slice A n c) := H0.h1.cell 0
  go_wp2_with fail
  refine (HSE.out).mono ?_
  rintro e w1 ⟨k, hkn, rfl, b1, hk1, hk2⟩
  have HK1 := Lib.hid hk1
  have HK2 := Lib.hid hk2
  have H1 := H0.step b1
  clear H0 b1 z1 HSE hk1 hk2
  obtain ⟨hins1, hins2⟩ := putAt_of (s := s) (by rw [HMn.out]; exact hkn) HS.out HK1.out HK2.out
  have HI1 := Lib.hid hins1
  have HI2 := Lib.hid hins2
  clear hins1 hins2
  have y0 : w1.cell? ⟨bl, 0, none⟩ = some (.slice A n c) := H1.h1.cell 0
  have y1 : w1.cell? ⟨bs, 0, none⟩ = some (.slice As s.length cs) := H1.h0.cell 0
  have l0 := Later.cell y0 (Blk.lt H1.h1)
  have l1 := Later.cell y1 (Blk.lt H1.h0)
  by_cases hkl : k < n
  · have hd1 : decide ((k : Int) < (n : Int)) = true := decide_eq_true (by omega)
    obtain ⟨p, hp⟩ : ∃ p, P[k]? = some p := ⟨P[k]'(by rw [← HN.out]; exact hkl), List.getElem?_eq_getElem _⟩
    have hMp : M[k]? = some p.2 := by rw [HM.out, List.getElem?_map, hp]; rfl
    obtain ⟨g, o, cc', he, _, _, hgl⟩ := own_shape H1.h2 (by omega)
    injection he with he1 he2 he3
    subst he1 he3
    obtain ⟨rfl, _⟩ := own_blk H1.h2
    have x1 := own_cell H1.h2 (j := k) (u := p.1) (by rw [List.getElem?_map, hp]; rfl)
    rw [Nat.zero_add] at x1
    have l2 := Later.cell x1 hgl
    have hpr : CellsRd w1 0 w1.heap.size p.1 p.2 := ShpsAt.rd H1.h3 (List.mem_of_getElem? hp)
    have hsr : CellsRd w1 0 w1.heap.size (.slice As s.length cs) s := H1.g4.oi.sr.more (Nat.zero_le _) (Nat.le_refl _)
    have HE : Hid (∀ u' : Later w1, Calls Tryz.prog 221 #[p.1, .slice As s.length cs] u'.w fun e w' => e = .returned (.bool (same p.2 s)) ∧ Below u'.w.heap.size u'.w w') := Lib.hid fun u' =>
      impl_eqShapes_c u'.w ((hpr.keep (SameIn.of_below u'.h (Nat.le_refl _))).more (Nat.le_refl _) u'.h.size) ((hsr.keep (SameIn.of_below u'.h (Nat.le_refl _))).more (Nat.le_refl _) u'.h.size)
    obtain ⟨Ap, cp, hp1, _, _⟩ := hpr
    rw [hp1] at x1 l2 HE
    have HMP := Lib.hid hMp
    clear hsr hp hMp hp1
    go_wp2_with fail
    refine wp_region_later (by kernel_rfl) (by kernel_rfl) ?_
    repeat (go_big_quiet_step ((go_at_call 221; exact Later.call (HE.out _))))
    refine wpQuiet_nil ?_
    intro w3 hw3
    obtain ⟨u3, hu3⟩ := hw3
    subst hu3
    have H3 := H1.later u3
    clear l0 l1 l2 y0 y1 x1 H1 HE
    generalize u3.w = w3 at *
    by_cases hps : p.2 = s
    · rw [same_t hps]
      have HR : Hid (insS s M = M) := Lib.hid (HI1.out (by rw [HMP.out, hps]))
      have y0 : w3.cell? ⟨bl, 0, none⟩ = some (.slice (some ⟨g, 0, none⟩) n c) := H3.h1.cell 0
      have H4 : Sep w0 w3 (Res.row (.slice (some ⟨g, 0, none⟩) n c) 25 1 P.length (P.map Prod.fst) :: Res.shps P :: K) := by
        have := H3.drop.drop.g2.drop
        rw [HN.out] at this ⊢
        exact this
      clear H3 hps
      go_wp2
      go_ret
      exact ⟨_, P, rfl, by rw [HR.out, HM.out], by rw [HN.out] at H4 ⊢; exact H4⟩
    · rw [same_f hps]
      have HNO : Hid (¬ M[k]? = some s) := Lib.hid (by rw [HMP.out]; intro e; injection e with e; exact hps e)
      clear hps hd1
      have hvn : vs.length = n := by rw [HV.out, List.length_map, HN.out]
      have HVN := Lib.hid hvn
      rw [← HV.out] at H3
      have y0 : w3.cell? ⟨bl, 0, none⟩ = some (.slice _ n c) := H3.h1.cell 0
      have H4 := H3.g2
      clear H3 hvn
      go_wp2_with (at_builtin; refine wpList_app rfl _ _ 38 rfl 25 i0 _ 1 24 Tryz.underlying38 hi hz0 hz1 hz2 rfl (by decide) _ _ _ rfl (H4.alloc _) _ _ _ [.slice none 0 0] rfl (Rd.fresh w3 _ #[.slice none 0 0] 1 1 rfl) (ocv2 rfl) (by unfold maxLen; omega) (by omega) ?_; intro v5 w5 H5; obtain ⟨g5, o5, c5, rfl, hc5, _, _⟩ := own_shape H5.h0 (by omega); obtain ⟨rfl, _⟩ := own_blk H5.h0; have zl : w5.cell? ⟨bl, 0, none⟩ = some (.slice _ n c) := Blk.cell H5.h2 0; have zf : w5.frozen? ⟨bl, 0, none⟩ = false := Blk.frozen H5.h2 0; clear H4 y0)
      have H6 : Sep w0 (w5.setCell ⟨bl, 0, none⟩ (.slice (some ⟨g5, 0, none⟩) (n + 1) c5)) (Res.row (.slice (some ⟨g5, 0, none⟩) (n + 1) c5) 25 1 (n + 1) (vs ++ [.slice none 0 0]) :: Res.box bs 25 #[.slice As s.length cs] :: Res.box bl 38 #[.slice (some ⟨g5, 0, none⟩) (n + 1) c5] :: Res.shps P :: Res.row (.slice As s.length cs) 49 2 s.length (cc s) :: K) := (H5.g2.set_ 0 _).p2
      clear H5 zl zf
      generalize w5.setCell ⟨bl, 0, none⟩ (.slice (some ⟨g5, 0, none⟩) (n + 1) c5) = w6 at *
      have y1 : w6.drew.cell? ⟨bl, 0, none⟩ = some (.slice (some ⟨g5, 0, none⟩) (n + 1) c5) := H6.h2.cell 0
      obtain ⟨q, hq⟩ : ∃ q, q = k + 1 := ⟨_, rfl⟩
      have e1 : (k : Int) + 1 = (q : Int) := by omega
      have e2 : IntKind.i64.wrap ((k : Int) + 1) = (q : Int) := by rw [e1]; exact IntWalk.i64_in _ (by omega)
      have t1 : (0 : Int) ≤ (k : Int) := by omega
      have t2 : (k : Int) ≤ (c5 : Int) := by omega
      have t3 : (k : Int) ≤ ((n + 1 : Nat) : Int) := by omega
      have t4 : ((n + 1 : Nat) : Int) ≤ (c5 : Int) := by omega
      have t5 : (0 : Int) ≤ (q : Int) := by omega
      have t6 : (q : Int) ≤ (c5 : Int) := by omega
      have t7 : (q : Int) ≤ ((n + 1 : Nat) : Int) := by omega
      have hkc : ¬ c5 = k := by omega
      have HQ := Lib.hid hq
      clear hq
      have hcl : (vs.drop k).length = n - k := by rw [List.length_drop, HVN.out]
      have hfit : k + 1 + (vs.drop k).length ≤ n + 1 := by omega
      have hone : ∀ u ∈ vs.drop k, u.oneCell' = true := fun u hu => shps_one H6.h3 u (by rw [← HV.out]; exact List.mem_of_mem_drop hu)
      have hsrc : ∀ (j : Nat) (u : Value), (vs.drop k)[j]? = some u → w6.drew.cell? ⟨g5, 0 + (k + j), none⟩ = some u := fun j u hu => own_cell H6.drew.h0 (by
        rw [List.getElem?_drop] at hu
        rw [List.getElem?_append_left (by have := (List.getElem?_eq_some_iff.1 hu).1; exact this)]
        exact hu)
      have HF := Lib.hid (And.intro hcl (And.intro hfit (And.intro hone hsrc)))
      clear hcl hfit hone hsrc
      by_cases hqc : c5 = q
      · go_wp2_with fail
        refine wp_region_stq 7 (by kernel_rfl) (by kernel_rfl) ?_
        simp only [List.take_succ_cons, List.take_zero, List.drop_succ_cons, List.drop_zero]
        repeat (first | go_big_quiet_skip | (go_big_quiet_want; go_big_quiet_op; first | go_big_quiet_on | (apply Exists.intro; refine ⟨?_, ?_⟩; focus (fail); go_big_quiet_on)))
        refine wpQuiet_nil ?_
        refine wpList_copy_row rfl _ _ _ _ rfl 25 Tryz.underlying38 (by kernel_rfl) _ _ _ _ _ _ (by rfl) (by rfl) H6.drew (k + 1) (vs.drop k) ?hn ?hpos HF.out.2.1 HF.out.2.2.1 ?_
        case hn => (have h1 := HF.out.1; have h2 := HQ.out; show _ = min _ _; omega)
        case hpos => (intro h0; exfalso; have h1 := HF.out.1; have h2 := HQ.out; omega)
        intro w7 H7
        have hkL : k ≤ vs.length := by rw [HVN.out]; exact hkn
        have hU : (splice (vs ++ [Value.slice none 0 0]) (k + 1) (vs.drop k)).set k (.slice As s.length cs) = vs.take k ++ .slice As s.length cs :: vs.drop k := splice_put hkL
        have x1 : w7.cell? ⟨bl, 0, none⟩ = some (.slice (some ⟨g5, 0, none⟩) (n + 1) c5) := H7.h2.cell 0
        have x2 : w7.cell? ⟨bs, 0, none⟩ = some (.slice As s.length cs) := H7.h1.cell 0
        have xf : w7.frozen? ⟨g5, k, none⟩ = false := by have := own_free H7.h0 k; rwa [Nat.zero_add] at this
        obtain ⟨y, hy⟩ : ∃ y, (splice (vs ++ [Value.slice none 0 0]) (k + 1) (vs.drop k))[k]? = some y := ⟨_, List.getElem?_eq_getElem (by have := H7.h0.1; omega)⟩
        have x3 : w7.cell? ⟨g5, k, none⟩ = some y := by have := own_cell H7.h0 hy; rwa [Nat.zero_add] at this
        clear hy
        have h8 := H7.setRow (j := k) (by have := H7.h0.1; omega) (.slice As s.length cs)
        rw [hU, Nat.zero_add] at h8
        have x4 : (w7.setCell ⟨g5, k, none⟩ (.slice As s.length cs)).cell? ⟨bl, 0, none⟩ = some (.slice (some ⟨g5, 0, none⟩) (n + 1) c5) := h8.h2.cell 0
        have h9 := (h8.drop2.drop2.g2.g2.shpsIns rfl k).g1
        rw [HV.out, ← (pmap_ins (r := s)).1] at h9
        have HP2 : Hid ((P.take k ++ (Value.slice As s.length cs, s) :: P.drop k).map Prod.snd = insS s M) := Lib.hid (by rw [HI2.out HNO.out, HM.out, map_ins])
        have HL2 : Hid (n + 1 = (P.take k ++ (Value.slice As s.length cs, s) :: P.drop k).length) := Lib.hid (by rw [List.length_append, List.length_cons, List.length_take, List.length_drop, ← HN.out]; omega)
        have H9 := Lib.hid h9
        generalize P.take k ++ (Value.slice As s.length cs, s) :: P.drop k = P2 at *
        clear h9
        have e3 : (k : Int) < ((n + 1 : Nat) : Int) := by omega
        have e4 : k < n + 1 := by omega
        clear H6 H7 HF hU hqc t1 t2 t3 t4 t5 t6 t7 e1 e2 HQ hkc y1
        go_wp2_with fail
        go_ret
        exact ⟨_, P2, rfl, HP2.out, by rw [← HL2.out]; exact H9.out⟩
      · go_wp2_with fail
        refine wp_region_stq 7 (by kernel_rfl) (by kernel_rfl) ?_
        simp only [List.take_succ_cons, List.take_zero, List.drop_succ_cons, List.drop_zero]
        repeat (first | go_big_quiet_skip | (go_big_quiet_want; go_big_quiet_op; first | go_big_quiet_on | (apply Exists.intro; refine ⟨?_, ?_⟩; focus (fail); go_big_quiet_on)))
        refine wpQuiet_nil ?_
        refine wpList_copy_row rfl _ _ _ _ rfl 25 Tryz.underlying38 (by kernel_rfl) _ _ _ _ _ _ (by rfl) (by rfl) H6.drew (k + 1) (vs.drop k) ?hn ?hpos HF.out.2.1 HF.out.2.2.1 ?_
        case hn => (have h1 := HF.out.1; have h2 := HQ.out; show _ = min _ _; omega)
        case hpos => (intro h0; refine ⟨by rw [← HQ.out], _, rfl, fun j u hu => ?_⟩; have h3 := HF.out.2.2.2 j u hu; rw [Nat.zero_add] at h3; rw [show (⟨g5, k, none⟩ : Addr).add j = ⟨g5, k + j, none⟩ by unfold Addr.add; split <;> simp_all]; exact h3)
        intro w7 H7
        have hkL : k ≤ vs.length := by rw [HVN.out]; exact hkn
        have hU : (splice (vs ++ [Value.slice none 0 0]) (k + 1) (vs.drop k)).set k (.slice As s.length cs) = vs.take k ++ .slice As s.length cs :: vs.drop k := splice_put hkL
        have x1 : w7.cell? ⟨bl, 0, none⟩ = some (.slice (some ⟨g5, 0, none⟩) (n + 1) c5) := H7.h2.cell 0
        have x2 : w7.cell? ⟨bs, 0, none⟩ = some (.slice As s.length cs) := H7.h1.cell 0
        have xf : w7.frozen? ⟨g5, k, none⟩ = false := by have := own_free H7.h0 k; rwa [Nat.zero_add] at this
        obtain ⟨y, hy⟩ : ∃ y, (splice (vs ++ [Value.slice none 0 0]) (k + 1) (vs.drop k))[k]? = some y := ⟨_, List.getElem?_eq_getElem (by have := H7.h0.1; omega)⟩
        have x3 : w7.cell? ⟨g5, k, none⟩ = some y := by have := own_cell H7.h0 hy; rwa [Nat.zero_add] at this
        clear hy
        have h8 := H7.setRow (j := k) (by have := H7.h0.1; omega) (.slice As s.length cs)
        rw [hU, Nat.zero_add] at h8
        have x4 : (w7.setCell ⟨g5, k, none⟩ (.slice As s.length cs)).cell? ⟨bl, 0, none⟩ = some (.slice (some ⟨g5, 0, none⟩) (n + 1) c5) := h8.h2.cell 0
        have h9 := (h8.drop2.drop2.g2.g2.shpsIns rfl k).g1
        rw [HV.out, ← (pmap_ins (r := s)).1] at h9
        have HP2 : Hid ((P.take k ++ (Value.slice As s.length cs, s) :: P.drop k).map Prod.snd = insS s M) := Lib.hid (by rw [HI2.out HNO.out, HM.out, map_ins])
        have HL2 : Hid (n + 1 = (P.take k ++ (Value.slice As s.length cs, s) :: P.drop k).length) := Lib.hid (by rw [List.length_append, List.length_cons, List.length_take, List.length_drop, ← HN.out]; omega)
        have H9 := Lib.hid h9
        generalize P.take k ++ (Value.slice As s.length cs, s) :: P.drop k = P2 at *
        clear h9
        have e3 : (k : Int) < ((n + 1 : Nat) : Int) := by omega
        have e4 : k < n + 1 := by omega
        clear H6 H7 HF hU hqc t1 t2 t3 t4 t5 t6 t7 e1 e2 HQ hkc y1
        go_wp2_with fail
        go_ret
        exact ⟨_, P2, rfl, HP2.out, by rw [← HL2.out]; exact H9.out⟩
  · have hd1 : decide ((k : Int) < (n : Int)) = false := decide_eq_false (by omega)
    have HNO : Hid (¬ M[k]? = some s) := Lib.hid (by rw [List.getElem?_eq_none (by rw [HMn.out]; omega)]; simp)
    go_wp2_with fail
    refine wp_region_later (by kernel_rfl) (by kernel_rfl) ?_
    repeat (go_big_quiet_step (fail))
    refine wpQuiet_nil ?_
    intro w3 hw3
    obtain ⟨u3, hu3⟩ := hw3
    subst hu3
    have H3 := H1.later u3
    clear l0 l1 y0 y1 H1 hd1
    generalize u3.w = w3 at *
    have hvn : vs.length = n := by rw [HV.out, List.length_map, HN.out]
    have HVN := Lib.hid hvn
    rw [← HV.out] at H3
    have y0 : w3.cell? ⟨bl, 0, none⟩ = some (.slice _ n c) := H3.h1.cell 0
    have H4 := H3.g2
    clear H3 hvn
    go_wp2_with (at_builtin; refine wpList_app rfl _ _ 38 rfl 25 i0 _ 1 24 Tryz.underlying38 hi hz0 hz1 hz2 rfl (by decide) _ _ _ rfl (H4.alloc _) _ _ _ [.slice none 0 0] rfl (Rd.fresh w3 _ #[.slice none 0 0] 1 1 rfl) (ocv2 rfl) (by unfold maxLen; omega) (by omega) ?_; intro v5 w5 H5; obtain ⟨g5, o5, c5, rfl, hc5, _, _⟩ := own_shape H5.h0 (by omega); obtain ⟨rfl, _⟩ := own_blk H5.h0; have zl : w5.cell? ⟨bl, 0, none⟩ = some (.slice _ n c) := Blk.cell H5.h2 0; have zf : w5.frozen? ⟨bl, 0, none⟩ = false := Blk.frozen H5.h2 0; clear H4 y0)
    have H6 : Sep w0 (w5.setCell ⟨bl, 0, none⟩ (.slice (some ⟨g5, 0, none⟩) (n + 1) c5)) (Res.row (.slice (some ⟨g5, 0, none⟩) (n + 1) c5) 25 1 (n + 1) (vs ++ [.slice none 0 0]) :: Res.box bs 25 #[.slice As s.length cs] :: Res.box bl 38 #[.slice (some ⟨g5, 0, none⟩) (n + 1) c5] :: Res.shps P :: Res.row (.slice As s.length cs) 49 2 s.length (cc s) :: K) := (H5.g2.set_ 0 _).p2
    clear H5 zl zf
    generalize w5.setCell ⟨bl, 0, none⟩ (.slice (some ⟨g5, 0, none⟩) (n + 1) c5) = w6 at *
    have y1 : w6.drew.cell? ⟨bl, 0, none⟩ = some (.slice (some ⟨g5, 0, none⟩) (n + 1) c5) := H6.h2.cell 0
    obtain ⟨q, hq⟩ : ∃ q, q = k + 1 := ⟨_, rfl⟩
    have e1 : (k : Int) + 1 = (q : Int) := by omega
    have e2 : IntKind.i64.wrap ((k : Int) + 1) = (q : Int) := by rw [e1]; exact IntWalk.i64_in _ (by omega)
    have t1 : (0 : Int) ≤ (k : Int) := by omega
    have t2 : (k : Int) ≤ (c5 : Int) := by omega
    have t3 : (k : Int) ≤ ((n + 1 : Nat) : Int) := by omega
    have t4 : ((n + 1 : Nat) : Int) ≤ (c5 : Int) := by omega
    have t5 : (0 : Int) ≤ (q : Int) := by omega
    have t6 : (q : Int) ≤ (c5 : Int) := by omega
    have t7 : (q : Int) ≤ ((n + 1 : Nat) : Int) := by omega
    have hkc : ¬ c5 = k := by omega
    have HQ := Lib.hid hq
    clear hq
    have hcl : (vs.drop k).length = n - k := by rw [List.length_drop, HVN.out]
    have hfit : k + 1 + (vs.drop k).length ≤ n + 1 := by omega
    have hone : ∀ u ∈ vs.drop k, u.oneCell' = true := fun u hu => shps_one H6.h3 u (by rw [← HV.out]; exact List.mem_of_mem_drop hu)
    have hsrc : ∀ (j : Nat) (u : Value), (vs.drop k)[j]? = some u → w6.drew.cell? ⟨g5, 0 + (k + j), none⟩ = some u := fun j u hu => own_cell H6.drew.h0 (by
      rw [List.getElem?_drop] at hu
      rw [List.getElem?_append_left (by have := (List.getElem?_eq_some_iff.1 hu).1; exact this)]
      exact hu)
    have HF := Lib.hid (And.intro hcl (And.intro hfit (And.intro hone hsrc)))
    clear hcl hfit hone hsrc
    by_cases hqc : c5 = q
    · go_wp2_with fail
      refine wp_region_stq 7 (by kernel_rfl) (by kernel_rfl) ?_
      simp only [List.take_succ_cons, List.take_zero, List.drop_succ_cons, List.drop_zero]
      repeat (first | go_big_quiet_skip | (go_big_quiet_want; go_big_quiet_op; first | go_big_quiet_on | (apply Exists.intro; refine ⟨?_, ?_⟩; focus (fail); go_big_quiet_on)))
      refine wpQuiet_nil ?_
      refine wpList_copy_row rfl _ _ _ _ rfl 25 Tryz.underlying38 (by kernel_rfl) _ _ _ _ _ _ (by rfl) (by rfl) H6.drew (k + 1) (vs.drop k) ?hn ?hpos HF.out.2.1 HF.out.2.2.1 ?_
      case hn => (have h1 := HF.out.1; have h2 := HQ.out; show _ = min _ _; omega)
      case hpos => (intro h0; exfalso; have h1 := HF.out.1; have h2 := HQ.out; omega)
      intro w7 H7
      have hkL : k ≤ vs.length := by rw [HVN.out]; exact hkn
      have hU : (splice (vs ++ [Value.slice none 0 0]) (k + 1) (vs.drop k)).set k (.slice As s.length cs) = vs.take k ++ .slice As s.length cs :: vs.drop k := splice_put hkL
      have x1 : w7.cell? ⟨bl, 0, none⟩ = some (.slice (some ⟨g5, 0, none⟩) (n + 1) c5) := H7.h2.cell 0
      have x2 : w7.cell? ⟨bs, 0, none⟩ = some (.slice As s.length cs) := H7.h1.cell 0
      have xf : w7.frozen? ⟨g5, k, none⟩ = false := by have := own_free H7.h0 k; rwa [Nat.zero_add] at this
      obtain ⟨y, hy⟩ : ∃ y, (splice (vs ++ [Value.slice none 0 0]) (k + 1) (vs.drop k))[k]? = some y := ⟨_, List.getElem?_eq_getElem (by have := H7.h0.1; omega)⟩
      have x3 : w7.cell? ⟨g5, k, none⟩ = some y := by have := own_cell H7.h0 hy; rwa [Nat.zero_add] at this
      clear hy
      have h8 := H7.setRow (j := k) (by have := H7.h0.1; omega) (.slice As s.length cs)
      rw [hU, Nat.zero_add] at h8
      have x4 : (w7.setCell ⟨g5, k, none⟩ (.slice As s.length cs)).cell? ⟨bl, 0, none⟩ = some (.slice (some ⟨g5, 0, none⟩) (n + 1) c5) := h8.h2.cell 0
      have h9 := (h8.drop2.drop2.g2.g2.shpsIns rfl k).g1
      rw [HV.out, ← (pmap_ins (r := s)).1] at h9
      have HP2 : Hid ((P.take k ++ (Value.slice As s.length cs, s) :: P.drop k).map Prod.snd = insS s M) := Lib.hid (by rw [HI2.out HNO.out, HM.out, map_ins])
      have HL2 : Hid (n + 1 = (P.take k ++ (Value.slice As s.length cs, s) :: P.drop k).length) := Lib.hid (by rw [List.length_append, List.length_cons, List.length_take, List.length_drop, ← HN.out]; omega)
      have H9 := Lib.hid h9
      generalize P.take k ++ (Value.slice As s.length cs, s) :: P.drop k = P2 at *
      clear h9
      have e3 : (k : Int) < ((n + 1 : Nat) : Int) := by omega
      have e4 : k < n + 1 := by omega
      clear H6 H7 HF hU hqc t1 t2 t3 t4 t5 t6 t7 e1 e2 HQ hkc y1
      go_wp2_with fail
      go_ret
      exact ⟨_, P2, rfl, HP2.out, by rw [← HL2.out]; exact H9.out⟩
    · go_wp2_with fail
      refine wp_region_stq 7 (by kernel_rfl) (by kernel_rfl) ?_
      simp only [List.take_succ_cons, List.take_zero, List.drop_succ_cons, List.drop_zero]
      repeat (first | go_big_quiet_skip | (go_big_quiet_want; go_big_quiet_op; first | go_big_quiet_on | (apply Exists.intro; refine ⟨?_, ?_⟩; focus (fail); go_big_quiet_on)))
      refine wpQuiet_nil ?_
      refine wpList_copy_row rfl _ _ _ _ rfl 25 Tryz.underlying38 (by kernel_rfl) _ _ _ _ _ _ (by rfl) (by rfl) H6.drew (k + 1) (vs.drop k) ?hn ?hpos HF.out.2.1 HF.out.2.2.1 ?_
      case hn => (have h1 := HF.out.1; have h2 := HQ.out; show _ = min _ _; omega)
      case hpos => (intro h0; refine ⟨by rw [← HQ.out], _, rfl, fun j u hu => ?_⟩; have h3 := HF.out.2.2.2 j u hu; rw [Nat.zero_add] at h3; rw [show (⟨g5, k, none⟩ : Addr).add j = ⟨g5, k + j, none⟩ by unfold Addr.add; split <;> simp_all]; exact h3)
      intro w7 H7
      have hkL : k ≤ vs.length := by rw [HVN.out]; exact hkn
      have hU : (splice (vs ++ [Value.slice none 0 0]) (k + 1) (vs.drop k)).set k (.slice As s.length cs) = vs.take k ++ .slice As s.length cs :: vs.drop k := splice_put hkL
      have x1 : w7.cell? ⟨bl, 0, none⟩ = some (.slice (some ⟨g5, 0, none⟩) (n + 1) c5) := H7.h2.cell 0
      have x2 : w7.cell? ⟨bs, 0, none⟩ = some (.slice As s.length cs) := H7.h1.cell 0
      have xf : w7.frozen? ⟨g5, k, none⟩ = false := by have := own_free H7.h0 k; rwa [Nat.zero_add] at this
      obtain ⟨y, hy⟩ : ∃ y, (splice (vs ++ [Value.slice none 0 0]) (k + 1) (vs.drop k))[k]? = some y := ⟨_, List.getElem?_eq_getElem (by have := H7.h0.1; omega)⟩
      have x3 : w7.cell? ⟨g5, k, none⟩ = some y := by have := own_cell H7.h0 hy; rwa [Nat.zero_add] at this
      clear hy
      have h8 := H7.setRow (j := k) (by have := H7.h0.1; omega) (.slice As s.length cs)
      rw [hU, Nat.zero_add] at h8
      have x4 : (w7.setCell ⟨g5, k, none⟩ (.slice As s.length cs)).cell? ⟨bl, 0, none⟩ = some (.slice (some ⟨g5, 0, none⟩) (n + 1) c5) := h8.h2.cell 0
      have h9 := (h8.drop2.drop2.g2.g2.shpsIns rfl k).g1
      rw [HV.out, ← (pmap_ins (r := s)).1] at h9
      have HP2 : Hid ((P.take k ++ (Value.slice As s.length cs, s) :: P.drop k).map Prod.snd = insS s M) := Lib.hid (by rw [HI2.out HNO.out, HM.out, map_ins])
      have HL2 : Hid (n + 1 = (P.take k ++ (Value.slice As s.length cs, s) :: P.drop k).length) := Lib.hid (by rw [List.length_append, List.length_cons, List.length_take, List.length_drop, ← HN.out]; omega)
      have H9 := Lib.hid h9
      generalize P.take k ++ (Value.slice As s.length cs, s) :: P.drop k = P2 at *
      clear h9
      have e3 : (k : Int) < ((n + 1 : Nat) : Int) := by omega
      have e4 : k < n + 1 := by omega
      clear H6 H7 HF hU hqc t1 t2 t3 t4 t5 t6 t7 e1 e2 HQ hkc y1
      go_wp2_with fail
      go_ret
      exact ⟨_, P2, rfl, HP2.out, by rw [← HL2.out]; exact H9.out⟩
set_option maxRecDepth 100000 in
theorem impl_put_c {n cs : Nat} {lv : Value} {As : Option Addr} {s : List Cell} {P : List (Value × List Cell)} {w0 w : World} (H : Sep w0 w [Res.row lv 25 1 n (P.map Prod.fst), Res.shps P, Res.row (.slice As s.length cs) 49 2 s.length (cc s)])
    (hn : n = P.length) (hn8 : n ≤ 900000) (hs : s.length ≤ 64) (hP : ∀ p ∈ P, p.2.length ≤ 64) (hS : SrtS (P.map Prod.snd)) :
    Calls Tryz.prog 198 #[lv, .slice As s.length cs] w fun e w' => ∃ v' P', e = .returned v' ∧ P'.map Prod.snd = insS s (P.map Prod.snd) ∧ Sep w0 w' [Res.row v' 25 1 P'.length (P'.map Prod.fst), Res.shps P'] := impl_putK_c H hn hn8 hs hP hS
end Go.Proofs.YtjkppigjajknaaaGreatDoor
