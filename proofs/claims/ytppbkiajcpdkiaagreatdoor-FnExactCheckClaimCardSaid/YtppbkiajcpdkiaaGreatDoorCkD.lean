
/-
  The submasks of a mask: the program's walk (lines turned out of PkBX, for claims that do not want the rest of it). Does a mask block; the bits of a mask: copies of PkBX's walks (never import both). IsBlocking: both walks.
-/
import Derived.Test.YtppbkiajcpdkiaaGreatDoorCkA
import Derived.Test.YtppbkiajcpdkiaaGreatDoorSepX
import Derived.Test.YtppbkiajcpdkiaaGreatDoorMskX
import Derived.Deep.DeepCutAuto
import Derived.Test.YtppbkiajcpdkiaaGreatDoorCkC
namespace Go.Proofs.YtppbkiajcpdkiaaGreatDoor
open Go.RowKit

section
variable {P : Program} {w0 w w' : World} {L : List Res}
theorem run_append_two (t ty e : TypeId) (i : TypeInfo) (z : Value) (size bytes : Nat) (ht : P.underlying t = some (.slice e)) (hi : P.info? e = some i) (hz : i.zero = some z)
    (hsize : i.size = size) (hby : i.bytes = bytes) (hzs : z.cells.size = size)
    (g n cap : Nat) (xs : List Value) (hown : w.ownsRow 0 e size (.slice (some ⟨g, 0, none⟩) n cap) n xs)
    (a : Addr) (m c : Nat) (news : List Value) (hl : news.length = m * size) (hnews : ∀ j u, news[j]? = some u → w.cell? (a.add j) = some u) (h1 : ∀ u ∈ news, u.oneCell' = true)
    (h63 : n + m ≤ maxLen) (hbytes : (n + m) * bytes ≤ 140737488355328) :
    ∃ v' w', (Builtin.append_ #[t, t] ty #[.slice (some ⟨g, 0, none⟩) n cap, .slice (some a) m c]).run P w = .ok v' w' ∧ w'.ownsRow 0 e size v' (n + m) (xs ++ news) ∧
      ((v' = .slice (some ⟨g, 0, none⟩) (n + m) cap ∧ w.grownBy w' (some g)) ∨ (v'.ownBlock = some w.heap.size ∧ Below w.heap.size w w')) := by
  subst hsize
  subst hby
  have hsmall : n + m ≤ 9223372036854775807 := by simp only [maxLen] at h63; omega
  have hlen : (xs ++ news).length = (n + m) * i.size := by rw [List.length_append, hown.1, hl, Nat.add_mul]
  rcases hown.2 with ⟨h, _⟩ | ⟨g', cap', cur, he, hbg, hg, hnc, hcm, hcs, htake⟩
  · cases h
  · injection he with e1 e2 e3
    injection e1 with e1
    injection e1 with e1
    subst e1
    subst e3
    by_cases hroom : n + m ≤ cap
    · have hfit : n * i.size + news.length ≤ cur.size := by rw [hl, hcs, ← Nat.add_mul]; exact Nat.mul_le_mul_right _ hroom
      have hr := run_append_room (P := P) w t ty e i ht hi g n cap cur hg a m c news hl hnews h1 hroom hfit
      refine ⟨_, _, hr, ⟨hlen, .inr ⟨g, cap, _, rfl, hbg, setRow_heap w g cur _ e _ hg, hroom, hcm, ?_, ?_⟩⟩, .inl ⟨rfl, ⟨rfl, rfl, rfl, by simp, fun k _ hk => setRow_other w g k _ (fun e => hk (by rw [e]))⟩⟩⟩
      · simp only [List.size_toArray, List.length_append, List.length_take, List.length_drop, Array.length_toList]
        omega
      · rw [htake, ← hlen]
        exact List.take_left
    · have holds : ∀ j u, xs[j]? = some u → w.cell? ((⟨g, 0, none⟩ : Addr).add j) = some u := hown.cells (g := g) rfl
      have hr := run_append_grow (P := P) w t ty e i z ht hi hz ⟨g, 0, none⟩ n cap xs hown.1 holds a m c news hl hnews (by omega) (by omega) (growslice_fits (by omega) hbytes)
      have hge := grownCap_ge w (n + m) cap e
      have hcm2 : grownCap w (n + m) cap e ≤ maxLen := grownCap_le_maxLen w (n + m) cap e h63
      refine ⟨_, _, hr, ⟨hlen, .inr ⟨w.heap.size, _, _, rfl, Nat.zero_le _, heap_alloc_new w.drew _, hge, hcm2, ?_, ?_⟩⟩, .inr ⟨rfl, (below_drew (Below.refl _ _)).alloc (Nat.le_refl _) _⟩⟩
      · simp only [Array.size_append, List.size_toArray, size_zeroCells, hzs, hown.1, hl, ← Nat.add_mul]
        congr 1
        omega
      · simp only [Array.toList_append, List.append_assoc]
        rw [← List.append_assoc, ← hlen]
        exact List.take_left
/-- a row that grows, and an older slice of its first cells -/
def SubI (e : TypeId) (w0 w : World) (b : Nat) (X : List Value) (ov : Value) (k : Nat) (M : List Value) : Prop :=
  (∃ cap, ov = .slice (some ⟨b, 0, none⟩) k cap ∧ Sep w0 w [Res.row ov e 1 k M]) ∨ ∃ (q : Nat) (cur : Array Value), cur.toList.take q = X ∧ Sep w0 w [Res.row ov e 1 k M, Res.obj b (.cells cur e (0, 0))]
theorem SubI.sep {e : TypeId} {b k : Nat} {X M : List Value} {ov : Value} (h : SubI e w0 w b X ov k M) : Sep w0 w [Res.row ov e 1 k M] := by
  rcases h with ⟨_, _, H⟩ | ⟨_, _, _, H⟩
  · exact H
  · exact H.drop2
theorem SubI.step {e : TypeId} {b k : Nat} {X M : List Value} {ov : Value} (h : SubI e w0 w b X ov k M) (hb : Below w.heap.size w w') : SubI e w0 w' b X ov k M := by
  rcases h with ⟨c, he, H⟩ | ⟨q, cur, hc, H⟩
  · exact .inl ⟨c, he, H.step hb⟩
  · exact .inr ⟨q, cur, hc, H.step hb⟩
theorem SubI.start {e : TypeId} {b k c : Nat} {X M : List Value} (H : Sep w0 w [Res.row (.slice (some ⟨b, 0, none⟩) k c) e 1 k M]) : SubI e w0 w b X (.slice (some ⟨b, 0, none⟩) k c) k M := .inl ⟨c, rfl, H⟩
theorem SubI.cell {e : TypeId} {b k j : Nat} {X M : List Value} {ov u : Value} (h : SubI e w0 w b X ov k M) (h1 : X[j]? = some u) (h2 : M[j]? = some u) : w.cell? ⟨b, j, none⟩ = some u := by
  rcases h with ⟨c, rfl, H⟩ | ⟨q, cur, hc, H⟩
  · have := own_cell H.h0 h2
    rwa [Nat.zero_add] at this
  · rw [cell_of_row w b j cur e (0, 0) H.h1]
    rw [← hc, List.getElem?_take] at h1
    split at h1
    · simpa using h1
    · cases h1
theorem SubI.lt {e : TypeId} {b k : Nat} {X M : List Value} {ov : Value} (h : SubI e w0 w b X ov k M) : b < w.heap.size := by
  rcases h with ⟨c, rfl, H⟩ | ⟨q, cur, hc, H⟩
  · exact own_lt H.h0 b rfl
  · exact (Array.getElem?_eq_some_iff.1 H.h1).1
theorem SubI.app {t ty e : TypeId} (i : TypeInfo) (z : Value) (bytes : Nat) (ht : P.underlying t = some (.slice e)) (hi : P.info? e = some i) (hz : i.zero = some z)
    (hsize : i.size = 1) (hby : i.bytes = bytes) (hzs : z.cells.size = 1)
    {b k : Nat} {X M : List Value} {ov u : Value} (h : SubI e w0 w b X ov k M) (hX : ∀ (j : Nat) (x : Value), X[j]? = some x → M[j]? = some x)
    {lo hi' : Nat} {a : Addr} (c : Nat) (hr : Rd w lo hi' 1 (some a) 1 [u]) (h1 : u.oneCell' = true)
    (h63 : k + 1 ≤ maxLen) (hbytes : (k + 1) * bytes ≤ 140737488355328) :
    ∃ v' w', (Builtin.append_ #[t, t] ty #[ov, .slice (some a) 1 c]).run P w = .ok v' w' ∧ SubI e w0 w' b X v' (k + 1) (M ++ [u]) := by
  have h11 : ∀ x ∈ [u], x.oneCell' = true := by intro x hx; simp at hx; subst hx; exact h1
  have hnews : ∀ j v, [u][j]? = some v → w.cell? (a.add j) = some v := by
    intro j v hv
    obtain ⟨s, off, h, _, _, hc⟩ := hr.2 (by decide)
    injection h with h
    subst h
    have hadd : (⟨s, off, none⟩ : Addr).add j = ⟨s, off + j, none⟩ := by unfold Addr.add; split <;> simp_all
    rw [hadd]
    exact hc j v hv
  rcases h with ⟨cap, rfl, H⟩ | ⟨q, cur, hc, H⟩
  · obtain ⟨v', w', hr2, ho, hcase⟩ := run_append_two (P := P) t ty e i z 1 bytes ht hi hz hsize hby hzs b k cap M H.h0 a 1 c [u] rfl hnews h11 h63 hbytes
    refine ⟨v', w', hr2, ?_⟩
    rcases hcase with ⟨rfl, hg⟩ | ⟨hv, hb⟩
    · exact .inl ⟨cap, rfl, H.app ho hg (.inl rfl)⟩
    · have hrow : ∃ cur : Array Value, w.heap[b]? = some (.cells cur e (0, 0)) ∧ cur.toList.take M.length = M := by
        have hown : w.ownsRow 0 e 1 (.slice (some ⟨b, 0, none⟩) k cap) k M := H.h0
        rcases hown.2 with ⟨h, _⟩ | ⟨g', cap', cur, he, _, hg, _, _, _, htake⟩
        · cases h
        · injection he with e1 e2 e3
          injection e1 with e1
          injection e1 with e1
          subst e1
          exact ⟨cur, hg, by rw [hown.1]; exact htake⟩
      obtain ⟨cur, hg, htk⟩ := hrow
      have H2 : Sep w0 w [Res.obj b (.cells cur e (0, 0))] := H.say (fun _ => hg) (fun x hx => by have hx : x = b := hx; subst hx; rfl)
      have hXM : X = M.take X.length := by
        apply List.ext_getElem?
        intro j
        rw [List.getElem?_take]
        split
        · rename_i hj
          obtain ⟨x, hx⟩ : ∃ x, X[j]? = some x := ⟨X[j]'hj, List.getElem?_eq_getElem _⟩
          rw [hx, hX j x hx]
        · rename_i hj
          exact List.getElem?_eq_none (by omega)
      refine .inr ⟨min X.length M.length, cur, ?_, H2.new hb ho (fun x hx => ?_)⟩
      · have e1 : cur.toList.take (min X.length M.length) = (cur.toList.take M.length).take X.length := by rw [List.take_take]
        rw [e1, htk]
        exact hXM.symm
      · have hx : v'.ownBlock = some x := hx
        rw [hv] at hx
        injection hx with hx
        omega
  · obtain ⟨v', w', hr2, H2⟩ := H.run_app (P := P) t ty e i z 1 bytes ht hi hz hsize hby hzs (by decide) c hr h11 h63 hbytes
    exact ⟨v', w', hr2, .inr ⟨q, cur, hc, H2⟩⟩
theorem wpList_sub {ops : Array Oper} {rest : List Oper} {o : Oper} {a : Act} {Q : Exit → Act → World → Prop} (hgd : o.guard = none) (s x : Operand) (t : TypeId)
    (ho : o.op = .call { callee := .builtin .append, args := #[s, x], argTypes := #[t, t] })
    (e : TypeId) (i : TypeInfo) (z : Value) (bytes : Nat) (ht : P.underlying t = some (.slice e)) (hi : P.info? e = some i) (hz : i.zero = some z)
    (hsize : i.size = 1) (hby : i.bytes = bytes) (hzs : z.cells.size = 1)
    {b k : Nat} {X M : List Value} {ov u : Value} (hs : a.eval s = ov) (H : SubI e w0 w b X ov k M) (hX : ∀ (j : Nat) (x : Value), X[j]? = some x → M[j]? = some x)
    {lo hi' : Nat} {ad : Addr} (c : Nat) (hx : a.eval x = .slice (some ad) 1 c) (hr : Rd w lo hi' 1 (some ad) 1 [u]) (h1 : u.oneCell' = true)
    (h63 : k + 1 ≤ maxLen) (hbytes : (k + 1) * bytes ≤ 140737488355328)
    (h : ∀ v' w', SubI e w0 w' b X v' (k + 1) (M ++ [u]) → wpList P ops Q rest (a.put o.dst v') w') : wpList P ops Q (o :: rest) a w := by
  refine wpList_plain hgd fun K hK => ?_
  obtain ⟨v', w', hr', h2⟩ := H.app (P := P) (t := t) (ty := o.type) i z bytes ht hi hz hsize hby hzs hX c hr h1 h63 hbytes
  unfold Oper.wp execOp
  simp only [ho, resolve, invoke, builtin, Sem.run_bind, Sem.run_pure, Result.andThen_ok, List.map_toArray, List.map_cons, List.map_nil, hs, hx, hr']
  exact hK _ _ (h v' w' h2)
end
end Go.Proofs.YtppbkiajcpdkiaaGreatDoor

namespace Go.Proofs.YtppbkiajcpdkiaaGreatDoor
open Go.RowKit

theorem nlZ2 {A B : List Nat} : nl (A ++ B) = nl A ++ nl B := by simp [nl]
theorem subs_len_le {m : Nat} (h : cntB m ≤ 16) : ∀ {k : Nat}, k ≤ 36 → (subs m k).length ≤ 65536 := by
  intro k hk
  rw [subs_len, bitsTo_cnt]
  have h1 : cntTo m k ≤ cntB m := by
    unfold cntB
    obtain ⟨d, hd⟩ : ∃ d, 36 = k + d := ⟨36 - k, by omega⟩
    rw [hd]
    have : ∀ d, cntTo m k ≤ cntTo m (k + d) := fun d => by
      induction d with
      | zero => exact Nat.le_refl _
      | succ d ih => exact Nat.le_trans ih (Nat.le_add_right _ _)
    exact this d
  exact Nat.pow_le_pow_right (by decide) (Nat.le_trans h1 h)
theorem or_pow_num {x k : Nat} (hx : x < 2 ^ 36) (hk : k < 36) : bits .or .i64 (x : Int) (wrap64 (2 ^ k)) = ((x ||| 2 ^ k : Nat) : Int) := by
  have hp : 2 ^ k < 68719476736 := Nat.pow_lt_pow_right (n := 36) (by decide) hk
  have := or_step (a := x) (m := 1) (p := k) (by omega) (by omega)
  simpa using this
set_option maxRecDepth 100000 in
set_option maxHeartbeats 1600000 in
theorem subs_c {m : Nat} (w : World) (hm : m < 2 ^ 36) (hc : cntB m ≤ 16) :
    Calls Tryz.prog 52 #[.int .i64 m] w fun e w' => ∃ v', e = .returned v' ∧ IntsIn w' w.heap.size w'.heap.size v' (nl (subs m 36)) ∧ Below w.heap.size w w' := by
  obtain ⟨j0, hj, hy0, hy1, hy2⟩ := info_parts infoIntZ
  have HM := Lib.hid hm
  have HC := Lib.hid hc
  obtain ⟨h0, hh0⟩ : ∃ h0, h0 = w.heap.size := ⟨_, rfl⟩
  have H0 := (Sep.start w).rowBox 3 #[.int .i64 0] 1 1 rfl (by decide)
  rw [← hh0] at H0
  have hm36 : m < 68719476736 := hm
  clear hm hc
  go_enter Tryz.func52, Tryz.ntmps52
  go_upto_region 2 with fail
  rw [← hh0]
  generalize (w.alloc (.cells #[.int .i64 0] 3)) = W at *
  clear hh0
  go_wp2
  go_loopw [3, 4] (fun ov kv wx => ∃ (k n : Nat) (S : List Nat) (ow : Value), k ≤ 36 ∧ kv = .int .i64 k ∧ ov = ow ∧ 1 ≤ n ∧ n ≤ 65536 ∧ Hid (n = S.length) ∧ Hid (S = subs m k) ∧ Sep w wx [Res.row ow 3 1 n (ic (nl S))]) (fun _ kv _ => 37 - (intOf kv).toNat)
  case atStart => exact ⟨0, 1, [0], _, by omega, rfl, rfl, Nat.le_refl _, by omega, Lib.hid rfl, Lib.hid rfl, H0⟩
  case round =>
    clear H0
    obtain ⟨k, n, S, ow, hk, rfl, rfl, hn1, hn6, HN, HS, H⟩ := hrel
    by_cases hz : (m : Int) / 2 ^ k = 0
    · have hzd : ((m : Int) / 2 ^ k != 0) = false := by simpa using hz
      have HE : Hid (subs m 36 = S) := Lib.hid (by
        obtain ⟨d, hd⟩ : ∃ d, 36 = k + d := ⟨36 - k, by omega⟩
        rw [hd, subs_top (shr_zero.1 hz), HS.out])
      clear hz
      go_wp2
      go_ret
      refine ⟨_, rfl, ?_, H.below⟩
      rw [HE.out]
      unfold IntsIn
      rw [show (nl S).length = n by simp [nl]; exact HN.out.symm]
      exact H.oi
    · have hzd : ((m : Int) / 2 ^ k != 0) = true := by simpa using hz
      have hk35 : k < 36 := by
        rcases Nat.lt_or_ge k 36 with h | h
        · exact h
        · obtain rfl : k = 36 := by omega
          exact absurd (shr_zero.2 HM.out) hz
      have hbit := bit_test (m := m) (x := k) (by omega)
      clear hz
      cases hb2 : m.testBit k
      · rw [hb2] at hbit
        have HS2 : Hid (S = subs m (k + 1)) := Lib.hid (by rw [subs_f hb2]; exact HS.out)
        clear hb2
        go_wp2
        go_roundw
        case rel => exact ⟨k + 1, n, S, _, by omega, by go_num, rfl, hn1, hn6, HN, HS2, H⟩
        case measure => simp [intOf]; omega
      · rw [hb2] at hbit
        have HS2 : Hid (S ++ S.map (· ||| 2 ^ k) = subs m (k + 1)) := Lib.hid (by rw [subs_t hb2, ← HS.out])
        have HN2 : Hid (n + n ≤ 65536) := Lib.hid (by
          have h1 := subs_len_le HC.out (k := k + 1) (by omega)
          rw [← HS2.out, List.length_append, List.length_map, ← HN.out] at h1
          exact h1)
        have HSL : Hid (∀ x ∈ S, x < 2 ^ 36) := Lib.hid (fun x hx => by
          have h1 : x < 2 ^ k := subs_lt (by rw [← HS.out]; exact hx)
          exact Nat.lt_of_lt_of_le h1 (Nat.pow_le_pow_right (by decide) (by omega)))
        obtain ⟨b, o, c, rfl, hnc, hcm, _⟩ := own_shape H.h0 (by omega)
        obtain ⟨rfl, _⟩ := own_blk H.h0
        have HB : Hid (SubI 3 w wr b (ic (nl S)) (.slice (some ⟨b, 0, none⟩) n c) n (ic (nl S))) := Lib.hid (SubI.start H)
        have s0 : (n : Int) ≤ (c : Int) := by omega
        obtain ⟨wo, hwo⟩ : ∃ wo, wo = wr := ⟨_, rfl⟩
        subst hwo
        clear hb2 H
        go_wp2
        go_loopw [3, 26] (fun ov iv wx => ∃ (i : Nat) (ow : Value), i ≤ n ∧ iv = .int .i64 i ∧ ov = ow ∧ SubI 3 w wx b (ic (nl S)) ow (n + i) (ic (nl (S ++ (S.take i).map (· ||| 2 ^ k))))) (fun _ iv _ => n - (intOf iv).toNat)
        case atStart => exact ⟨0, _, Nat.zero_le _, rfl, rfl, by simpa using HB.out⟩
        case round =>
          obtain ⟨i, ow, hi, rfl, rfl, H⟩ := hrel
          by_cases hlt : i < n
          · have hlti : (i : Int) < (n : Int) := by omega
            obtain ⟨x, hx⟩ : ∃ x, S[i]? = some x := ⟨S[i]'(by rw [← HN.out]; exact hlt), List.getElem?_eq_getElem _⟩
            have hX1 : (ic (nl S))[i]? = some (.int .i64 (x : Int)) := by simp [ic, nl, hx]
            have HXM : Hid (∀ (j : Nat) (u : Value), (ic (nl S))[j]? = some u → (ic (nl (S ++ (S.take i).map (· ||| 2 ^ k))))[j]? = some u) := Lib.hid (fun j u hu => by
              rw [show ic (nl (S ++ (S.take i).map (· ||| 2 ^ k))) = ic (nl S) ++ ic (nl ((S.take i).map (· ||| 2 ^ k))) by rw [nlZ2, ic_append]]
              rw [List.getElem?_append_left (List.getElem?_eq_some_iff.1 hu).1]
              exact hu)
            have y0 := H.cell hX1 (HXM.out i _ hX1)
            have hbl := H.lt
            have hx36 : x < 2 ^ 36 := HSL.out x (List.mem_of_getElem? hx)
            have HOR := or_pow_num hx36 hk35
            obtain ⟨q, hq⟩ : ∃ q, q = x ||| 2 ^ k := ⟨_, rfl⟩
            rw [← hq] at HOR
            have HTK : Hid (ic (nl (S ++ (S.take (i + 1)).map (· ||| 2 ^ k))) = ic (nl (S ++ (S.take i).map (· ||| 2 ^ k))) ++ [.int .i64 (q : Int)]) := Lib.hid (by
              rw [List.take_add_one, hx, Option.toList_some, List.map_append, ← List.append_assoc, nlZ2, ic_append, hq]
              rfl)
            have HA := Lib.hid (fun o : Obj => H.step ((Below.refl wr.heap.size wr).alloc (Nat.le_refl _) o))
            have hn62 := HN2.out
            clear hx hX1 hq hx36 H
            go_wp2_with (at_builtin; refine wpList_sub rfl _ _ 27 rfl 3 j0 _ 8 Tryz.underlying27 hj hy0 hy1 hy2 rfl (u := .int .i64 (q : Int)) rfl (HA.out _) HXM.out _ rfl (Rd.fresh wr _ #[.int .i64 (q : Int)] 1 1 rfl) rfl (by unfold maxLen; omega) (by omega) ?_; intro v5 w5 H6)
            rw [← HTK.out] at H6
            go_roundw
            case rel => exact ⟨i + 1, _, by omega, by go_num, rfl, H6⟩
            case measure => simp [intOf]; omega
          · obtain rfl : i = n := by omega
            have HE : Hid (S ++ (S.take i).map (· ||| 2 ^ k) = subs m (k + 1)) := Lib.hid (by rw [← HS2.out, HN.out, List.take_length])
            have H1 := H.sep
            rw [HE.out] at H1
            have HL : Hid (i + i = (subs m (k + 1)).length) := Lib.hid (by rw [← HS2.out, List.length_append, List.length_map, ← HN.out])
            have hn62 := HN2.out
            clear H
            go_wp2
            go_roundw
            case rel => exact ⟨k + 1, i + i, subs m (k + 1), _, by omega, by go_num, rfl, by omega, hn62, HL, Lib.hid rfl, H1⟩
            case measure => simp [intOf]; omega
end Go.Proofs.YtppbkiajcpdkiaaGreatDoor

namespace Go.Proofs.YtppbkiajcpdkiaaGreatDoor
open Go.RowKit

set_option maxRecDepth 100000 in
theorem ones36_c (m : Nat) (w : World) (hm : m < 2 ^ 36) :
    Calls Tryz.prog 41 #[.int .u64 (m : Int)] w fun e w' => e = .returned (.int .i64 (cntB m : Int)) ∧ w = w' := by
  rw [← onesOf_cnt hm]
  exact onesg_c m w
end Go.Proofs.YtppbkiajcpdkiaaGreatDoor

namespace Go.Proofs.YtppbkiajcpdkiaaGreatDoor
open Go.RowKit

set_option maxRecDepth 100000 in
set_option maxHeartbeats 800000 in
theorem impl_blk_c {v : Value} {A : List Nat} {m : Nat} (w : World) (h : IntsRd w 0 w.heap.size v (nl A)) (hA : ∀ x ∈ A, x < 2 ^ 36) (hl : A.length ≤ 1000000) (hm : m < 2 ^ 36) :
    Calls Tryz.prog 146 #[v, .int .i64 m] w fun e w' => e = .returned (.bool (blkB A m)) ∧ w = w' := by
  obtain ⟨n, hn⟩ : ∃ n, n = A.length := ⟨_, rfl⟩
  have hnl : (nl A).length = n := by simp [nl]; exact hn.symm
  obtain ⟨Av, cv, rfl, _, _⟩ := id h
  rw [hnl] at h ⊢
  have HR := Lib.hid h
  have HN := Lib.hid hn
  have HA := Lib.hid hA
  have hn6 : n ≤ 1000000 := by rw [hn]; exact hl
  have hm36 : m < 68719476736 := hm
  obtain ⟨T, hT⟩ : ∃ T, T = blkB A m := ⟨_, rfl⟩
  rw [← hT]
  have HT := Lib.hid hT
  clear h hn hA hl hm hT hnl
  go_enter Tryz.func146, Tryz.ntmps146
  go_wp2
  go_loopw [9] (fun iv wx => ∃ i : Nat, i ≤ n ∧ iv = .int .i64 i ∧ Hid (∀ (j x : Nat), j < i → A[j]? = some x → x &&& m ≠ 0) ∧ w = wx) (fun iv _ => n - (intOf iv).toNat)
  case atStart => exact ⟨0, Nat.zero_le _, rfl, Lib.hid (fun j x hj => absurd hj (Nat.not_lt_zero _)), rfl⟩
  case round =>
    obtain ⟨i, hin, rfl, HK, rfl⟩ := hrel
    by_cases hil : i < n
    · have hili : (i : Int) < (n : Int) := by omega
      obtain ⟨x, hx⟩ : ∃ x, A[i]? = some x := ⟨A[i]'(by rw [← HN.out]; exact hil), List.getElem?_eq_getElem _⟩
      obtain ⟨b, off, rfl, hb, y0⟩ := ints_atZ HR.out (show (nl A)[i]? = some (x : Int) by simp [nl, hx])
      have hx36 : x < 68719476736 := HA.out x (List.mem_of_getElem? hx)
      have hand := i64_and_nat x m (by omega) (by omega)
      obtain ⟨a, ha⟩ : ∃ a, a = x &&& m := ⟨_, rfl⟩
      rw [← ha] at hand
      have HX := Lib.hid hx
      have HAA := Lib.hid ha
      clear hx ha
      by_cases hz : a = 0
      · subst hz
        have hz1 : (((0 : Nat) : Int) == 0) = true := rfl
        obtain rfl : T = false := by rw [HT.out]; exact blkB_no HX.out HAA.out.symm
        go_wp2
        go_ret
        exact ⟨rfl, rfl⟩
      · have hz1 : ((a : Int) == 0) = false := by simp; omega
        have HK2 : Hid (∀ (j x : Nat), j < i + 1 → A[j]? = some x → x &&& m ≠ 0) := Lib.hid (fun j y hj hy => by
          by_cases e : j = i
          · subst e
            rw [HX.out] at hy
            injection hy with hy
            rw [← hy, ← HAA.out]
            exact hz
          · exact HK.out j y (by omega) hy)
        clear hz
        go_wp2
        go_roundw
        case rel => exact ⟨i + 1, by omega, by go_num, HK2, trivial⟩
        case measure => simp [intOf]; omega
    · obtain rfl : i = n := by omega
      obtain rfl : T = true := by
        rw [HT.out]
        exact blkB_yes fun j x hj => HK.out j x (by rw [HN.out]; exact (List.getElem?_eq_some_iff.1 hj).1) hj
      go_wp2
      go_ret
      exact ⟨rfl, rfl⟩
set_option maxRecDepth 100000 in
set_option maxHeartbeats 800000 in
theorem spec_blk_c {v : Value} {A : List Nat} {m : Nat} (w : World) (h : IntsRd w 0 w.heap.size v (nl A)) (hA : ∀ x ∈ A, x < 2 ^ 36) (hl : A.length ≤ 1000000) (hm : m < 2 ^ 36) :
    Calls Tryz.prog 134 #[v, .int .i64 m] w fun e w' => e = .returned (.bool (blkB A m)) ∧ w = w' := by
  obtain ⟨n, hn⟩ : ∃ n, n = A.length := ⟨_, rfl⟩
  have hnl : (nl A).length = n := by simp [nl]; exact hn.symm
  obtain ⟨Av, cv, rfl, _, _⟩ := id h
  rw [hnl] at h ⊢
  have HR := Lib.hid h
  have HN := Lib.hid hn
  have HA := Lib.hid hA
  have hn6 : n ≤ 1000000 := by rw [hn]; exact hl
  have hm36 : m < 68719476736 := hm
  obtain ⟨T, hT⟩ : ∃ T, T = blkB A m := ⟨_, rfl⟩
  rw [← hT]
  have HT := Lib.hid hT
  clear h hn hA hl hm hT hnl
  go_enter Tryz.func134, Tryz.ntmps134
  go_wp2
  go_loopw [5] (fun iv wx => ∃ i : Nat, i ≤ n ∧ iv = .int .i64 i ∧ Hid (∀ (j x : Nat), j < i → A[j]? = some x → x &&& m ≠ 0) ∧ w = wx) (fun iv _ => n - (intOf iv).toNat)
  case atStart => exact ⟨0, Nat.zero_le _, rfl, Lib.hid (fun j x hj => absurd hj (Nat.not_lt_zero _)), rfl⟩
  case round =>
    obtain ⟨i, hin, rfl, HK, rfl⟩ := hrel
    by_cases hil : i < n
    · have hili : (i : Int) < (n : Int) := by omega
      obtain ⟨x, hx⟩ : ∃ x, A[i]? = some x := ⟨A[i]'(by rw [← HN.out]; exact hil), List.getElem?_eq_getElem _⟩
      obtain ⟨b, off, rfl, hb, y0⟩ := ints_atZ HR.out (show (nl A)[i]? = some (x : Int) by simp [nl, hx])
      have hx36 : x < 68719476736 := HA.out x (List.mem_of_getElem? hx)
      have hand := i64_and_nat x m (by omega) (by omega)
      obtain ⟨a, ha⟩ : ∃ a, a = x &&& m := ⟨_, rfl⟩
      rw [← ha] at hand
      have HX := Lib.hid hx
      have HAA := Lib.hid ha
      clear hx ha
      by_cases hz : a = 0
      · subst hz
        have hz1 : (((0 : Nat) : Int) == 0) = true := rfl
        obtain rfl : T = false := by rw [HT.out]; exact blkB_no HX.out HAA.out.symm
        go_wp2
        go_ret
        exact ⟨rfl, rfl⟩
      · have hz1 : ((a : Int) == 0) = false := by simp; omega
        have HK2 : Hid (∀ (j x : Nat), j < i + 1 → A[j]? = some x → x &&& m ≠ 0) := Lib.hid (fun j y hj hy => by
          by_cases e : j = i
          · subst e
            rw [HX.out] at hy
            injection hy with hy
            rw [← hy, ← HAA.out]
            exact hz
          · exact HK.out j y (by omega) hy)
        clear hz
        go_wp2
        go_roundw
        case rel => exact ⟨i + 1, by omega, by go_num, HK2, trivial⟩
        case measure => simp [intOf]; omega
    · obtain rfl : i = n := by omega
      obtain rfl : T = true := by
        rw [HT.out]
        exact blkB_yes fun j x hj => HK.out j x (by rw [HN.out]; exact (List.getElem?_eq_some_iff.1 hj).1) hj
      go_wp2
      go_ret
      exact ⟨rfl, rfl⟩
set_option maxRecDepth 100000 in
set_option maxHeartbeats 800000 in
theorem spec_bits_c {m : Nat} (w : World) (hm : m < 2 ^ 36) :
    Calls Tryz.prog 73 #[.int .i64 m] w fun e w' => e = .returned (.int .i64 (cntB m : Nat)) ∧ w = w' := by
  have HM := Lib.hid hm
  obtain ⟨T, hT⟩ : ∃ T, T = cntB m := ⟨_, rfl⟩
  rw [← hT]
  have HT := Lib.hid hT
  have hm36 : m < 68719476736 := hm
  have hmax : ∀ dd : Decidable (0 < m), @ite Int (0 < m) dd (m : Int) 0 = (m : Int) := fun dd => by by_cases h : 0 < m <;> simp [h]; omega
  clear hm hT
  go_enter Tryz.func73, Tryz.ntmps73
  go_wp2
  clear hmax
  go_loopw [3, 4] (fun nv xv wx => ∃ k n x : Nat, k ≤ 36 ∧ n ≤ k ∧ x < 68719476736 ∧ nv = .int .i64 n ∧ xv = .int .i64 x ∧ Hid (x = m / 2 ^ k) ∧ Hid (n = cntTo m k) ∧ w = wx) (fun _ xv _ => (intOf xv).toNat)
  case atStart => exact ⟨0, 0, m, by decide, by decide, hm36, rfl, rfl, Lib.hid (by simp), Lib.hid rfl, rfl⟩
  case round =>
    obtain ⟨k, n, x, hk, hn, hx36, rfl, rfl, HX, HN, rfl⟩ := hrel
    by_cases hx : 0 < x
    · have hxi : (0 : Int) < (x : Int) := by omega
      have hk36 : k < 36 := by
        rcases Nat.lt_or_ge k 36 with h | h
        · exact h
        · have h1 := HX.out
          have h2 : m / 2 ^ k = 0 := Nat.div_eq_of_lt (Nat.lt_of_lt_of_le HM.out (Nat.pow_le_pow_right (by decide) h))
          omega
      have hand : bits .and .i64 (x : Int) 1 = ((x % 2 : Nat) : Int) := by
        have := i64_and_nat x 1 (by omega) (by decide)
        rw [nat_mask1] at this
        exact this
      obtain ⟨b, hb⟩ : ∃ b, b = x % 2 := ⟨_, rfl⟩
      rw [← hb] at hand
      have hb2 : b < 2 := by rw [hb]; exact Nat.mod_lt _ (by decide)
      obtain ⟨y, hy⟩ : ∃ y, y = x / 2 := ⟨_, rfl⟩
      have hyx : y < x := by rw [hy]; omega
      have hdiv : (x : Int) / 2 = (y : Int) := by omega
      have HY : Hid (y = m / 2 ^ (k + 1)) := Lib.hid (by rw [hy, HX.out, Nat.pow_succ, Nat.div_div_eq_div_mul])
      have HN2 : Hid (n + b = cntTo m (k + 1)) := Lib.hid (by rw [cntTo, ← HN.out, hb, HX.out])
      clear hb hy
      go_wp2
      go_roundw
      case rel => exact ⟨k + 1, n + b, y, by omega, by omega, by omega, by go_num, by go_num, HY, HN2, trivial⟩
      case measure => simp [intOf]; omega
    · obtain rfl : x = 0 := by omega
      obtain rfl : T = n := by
        rw [HT.out, HN.out, cntB]
        obtain ⟨d, hd⟩ : ∃ d, 36 = k + d := ⟨36 - k, by omega⟩
        rw [hd]
        exact cntTo_up HX.out.symm d
      go_wp2
      go_ret
      exact ⟨rfl, rfl⟩
end Go.Proofs.YtppbkiajcpdkiaaGreatDoor

namespace Go.Proofs.YtppbkiajcpdkiaaGreatDoor
open Go.RowKit

/-- does a mask block? -/
def blkgB (r : Reg) (ps : List (List Cell)) (m : Int) : Bool := (r.valid && arePcs ps) && (r.isMask m && blkB (allN r ps) m.toNat)
theorem isMask_nat {r : Reg} (hv : r.Valid) {n : Int} (h : r.isMask n = true) : ∃ m : Nat, n = (m : Int) ∧ m < 2 ^ 36 ∧ m &&& r.mask = m := by
  unfold Reg.isMask at h
  simp only [Bool.and_eq_true, decide_eq_true_eq, beq_iff_eq] at h
  refine ⟨n.toNat, by omega, ?_, h.2⟩
  rw [← h.2]
  exact Nat.lt_of_le_of_lt Nat.and_le_right (Reg.mask_lt hv)
set_option maxRecDepth 100000 in
set_option maxHeartbeats 3200000 in
theorem impl_blkg_c {v v2 : Value} {r : Reg} {ps : List (List Cell)} (m : Int) (w : World) (h : RegRd w 0 w.heap.size v r) (h2 : CellSSRd w 0 w.heap.size v2 ps) (hm : m ≤ 9223372036854775807) (hn : ps.length ≤ 1048576) (hl : ∀ s ∈ ps, s.length ≤ 1048576) :
    Calls Tryz.prog 84 #[v, v2, .int .i64 m] w fun e w' => e = .returned (.bool (blkgB r ps m)) ∧ Below w.heap.size w w' := by
  have HRD : Hid (∀ w1, Below w.heap.size w w1 → RegRd w1 0 w1.heap.size v r) := Lib.hid fun w1 b1 => (h.keep (SameIn.of_below b1 (Nat.le_refl _))).more (Nat.le_refl _) b1.size
  have HR2 : Hid (∀ w1, Below w.heap.size w w1 → CellSSRd w1 0 w1.heap.size v2 ps) := Lib.hid fun w1 b1 => (h2.keep (SameIn.of_below b1 (Nat.le_refl _))).more (Nat.le_refl _) b1.size
  obtain ⟨T, hT⟩ : ∃ T, T = blkgB r ps m := ⟨_, rfl⟩
  rw [← hT]
  have HT := Lib.hid hT
  obtain ⟨sr, rfl, hsr⟩ := h
  obtain ⟨A0, c, rfl, _, _⟩ := hsr
  obtain ⟨vs0, ⟨A2, c2, rfl, _, _⟩, _⟩ := h2
  have H0 := (Sep.start w).box 29 #[.int .i64 r.w, .slice A0 r.rows.length c]
  obtain ⟨g, hg⟩ : ∃ g, g = w.heap.size := ⟨_, rfl⟩
  rw [← hg] at H0
  clear hT
  go_enter Tryz.func84, Tryz.ntmps84
  go_upto_region 1 with fail
  rw [← hg]
  generalize (w.alloc (.cells #[.int .i64 r.w, .slice A0 r.rows.length c] 29)) = W at *
  clear hg
  have c0 : W.cell? ⟨g, 0, none⟩ = some (.int .i64 r.w) := H0.h0.cell 0
  have c1 : W.cell? ⟨g, 1, none⟩ = some (.slice A0 r.rows.length c) := H0.h0.cell 1
  obtain ⟨K, hK⟩ : ∃ K, K = (r.valid && arePcs ps) := ⟨_, rfl⟩
  have HK := Lib.hid hK
  have HP := Lib.hid (impl_prob_c W (HRD.out W H0.below) (HR2.out W H0.below) hn hl)
  rw [← hK] at HP
  clear hK
  go_wp2_with fail
  refine (HP.out).mono ?_
  rintro e w1 ⟨rfl, b1⟩
  have H1 := H0.step b1
  clear c0 c1 H0 HP b1
  cases K
  · obtain rfl : T = false := by rw [HT.out, blkgB, ← HK.out]; rfl
    go_wp2
    go_ret
    exact ⟨rfl, H1.below⟩
  have hkk := HK.out.symm
  rw [Bool.and_eq_true] at hkk
  have HV := Lib.hid (Reg.valid_iff.1 hkk.1)
  have HAP := Lib.hid hkk.2
  obtain ⟨I, hI⟩ : ∃ I, I = r.isMask m := ⟨_, rfl⟩
  have HI := Lib.hid hI
  have HM := Lib.hid (isMask_c m w1 (HRD.out w1 H1.below) HV.out hm)
  rw [← hI] at HM
  have c0 : w1.cell? ⟨g, 0, none⟩ = some (.int .i64 r.w) := H1.h0.cell 0
  have c1 : w1.cell? ⟨g, 1, none⟩ = some (.slice A0 r.rows.length c) := H1.h0.cell 1
  clear hkk hI
  go_wp2_with fail
  refine (HM.out).mono ?_
  rintro e w2 ⟨rfl, b2⟩
  have H2 := H1.step b2
  clear c0 c1 H1 HM b2
  cases I
  · obtain rfl : T = false := by rw [HT.out, blkgB, ← HI.out, Bool.false_and, Bool.and_false]
    go_wp2
    go_ret
    exact ⟨rfl, H2.below⟩
  obtain ⟨k, rfl, hk36, _⟩ := isMask_nat HV.out HI.out.symm
  have HALL := Lib.hid (impl_all_c w2 (HRD.out w2 H2.below) (HR2.out w2 H2.below) HV.out HAP.out)
  rw [← nl_allN HV.out] at HALL
  have c0 : w2.cell? ⟨g, 0, none⟩ = some (.int .i64 r.w) := H2.h0.cell 0
  have c1 : w2.cell? ⟨g, 1, none⟩ = some (.slice A0 r.rows.length c) := H2.h0.cell 1
  go_wp2_with fail
  refine (HALL.out).mono ?_
  rintro e w3 ⟨va, rfl, oa, b3⟩
  have H3 := H2.step b3
  have ha : IntsRd w3 0 w3.heap.size va (nl (allN r ps)) := (IntsIn.rd oa).more (Nat.zero_le _) (Nat.le_refl _)
  have HCV := Lib.hid (impl_blk_c w3 ha (fun m hm => allN_lt HV.out m hm) (by have := allN_lenC HV.out HAP.out; omega) hk36)
  have hT2 : blkB (allN r ps) k = T := by rw [HT.out, blkgB, ← HK.out, ← HI.out, Bool.true_and, Bool.true_and, Int.toNat_natCast]
  rw [hT2] at HCV
  obtain ⟨Aa, ca, rfl, _, _⟩ := id ha
  clear c0 c1 H2 HALL b3 oa ha hT2 hk36
  go_wp2_with fail
  refine (HCV.out).mono ?_
  rintro e w4 ⟨rfl, rfl⟩
  go_wp2
  go_ret
  exact ⟨rfl, H3.below⟩
set_option maxRecDepth 100000 in
set_option maxHeartbeats 3200000 in
theorem spec_blkg_c {v v2 : Value} {r : Reg} {ps : List (List Cell)} (m : Int) (w : World) (h : RegRd w 0 w.heap.size v r) (h2 : CellSSRd w 0 w.heap.size v2 ps) (hm : I64 m) (hn : ps.length ≤ 1048576) (hl : ∀ s ∈ ps, s.length ≤ 1048576) :
    Calls Tryz.prog 72 #[v, v2, .int .i64 m] w fun e w' => e = .returned (.bool (blkgB r ps m)) ∧ Below w.heap.size w w' := by
  have HRD : Hid (∀ w1, Below w.heap.size w w1 → RegRd w1 0 w1.heap.size v r) := Lib.hid fun w1 b1 => (h.keep (SameIn.of_below b1 (Nat.le_refl _))).more (Nat.le_refl _) b1.size
  have HR2 : Hid (∀ w1, Below w.heap.size w w1 → CellSSRd w1 0 w1.heap.size v2 ps) := Lib.hid fun w1 b1 => (h2.keep (SameIn.of_below b1 (Nat.le_refl _))).more (Nat.le_refl _) b1.size
  have HAPC : Hid (∀ w1, Below w.heap.size w w1 → Calls Tryz.prog 106 #[v2] w1 fun e w' => e = .returned (.bool (arePcs ps)) ∧ Below w1.heap.size w1 w') := Lib.hid fun w1 b1 => spec_arePcs_c w1 (HR2.out w1 b1) hn hl
  obtain ⟨T, hT⟩ : ∃ T, T = blkgB r ps m := ⟨_, rfl⟩
  obtain ⟨K1, hK1⟩ : ∃ K, K = r.valid := ⟨_, rfl⟩
  obtain ⟨K2, hK2⟩ : ∃ K, K = arePcs ps := ⟨_, rfl⟩
  rw [← hT]
  rw [← hK2] at HAPC
  have HT := Lib.hid hT
  have HK1 := Lib.hid hK1
  have HK2 := Lib.hid hK2
  obtain ⟨sr, rfl, hsr⟩ := h
  obtain ⟨A0, c, rfl, _, _⟩ := hsr
  obtain ⟨vs0, ⟨A2, c2, rfl, _, _⟩, _⟩ := h2
  have H0 := (Sep.start w).box 29 #[.int .i64 r.w, .slice A0 r.rows.length c]
  obtain ⟨g, hg⟩ : ∃ g, g = w.heap.size := ⟨_, rfl⟩
  rw [← hg] at H0
  have HI64 := Lib.hid hm
  clear hT hK1 hK2 hm
  go_enter Tryz.func72, Tryz.ntmps72
  go_upto_region 1 with fail
  rw [← hg]
  generalize (w.alloc (.cells #[.int .i64 r.w, .slice A0 r.rows.length c] 29)) = W at *
  clear hg
  have c0 : W.cell? ⟨g, 0, none⟩ = some (.int .i64 r.w) := H0.h0.cell 0
  have c1 : W.cell? ⟨g, 1, none⟩ = some (.slice A0 r.rows.length c) := H0.h0.cell 1
  have HP := Lib.hid (spec_IsRegion_c W (HRD.out W H0.below))
  rw [← HK1.out] at HP
  go_wp2_with fail
  refine (HP.out).mono ?_
  rintro e w1 ⟨rfl, b1⟩
  have H1 := H0.step b1
  clear c0 c1 H0 HP b1
  cases K1
  · obtain rfl : T = false := by rw [HT.out, blkgB, ← HK1.out]; rfl
    go_wp2
    go_ret
    exact ⟨rfl, H1.below⟩
  have HP2 := Lib.hid (HAPC.out w1 H1.below)
  go_wp2_with fail
  refine (HP2.out).mono ?_
  rintro e w0 ⟨rfl, b2⟩
  replace H1 := H1.step b2
  clear HP2 b2 HAPC
  cases K2
  · obtain rfl : T = false := by rw [HT.out, blkgB, ← HK2.out, Bool.and_false]; rfl
    go_wp2
    go_ret
    exact ⟨rfl, H1.below⟩
  have HV := Lib.hid (Reg.valid_iff.1 HK1.out.symm)
  have HAP : Hid (arePcs ps = true) := Lib.hid HK2.out.symm
  have HBLK : Hid (T = (r.isMask m && blkB (allN r ps) m.toNat)) := Lib.hid (by rw [HT.out, blkgB, ← HK1.out, ← HK2.out]; rfl)
  have HMK : Hid (∀ w', Below w.heap.size w w' → Calls Tryz.prog 57 #[.agg #[.int .i64 r.w, .slice A0 r.rows.length c]] w' fun e w'' => e = .returned (.int .i64 (r.mask : Int)) ∧ Below w'.heap.size w' w'') := Lib.hid fun w' b => spec_mask_c w' (HRD.out w' b) HV.out
  have HM36 := Lib.hid (Reg.mask_lt HV.out)
  by_cases h0 : m < 0
  · have hd : decide (m < 0) = true := decide_eq_true h0
    obtain rfl : T = false := by rw [HBLK.out]; unfold Reg.isMask; rw [decide_eq_false (by omega)]; rfl
    clear h0
    go_wp2
    go_ret
    exact ⟨rfl, H1.below⟩
  have hd : decide (m < 0) = false := decide_eq_false h0
  obtain ⟨k, rfl⟩ : ∃ k : Nat, m = (k : Int) := ⟨m.toNat, by omega⟩
  have hk63 : k < 9223372036854775808 := by have := HI64.out; unfold I64 at this; omega
  have hand := i64_and_nat k r.mask (by omega) (by have := HM36.out; omega)
  have HIM : Hid (r.isMask (k : Int) = (k &&& r.mask == k)) := Lib.hid (by unfold Reg.isMask; rw [decide_eq_true (by omega), Bool.true_and, Int.toNat_natCast])
  obtain ⟨M, hM⟩ : ∃ M, M = r.mask := ⟨_, rfl⟩
  rw [← hM] at HMK HM36 hand HIM
  have HALL : Hid (∀ w', Below w.heap.size w w' → Calls Tryz.prog 108 #[.agg #[.int .i64 r.w, .slice A0 r.rows.length c], .slice A2 ps.length c2] w' fun e w'' => ∃ v', e = .returned v' ∧ IntsIn w'' w'.heap.size w''.heap.size v' (nl (allN r ps)) ∧ Below w'.heap.size w' w'') := Lib.hid fun w' b => by
    rw [nl_allN HV.out]
    exact spec_all_c w' (HRD.out w' b) (HR2.out w' b) HV.out HAP.out
  have c0 : w0.cell? ⟨g, 0, none⟩ = some (.int .i64 r.w) := H1.h0.cell 0
  have c1 : w0.cell? ⟨g, 1, none⟩ = some (.slice A0 r.rows.length c) := H1.h0.cell 1
  have HM1 := Lib.hid (HMK.out w0 H1.below)
  clear h0 hM HMK
  cases hs : (k &&& M == k)
  · have hne : (bits .and .i64 (k : Int) (M : Int) != (k : Int)) = true := by
      rw [hand]
      simp only [beq_eq_false_iff_ne, ne_eq] at hs
      simp only [bne_iff_ne, ne_eq]
      omega
    obtain rfl : T = false := by rw [HBLK.out, HIM.out, hs, Bool.false_and]
    clear hs hand
    go_wp2_with fail
    refine (HM1.out).mono ?_
    rintro e w3 ⟨rfl, b3⟩
    have H3 := H1.step b3
    clear c0 c1 H1 b3 HM1
    go_wp2
    go_ret
    exact ⟨rfl, H3.below⟩
  have hne : (bits .and .i64 (k : Int) (M : Int) != (k : Int)) = false := by
    rw [hand]
    simp only [beq_iff_eq] at hs
    rw [hs]
    simp
  have hk36 : k < 2 ^ 36 := by
    simp only [beq_iff_eq] at hs
    rw [← hs]
    exact Nat.lt_of_le_of_lt Nat.and_le_right HM36.out
  have HTB : Hid (T = blkB (allN r ps) k) := Lib.hid (by rw [HBLK.out, HIM.out, hs, Bool.true_and, Int.toNat_natCast])
  have HK36 := Lib.hid hk36
  clear hs hand hk36
  go_wp2_with fail
  refine (HM1.out).mono ?_
  rintro e w3 ⟨rfl, b3⟩
  have H3 := H1.step b3
  clear c0 c1 H1 b3 HM1
  have c0 : w3.cell? ⟨g, 0, none⟩ = some (.int .i64 r.w) := H3.h0.cell 0
  have c1 : w3.cell? ⟨g, 1, none⟩ = some (.slice A0 r.rows.length c) := H3.h0.cell 1
  have HA1 := Lib.hid (HALL.out w3 H3.below)
  clear HALL
  go_wp2_with fail
  refine (HA1.out).mono ?_
  rintro e w4 ⟨va, rfl, oa, b4⟩
  have H4 := H3.step b4
  have hrd : IntsRd w4 0 w4.heap.size va (nl (allN r ps)) := (IntsIn.rd oa).more (Nat.zero_le _) (Nat.le_refl _)
  have HB := Lib.hid (spec_blk_c w4 hrd (fun m hm => allN_lt HV.out m hm) (by have := allN_lenC HV.out HAP.out; omega) HK36.out)
  rw [← HTB.out] at HB
  obtain ⟨Av, cv, rfl, _, _⟩ := id hrd
  clear c0 c1 H3 b4 HA1 oa hrd
  go_wp2_with fail
  refine (HB.out).mono ?_
  rintro e w5 ⟨rfl, rfl⟩
  go_wp2
  go_ret
  exact ⟨rfl, H4.below⟩
end Go.Proofs.YtppbkiajcpdkiaaGreatDoor
