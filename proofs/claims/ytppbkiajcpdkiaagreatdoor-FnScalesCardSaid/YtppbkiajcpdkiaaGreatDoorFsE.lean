
/-
  The submasks of a mask: the program's walk (lines turned out of PkBX, for claims that do not want the rest of it). The cells that a code picks, and their mask: plain. The lowest bit of a mask, and the submasks that have it, by their codes: plain. Halves of a region: the model; what it says of one code. The program's walk of 'HalvesOf'. The reference's walk of 'HalvesOf'. Halves of a region are a division: plain.
-/
import Derived.Test.YtppbkiajcpdkiaaGreatDoorFsC
import Derived.Test.YtppbkiajcpdkiaaGreatDoorSepX
import Derived.Test.YtppbkiajcpdkiaaGreatDoorMskX
import Derived.Deep.DeepCutAuto
import Derived.Test.YtppbkiajcpdkiaaGreatDoorDivPX
import Derived.Test.YtppbkiajcpdkiaaGreatDoorOriX
import Derived.Test.YtppbkiajcpdkiaaGreatDoorShpFG
import Derived.Test.YtppbkiajcpdkiaaGreatDoorTilP
import Derived.Test.YtppbkiajcpdkiaaGreatDoorOriS
import Derived.Test.YtppbkiajcpdkiaaGreatDoorPlcIX
import Derived.Test.YtppbkiajcpdkiaaGreatDoorCellX
namespace Go.Proofs.YtppbkiajcpdkiaaGreatDoor
open Go.RowKit

section
variable {P : Program} {w0 w w' : World} {L : List Res}
theorem run_append_two (t ty e : TypeId) (i : TypeInfo) (z : Value) (size bytes : Nat) (ht : P.underlying t = some (.slice e)) (hi : P.info? e = some i) (hz : i.zero = some z)
    (hsize : i.size = size) (hby : i.bytes = bytes) (hzs : z.cells.size = size)
    (g n cap : Nat) (xs : List Value) (hown : w.ownsRow 0 e size (.slice (some ⟨g, 0, none⟩) n cap) n xs)
    (a : Addr) (m c : Nat) (news : List Value) (hl : news.length = m * size) (hnews : ∀ j u, news[j]? = some u → w.cell? (a.add j) = some u) (h1 : ∀ u ∈ news, u.oneCell' = true)
    (h63 : n + m ≤ maxLen) (hbytes : (n + m) * bytes ≤ 140737488355328) :
    ∃ v' w', (Builtin.append_ #[t, t] ty #[.slice (some ⟨g, 0, none⟩) n cap, .slice (some a) m c]).run P w = .ok v' w' ∧ w'.ownsRow 0 e size v' (n + m) (xs ++ news) ∧
      ((v' = .slice (some ⟨g, 0, none⟩) (n + m) cap ∧ w.grownBy w' (some g)) ∨ (v'.ownBlock = some w.heap.size ∧ Below w.heap.size w w')) := by
  subst hsize
  subst hby
  have hsmall : n + m ≤ 9223372036854775807 := by simp only [maxLen] at h63; omega
  have hlen : (xs ++ news).length = (n + m) * i.size := by rw [List.length_append, hown.1, hl, Nat.add_mul]
  rcases hown.2 with ⟨h, _⟩ | ⟨g', cap', cur, he, hbg, hg, hnc, hcm, hcs, htake⟩
  · cases h
  · injection he with e1 e2 e3
    injection e1 with e1
    injection e1 with e1
    subst e1
    subst e3
    by_cases hroom : n + m ≤ cap
    · have hfit : n * i.size + news.length ≤ cur.size := by rw [hl, hcs, ← Nat.add_mul]; exact Nat.mul_le_mul_right _ hroom
      have hr := run_append_room (P := P) w t ty e i ht hi g n cap cur hg a m c news hl hnews h1 hroom hfit
      refine ⟨_, _, hr, ⟨hlen, .inr ⟨g, cap, _, rfl, hbg, setRow_heap w g cur _ e _ hg, hroom, hcm, ?_, ?_⟩⟩, .inl ⟨rfl, ⟨rfl, rfl, rfl, by simp, fun k _ hk => setRow_other w g k _ (fun e => hk (by rw [e]))⟩⟩⟩
      · simp only [List.size_toArray, List.length_append, List.length_take, List.length_drop, Array.length_toList]
        omega
      · rw [htake, ← hlen]
        exact List.take_left
    · have holds : ∀ j u, xs[j]? = some u → w.cell? ((⟨g, 0, none⟩ : Addr).add j) = some u := hown.cells (g := g) rfl
      have hr := run_append_grow (P := P) w t ty e i z ht hi hz ⟨g, 0, none⟩ n cap xs hown.1 holds a m c news hl hnews (by omega) (by omega) (growslice_fits (by omega) hbytes)
      have hge := grownCap_ge w (n + m) cap e
      have hcm2 : grownCap w (n + m) cap e ≤ maxLen := grownCap_le_maxLen w (n + m) cap e h63
      refine ⟨_, _, hr, ⟨hlen, .inr ⟨w.heap.size, _, _, rfl, Nat.zero_le _, heap_alloc_new w.drew _, hge, hcm2, ?_, ?_⟩⟩, .inr ⟨rfl, (below_drew (Below.refl _ _)).alloc (Nat.le_refl _) _⟩⟩
      · simp only [Array.size_append, List.size_toArray, size_zeroCells, hzs, hown.1, hl, ← Nat.add_mul]
        congr 1
        omega
      · simp only [Array.toList_append, List.append_assoc]
        rw [← List.append_assoc, ← hlen]
        exact List.take_left
/-- a row that grows, and an older slice of its first cells -/
def SubI (e : TypeId) (w0 w : World) (b : Nat) (X : List Value) (ov : Value) (k : Nat) (M : List Value) : Prop :=
  (∃ cap, ov = .slice (some ⟨b, 0, none⟩) k cap ∧ Sep w0 w [Res.row ov e 1 k M]) ∨ ∃ (q : Nat) (cur : Array Value), cur.toList.take q = X ∧ Sep w0 w [Res.row ov e 1 k M, Res.obj b (.cells cur e (0, 0))]
theorem SubI.sep {e : TypeId} {b k : Nat} {X M : List Value} {ov : Value} (h : SubI e w0 w b X ov k M) : Sep w0 w [Res.row ov e 1 k M] := by
  rcases h with ⟨_, _, H⟩ | ⟨_, _, _, H⟩
  · exact H
  · exact H.drop2
theorem SubI.step {e : TypeId} {b k : Nat} {X M : List Value} {ov : Value} (h : SubI e w0 w b X ov k M) (hb : Below w.heap.size w w') : SubI e w0 w' b X ov k M := by
  rcases h with ⟨c, he, H⟩ | ⟨q, cur, hc, H⟩
  · exact .inl ⟨c, he, H.step hb⟩
  · exact .inr ⟨q, cur, hc, H.step hb⟩
theorem SubI.start {e : TypeId} {b k c : Nat} {X M : List Value} (H : Sep w0 w [Res.row (.slice (some ⟨b, 0, none⟩) k c) e 1 k M]) : SubI e w0 w b X (.slice (some ⟨b, 0, none⟩) k c) k M := .inl ⟨c, rfl, H⟩
theorem SubI.cell {e : TypeId} {b k j : Nat} {X M : List Value} {ov u : Value} (h : SubI e w0 w b X ov k M) (h1 : X[j]? = some u) (h2 : M[j]? = some u) : w.cell? ⟨b, j, none⟩ = some u := by
  rcases h with ⟨c, rfl, H⟩ | ⟨q, cur, hc, H⟩
  · have := own_cell H.h0 h2
    rwa [Nat.zero_add] at this
  · rw [cell_of_row w b j cur e (0, 0) H.h1]
    rw [← hc, List.getElem?_take] at h1
    split at h1
    · simpa using h1
    · cases h1
theorem SubI.lt {e : TypeId} {b k : Nat} {X M : List Value} {ov : Value} (h : SubI e w0 w b X ov k M) : b < w.heap.size := by
  rcases h with ⟨c, rfl, H⟩ | ⟨q, cur, hc, H⟩
  · exact own_lt H.h0 b rfl
  · exact (Array.getElem?_eq_some_iff.1 H.h1).1
theorem SubI.app {t ty e : TypeId} (i : TypeInfo) (z : Value) (bytes : Nat) (ht : P.underlying t = some (.slice e)) (hi : P.info? e = some i) (hz : i.zero = some z)
    (hsize : i.size = 1) (hby : i.bytes = bytes) (hzs : z.cells.size = 1)
    {b k : Nat} {X M : List Value} {ov u : Value} (h : SubI e w0 w b X ov k M) (hX : ∀ (j : Nat) (x : Value), X[j]? = some x → M[j]? = some x)
    {lo hi' : Nat} {a : Addr} (c : Nat) (hr : Rd w lo hi' 1 (some a) 1 [u]) (h1 : u.oneCell' = true)
    (h63 : k + 1 ≤ maxLen) (hbytes : (k + 1) * bytes ≤ 140737488355328) :
    ∃ v' w', (Builtin.append_ #[t, t] ty #[ov, .slice (some a) 1 c]).run P w = .ok v' w' ∧ SubI e w0 w' b X v' (k + 1) (M ++ [u]) := by
  have h11 : ∀ x ∈ [u], x.oneCell' = true := by intro x hx; simp at hx; subst hx; exact h1
  have hnews : ∀ j v, [u][j]? = some v → w.cell? (a.add j) = some v := by
    intro j v hv
    obtain ⟨s, off, h, _, _, hc⟩ := hr.2 (by decide)
    injection h with h
    subst h
    have hadd : (⟨s, off, none⟩ : Addr).add j = ⟨s, off + j, none⟩ := by unfold Addr.add; split <;> simp_all
    rw [hadd]
    exact hc j v hv
  rcases h with ⟨cap, rfl, H⟩ | ⟨q, cur, hc, H⟩
  · obtain ⟨v', w', hr2, ho, hcase⟩ := run_append_two (P := P) t ty e i z 1 bytes ht hi hz hsize hby hzs b k cap M H.h0 a 1 c [u] rfl hnews h11 h63 hbytes
    refine ⟨v', w', hr2, ?_⟩
    rcases hcase with ⟨rfl, hg⟩ | ⟨hv, hb⟩
    · exact .inl ⟨cap, rfl, H.app ho hg (.inl rfl)⟩
    · have hrow : ∃ cur : Array Value, w.heap[b]? = some (.cells cur e (0, 0)) ∧ cur.toList.take M.length = M := by
        have hown : w.ownsRow 0 e 1 (.slice (some ⟨b, 0, none⟩) k cap) k M := H.h0
        rcases hown.2 with ⟨h, _⟩ | ⟨g', cap', cur, he, _, hg, _, _, _, htake⟩
        · cases h
        · injection he with e1 e2 e3
          injection e1 with e1
          injection e1 with e1
          subst e1
          exact ⟨cur, hg, by rw [hown.1]; exact htake⟩
      obtain ⟨cur, hg, htk⟩ := hrow
      have H2 : Sep w0 w [Res.obj b (.cells cur e (0, 0))] := H.say (fun _ => hg) (fun x hx => by have hx : x = b := hx; subst hx; rfl)
      have hXM : X = M.take X.length := by
        apply List.ext_getElem?
        intro j
        rw [List.getElem?_take]
        split
        · rename_i hj
          obtain ⟨x, hx⟩ : ∃ x, X[j]? = some x := ⟨X[j]'hj, List.getElem?_eq_getElem _⟩
          rw [hx, hX j x hx]
        · rename_i hj
          exact List.getElem?_eq_none (by omega)
      refine .inr ⟨min X.length M.length, cur, ?_, H2.new hb ho (fun x hx => ?_)⟩
      · have e1 : cur.toList.take (min X.length M.length) = (cur.toList.take M.length).take X.length := by rw [List.take_take]
        rw [e1, htk]
        exact hXM.symm
      · have hx : v'.ownBlock = some x := hx
        rw [hv] at hx
        injection hx with hx
        omega
  · obtain ⟨v', w', hr2, H2⟩ := H.run_app (P := P) t ty e i z 1 bytes ht hi hz hsize hby hzs (by decide) c hr h11 h63 hbytes
    exact ⟨v', w', hr2, .inr ⟨q, cur, hc, H2⟩⟩
theorem wpList_sub {ops : Array Oper} {rest : List Oper} {o : Oper} {a : Act} {Q : Exit → Act → World → Prop} (hgd : o.guard = none) (s x : Operand) (t : TypeId)
    (ho : o.op = .call { callee := .builtin .append, args := #[s, x], argTypes := #[t, t] })
    (e : TypeId) (i : TypeInfo) (z : Value) (bytes : Nat) (ht : P.underlying t = some (.slice e)) (hi : P.info? e = some i) (hz : i.zero = some z)
    (hsize : i.size = 1) (hby : i.bytes = bytes) (hzs : z.cells.size = 1)
    {b k : Nat} {X M : List Value} {ov u : Value} (hs : a.eval s = ov) (H : SubI e w0 w b X ov k M) (hX : ∀ (j : Nat) (x : Value), X[j]? = some x → M[j]? = some x)
    {lo hi' : Nat} {ad : Addr} (c : Nat) (hx : a.eval x = .slice (some ad) 1 c) (hr : Rd w lo hi' 1 (some ad) 1 [u]) (h1 : u.oneCell' = true)
    (h63 : k + 1 ≤ maxLen) (hbytes : (k + 1) * bytes ≤ 140737488355328)
    (h : ∀ v' w', SubI e w0 w' b X v' (k + 1) (M ++ [u]) → wpList P ops Q rest (a.put o.dst v') w') : wpList P ops Q (o :: rest) a w := by
  refine wpList_plain hgd fun K hK => ?_
  obtain ⟨v', w', hr', h2⟩ := H.app (P := P) (t := t) (ty := o.type) i z bytes ht hi hz hsize hby hzs hX c hr h1 h63 hbytes
  unfold Oper.wp execOp
  simp only [ho, resolve, invoke, builtin, Sem.run_bind, Sem.run_pure, Result.andThen_ok, List.map_toArray, List.map_cons, List.map_nil, hs, hx, hr']
  exact hK _ _ (h v' w' h2)
end
end Go.Proofs.YtppbkiajcpdkiaaGreatDoor

namespace Go.Proofs.YtppbkiajcpdkiaaGreatDoor
open Go.RowKit

theorem nlZ2 {A B : List Nat} : nl (A ++ B) = nl A ++ nl B := by simp [nl]
theorem subs_len_le {m : Nat} (h : cntB m ≤ 16) : ∀ {k : Nat}, k ≤ 36 → (subs m k).length ≤ 65536 := by
  intro k hk
  rw [subs_len, bitsTo_cnt]
  have h1 : cntTo m k ≤ cntB m := by
    unfold cntB
    obtain ⟨d, hd⟩ : ∃ d, 36 = k + d := ⟨36 - k, by omega⟩
    rw [hd]
    have : ∀ d, cntTo m k ≤ cntTo m (k + d) := fun d => by
      induction d with
      | zero => exact Nat.le_refl _
      | succ d ih => exact Nat.le_trans ih (Nat.le_add_right _ _)
    exact this d
  exact Nat.pow_le_pow_right (by decide) (Nat.le_trans h1 h)
theorem or_pow_num {x k : Nat} (hx : x < 2 ^ 36) (hk : k < 36) : bits .or .i64 (x : Int) (wrap64 (2 ^ k)) = ((x ||| 2 ^ k : Nat) : Int) := by
  have hp : 2 ^ k < 68719476736 := Nat.pow_lt_pow_right (n := 36) (by decide) hk
  have := or_step (a := x) (m := 1) (p := k) (by omega) (by omega)
  simpa using this
set_option maxRecDepth 100000 in
set_option maxHeartbeats 1600000 in
theorem subs_c {m : Nat} (w : World) (hm : m < 2 ^ 36) (hc : cntB m ≤ 16) :
    Calls Tryz.prog 52 #[.int .i64 m] w fun e w' => ∃ v', e = .returned v' ∧ IntsIn w' w.heap.size w'.heap.size v' (nl (subs m 36)) ∧ Below w.heap.size w w' := by
  obtain ⟨j0, hj, hy0, hy1, hy2⟩ := info_parts infoIntZ
  have HM := Lib.hid hm
  have HC := Lib.hid hc
  obtain ⟨h0, hh0⟩ : ∃ h0, h0 = w.heap.size := ⟨_, rfl⟩
  have H0 := (Sep.start w).rowBox 3 #[.int .i64 0] 1 1 rfl (by decide)
  rw [← hh0] at H0
  have hm36 : m < 68719476736 := hm
  clear hm hc
  go_enter Tryz.func52, Tryz.ntmps52
  go_upto_region 2 with fail
  rw [← hh0]
  generalize (w.alloc (.cells #[.int .i64 0] 3)) = W at *
  clear hh0
  go_wp2
  go_loopw [3, 4] (fun ov kv wx => ∃ (k n : Nat) (S : List Nat) (ow : Value), k ≤ 36 ∧ kv = .int .i64 k ∧ ov = ow ∧ 1 ≤ n ∧ n ≤ 65536 ∧ Hid (n = S.length) ∧ Hid (S = subs m k) ∧ Sep w wx [Res.row ow 3 1 n (ic (nl S))]) (fun _ kv _ => 37 - (intOf kv).toNat)
  case atStart => exact ⟨0, 1, [0], _, by omega, rfl, rfl, Nat.le_refl _, by omega, Lib.hid rfl, Lib.hid rfl, H0⟩
  case round =>
    clear H0
    obtain ⟨k, n, S, ow, hk, rfl, rfl, hn1, hn6, HN, HS, H⟩ := hrel
    by_cases hz : (m : Int) / 2 ^ k = 0
    · have hzd : ((m : Int) / 2 ^ k != 0) = false := by simpa using hz
      have HE : Hid (subs m 36 = S) := Lib.hid (by
        obtain ⟨d, hd⟩ : ∃ d, 36 = k + d := ⟨36 - k, by omega⟩
        rw [hd, subs_top (shr_zero.1 hz), HS.out])
      clear hz
      go_wp2
      go_ret
      refine ⟨_, rfl, ?_, H.below⟩
      rw [HE.out]
      unfold IntsIn
      rw [show (nl S).length = n by simp [nl]; exact HN.out.symm]
      exact H.oi
    · have hzd : ((m : Int) / 2 ^ k != 0) = true := by simpa using hz
      have hk35 : k < 36 := by
        rcases Nat.lt_or_ge k 36 with h | h
        · exact h
        · obtain rfl : k = 36 := by omega
          exact absurd (shr_zero.2 HM.out) hz
      have hbit := bit_test (m := m) (x := k) (by omega)
      clear hz
      cases hb2 : m.testBit k
      · rw [hb2] at hbit
        have HS2 : Hid (S = subs m (k + 1)) := Lib.hid (by rw [subs_f hb2]; exact HS.out)
        clear hb2
        go_wp2
        go_roundw
        case rel => exact ⟨k + 1, n, S, _, by omega, by go_num, rfl, hn1, hn6, HN, HS2, H⟩
        case measure => simp [intOf]; omega
      · rw [hb2] at hbit
        have HS2 : Hid (S ++ S.map (· ||| 2 ^ k) = subs m (k + 1)) := Lib.hid (by rw [subs_t hb2, ← HS.out])
        have HN2 : Hid (n + n ≤ 65536) := Lib.hid (by
          have h1 := subs_len_le HC.out (k := k + 1) (by omega)
          rw [← HS2.out, List.length_append, List.length_map, ← HN.out] at h1
          exact h1)
        have HSL : Hid (∀ x ∈ S, x < 2 ^ 36) := Lib.hid (fun x hx => by
          have h1 : x < 2 ^ k := subs_lt (by rw [← HS.out]; exact hx)
          exact Nat.lt_of_lt_of_le h1 (Nat.pow_le_pow_right (by decide) (by omega)))
        obtain ⟨b, o, c, rfl, hnc, hcm, _⟩ := own_shape H.h0 (by omega)
        obtain ⟨rfl, _⟩ := own_blk H.h0
        have HB : Hid (SubI 3 w wr b (ic (nl S)) (.slice (some ⟨b, 0, none⟩) n c) n (ic (nl S))) := Lib.hid (SubI.start H)
        have s0 : (n : Int) ≤ (c : Int) := by omega
        obtain ⟨wo, hwo⟩ : ∃ wo, wo = wr := ⟨_, rfl⟩
        subst hwo
        clear hb2 H
        go_wp2
        go_loopw [3, 26] (fun ov iv wx => ∃ (i : Nat) (ow : Value), i ≤ n ∧ iv = .int .i64 i ∧ ov = ow ∧ SubI 3 w wx b (ic (nl S)) ow (n + i) (ic (nl (S ++ (S.take i).map (· ||| 2 ^ k))))) (fun _ iv _ => n - (intOf iv).toNat)
        case atStart => exact ⟨0, _, Nat.zero_le _, rfl, rfl, by simpa using HB.out⟩
        case round =>
          obtain ⟨i, ow, hi, rfl, rfl, H⟩ := hrel
          by_cases hlt : i < n
          · have hlti : (i : Int) < (n : Int) := by omega
            obtain ⟨x, hx⟩ : ∃ x, S[i]? = some x := ⟨S[i]'(by rw [← HN.out]; exact hlt), List.getElem?_eq_getElem _⟩
            have hX1 : (ic (nl S))[i]? = some (.int .i64 (x : Int)) := by simp [ic, nl, hx]
            have HXM : Hid (∀ (j : Nat) (u : Value), (ic (nl S))[j]? = some u → (ic (nl (S ++ (S.take i).map (· ||| 2 ^ k))))[j]? = some u) := Lib.hid (fun j u hu => by
              rw [show ic (nl (S ++ (S.take i).map (· ||| 2 ^ k))) = ic (nl S) ++ ic (nl ((S.take i).map (· ||| 2 ^ k))) by rw [nlZ2, ic_append]]
              rw [List.getElem?_append_left (List.getElem?_eq_some_iff.1 hu).1]
              exact hu)
            have y0 := H.cell hX1 (HXM.out i _ hX1)
            have hbl := H.lt
            have hx36 : x < 2 ^ 36 := HSL.out x (List.mem_of_getElem? hx)
            have HOR := or_pow_num hx36 hk35
            obtain ⟨q, hq⟩ : ∃ q, q = x ||| 2 ^ k := ⟨_, rfl⟩
            rw [← hq] at HOR
            have HTK : Hid (ic (nl (S ++ (S.take (i + 1)).map (· ||| 2 ^ k))) = ic (nl (S ++ (S.take i).map (· ||| 2 ^ k))) ++ [.int .i64 (q : Int)]) := Lib.hid (by
              rw [List.take_add_one, hx, Option.toList_some, List.map_append, ← List.append_assoc, nlZ2, ic_append, hq]
              rfl)
            have HA := Lib.hid (fun o : Obj => H.step ((Below.refl wr.heap.size wr).alloc (Nat.le_refl _) o))
            have hn62 := HN2.out
            clear hx hX1 hq hx36 H
            go_wp2_with (at_builtin; refine wpList_sub rfl _ _ 27 rfl 3 j0 _ 8 Tryz.underlying27 hj hy0 hy1 hy2 rfl (u := .int .i64 (q : Int)) rfl (HA.out _) HXM.out _ rfl (Rd.fresh wr _ #[.int .i64 (q : Int)] 1 1 rfl) rfl (by unfold maxLen; omega) (by omega) ?_; intro v5 w5 H6)
            rw [← HTK.out] at H6
            go_roundw
            case rel => exact ⟨i + 1, _, by omega, by go_num, rfl, H6⟩
            case measure => simp [intOf]; omega
          · obtain rfl : i = n := by omega
            have HE : Hid (S ++ (S.take i).map (· ||| 2 ^ k) = subs m (k + 1)) := Lib.hid (by rw [← HS2.out, HN.out, List.take_length])
            have H1 := H.sep
            rw [HE.out] at H1
            have HL : Hid (i + i = (subs m (k + 1)).length) := Lib.hid (by rw [← HS2.out, List.length_append, List.length_map, ← HN.out])
            have hn62 := HN2.out
            clear H
            go_wp2
            go_roundw
            case rel => exact ⟨k + 1, i + i, subs m (k + 1), _, by omega, by go_num, rfl, by omega, hn62, HL, Lib.hid rfl, H1⟩
            case measure => simp [intOf]; omega
end Go.Proofs.YtppbkiajcpdkiaaGreatDoor

namespace Go.Proofs.YtppbkiajcpdkiaaGreatDoor
open Go.RowKit

set_option maxRecDepth 100000 in
theorem ones36_c (m : Nat) (w : World) (hm : m < 2 ^ 36) :
    Calls Tryz.prog 41 #[.int .u64 (m : Int)] w fun e w' => e = .returned (.int .i64 (cntB m : Int)) ∧ w = w' := by
  rw [← onesOf_cnt hm]
  exact onesg_c m w
end Go.Proofs.YtppbkiajcpdkiaaGreatDoor

namespace Go.Proofs.YtppbkiajcpdkiaaGreatDoor
open Go.RowKit

theorem cellsTo_bits {w m : Nat} : ∀ k, cellsTo w m k = (bitsTo m k).map (bitCell w)
  | 0 => rfl
  | k + 1 => by
    cases h : m.testBit k
    · rw [bitsTo_f h, ← cellsTo_bits k, cellsTo, h]; simp
    · rw [bitsTo_t h, List.map_append, ← cellsTo_bits k, cellsTo, h]; simp
theorem cells_cellsM {r : Reg} (hv : r.Valid) : r.cells = cellsM r.w.toNat r.mask := by
  unfold cellsM
  rw [cellsTo_bits, ← cells_bits hv, List.map_map]
  conv => lhs; rw [← List.map_id r.cells]
  exact List.map_congr_left fun d hd => (bitCell_of (Reg.cells_mem.1 hd)).symm
theorem srt_cells {r : Reg} (hv : r.Valid) : Srt r.cells := by
  rw [cells_cellsM hv]
  exact srt_cellsTo 36
theorem bitsTo_iff {m : Nat} : ∀ {k i : Nat}, i ∈ bitsTo m k ↔ i < k ∧ m.testBit i = true
  | 0, i => by simp [bitsTo]
  | k + 1, i => by
    cases h : m.testBit k
    · rw [bitsTo_f h, bitsTo_iff]
      constructor
      · rintro ⟨a, b⟩; exact ⟨by omega, b⟩
      · rintro ⟨a, b⟩
        refine ⟨?_, b⟩
        rcases Nat.lt_or_ge i k with q | q
        · exact q
        · rw [show i = k by omega, h] at b; cases b
    · rw [bitsTo_t h, List.mem_append, List.mem_singleton, bitsTo_iff]
      constructor
      · rintro (⟨a, b⟩ | rfl)
        · exact ⟨by omega, b⟩
        · exact ⟨by omega, h⟩
      · rintro ⟨a, b⟩
        rcases Nat.lt_or_ge i k with q | q
        · exact .inl ⟨q, b⟩
        · exact .inr (by omega)
/-- the cells that a code picks (b = true), or leaves -/
def pickTo (C : List Cell) (c : Nat) (b : Bool) : Nat → List Cell
  | 0 => []
  | i + 1 => pickTo C c b i ++ if c.testBit i = b then (C[i]?).toList else []
theorem pick_sub {C : List Cell} {c : Nat} {b : Bool} : ∀ k, (pickTo C c b k).Sublist (C.take k)
  | 0 => List.nil_sublist _
  | k + 1 => by
    rw [pickTo, List.take_add_one]
    refine (pick_sub k).append ?_
    split
    · exact List.Sublist.refl _
    · exact List.nil_sublist _
/-- the bits of cells, added -/
def sumB (r : Reg) (s : List Cell) : Nat := (s.map fun c => 2 ^ bitOf r c).sum
theorem sumB_app {r : Reg} {s t : List Cell} : sumB r (s ++ t) = sumB r s + sumB r t := by simp [sumB]
theorem sumB_one {r : Reg} {c : Cell} : sumB r [c] = 2 ^ bitOf r c := by simp [sumB]
theorem pick_sel {r : Reg} {C : List Cell} {c : Nat} : ∀ k, k ≤ C.length → selTo (C.map (bitOf r)) c k = sumB r (pickTo C c true k)
  | 0, _ => rfl
  | k + 1, h => by
    obtain ⟨d, hd⟩ : ∃ d, C[k]? = some d := ⟨C[k], List.getElem?_eq_getElem _⟩
    show selTo (C.map (bitOf r)) c k + (if c.testBit k = true then 2 ^ (C.map (bitOf r)).getD k 0 else 0) = _
    rw [pick_sel k (by omega), pickTo, sumB_app]
    congr 1
    rw [hd, List.getD_eq_getElem?_getD, List.getElem?_map, hd]
    split
    · exact sumB_one.symm
    · rfl
theorem pick_both {r : Reg} {C : List Cell} {c : Nat} : ∀ k, sumB r (pickTo C c true k) + sumB r (pickTo C c false k) = sumB r (C.take k)
  | 0 => rfl
  | k + 1 => by
    have ih := pick_both (r := r) (C := C) (c := c) k
    have h0 : sumB r [] = 0 := rfl
    rw [pickTo, pickTo, sumB_app, sumB_app, List.take_add_one, sumB_app, ← ih]
    cases c.testBit k
    · rw [if_neg (by decide), if_pos rfl, h0]; omega
    · rw [if_pos rfl, if_neg (by decide), h0]; omega
theorem pick_len {C : List Cell} {c : Nat} : ∀ k, k ≤ C.length → (pickTo C c true k).length = cntC c k
  | 0, _ => rfl
  | k + 1, h => by
    obtain ⟨d, hd⟩ : ∃ d, C[k]? = some d := ⟨C[k], List.getElem?_eq_getElem _⟩
    show _ = cntC c k + (if c.testBit k = true then 1 else 0)
    rw [pickTo, List.length_append, pick_len k (by omega), hd]
    split <;> rfl
theorem maskFrom_sum {r : Reg} : ∀ {s : List Cell} {n : Nat}, (∀ d ∈ s, r.has d.x d.y = true ∧ n.testBit (bitOf r d) = false) → (s.map (bitOf r)).Nodup → maskFrom r n s = some (n + sumB r s)
  | [], _, _, _ => rfl
  | e :: s, n, h, hN => by
    obtain ⟨h1, h2⟩ := h e (List.mem_cons_self ..)
    rw [List.map_cons, List.nodup_cons] at hN
    unfold maskFrom
    rw [if_pos ⟨h1, h2⟩, maskFrom_sum (fun d hd => ?_) hN.2]
    · show some (n + 2 ^ bitOf r e + sumB r s) = some (n + sumB r ([e] ++ s))
      rw [sumB_app, sumB_one, Nat.add_assoc]
    · obtain ⟨h3, h4⟩ := h d (List.mem_cons_of_mem _ hd)
      refine ⟨h3, ?_⟩
      rw [add_bit h2, Nat.testBit_or, h4, Nat.testBit_two_pow, Bool.false_or, decide_eq_false_iff_not]
      intro he
      exact hN.1 (by rw [he]; exact List.mem_map_of_mem hd)
theorem bitsTo_nodup {m : Nat} : ∀ k, (bitsTo m k).Nodup
  | 0 => List.nodup_nil
  | k + 1 => by
    cases h : m.testBit k
    · rw [bitsTo_f h]; exact bitsTo_nodup k
    · rw [bitsTo_t h, List.nodup_append]
      refine ⟨bitsTo_nodup k, by simp, fun a ha b hb => ?_⟩
      have := bitsTo_lt ha
      rw [List.mem_singleton.1 hb]
      omega
theorem sub_mask {r : Reg} (hv : r.Valid) {s : List Cell} (h : s.Sublist r.cells) : maskS r s = some (sumB r s) := by
  have hn : (s.map (bitOf r)).Nodup := ((h.map (bitOf r)).nodup) (by rw [cells_bits hv]; exact bitsTo_nodup 36)
  have := maskFrom_sum (r := r) (s := s) (n := 0) (fun d hd => ⟨Reg.cells_mem.1 (h.subset hd), Nat.zero_testBit _⟩) hn
  rw [Nat.zero_add] at this
  exact this
theorem sub_cells {r : Reg} (hv : r.Valid) {s : List Cell} (h : s.Sublist r.cells) : cellsM r.w.toNat (sumB r s) = s := mask_cells hv ((srt_cells hv).sublist h) (sub_mask hv h)
theorem sum_cells {r : Reg} (hv : r.Valid) : sumB r r.cells = r.mask := by
  have h1 := maskFrom_bits hv (sub_mask hv (List.Sublist.refl r.cells))
  apply Nat.eq_of_testBit_eq
  intro i
  rw [Bool.eq_iff_iff, h1.2 i]
  have hm : (∃ d ∈ r.cells, bitOf r d = i) ↔ i ∈ bitsTo r.mask 36 := by rw [← cells_bits hv, List.mem_map]
  rw [hm, Nat.zero_testBit, bitsTo_iff]
  constructor
  · rintro (h | h)
    · cases h
    · exact h.2
  · intro h
    refine .inr ⟨?_, h⟩
    rcases Nat.lt_or_ge i 36 with q | q
    · exact q
    · rw [Nat.testBit_lt_two_pow (Nat.lt_of_lt_of_le (Reg.mask_lt hv) (Nat.pow_le_pow_right (n := 2) (Nat.succ_pos 1) q))] at h
      cases h
end Go.Proofs.YtppbkiajcpdkiaaGreatDoor

namespace Go.Proofs.YtppbkiajcpdkiaaGreatDoor
open Go.RowKit

/-- a mask, parted at its lowest bit -/
theorem low_part {m b : Nat} (h1 : m.testBit b = true) (h2 : ∀ j < b, m.testBit j = false) : m = 2 ^ (b + 1) * (m / 2 ^ (b + 1)) + 2 ^ b := by
  have h3 : m % 2 ^ b = 0 := by
    apply Nat.eq_of_testBit_eq
    intro i
    rw [Nat.testBit_mod_two_pow, Nat.zero_testBit]
    by_cases hi : i < b
    · rw [h2 i hi, Bool.and_false]
    · rw [decide_eq_false hi, Bool.false_and]
  have h4 : m / 2 ^ b % 2 = 1 := by
    rw [Nat.testBit_eq_decide_div_mod_eq, decide_eq_true_eq] at h1
    exact h1
  have h5 : m % 2 ^ (b + 1) = 2 ^ b := by rw [Nat.pow_succ, Nat.mod_mul, h3, h4, Nat.zero_add, Nat.mul_one]
  have h6 := Nat.div_add_mod m (2 ^ (b + 1))
  rw [h5] at h6
  exact h6.symm
theorem and_neg_nat {m : Nat} (h0 : m ≠ 0) (hm : m < 2 ^ 36) : m &&& (2 ^ 64 - m) = 2 ^ lowB m := by
  obtain ⟨h1, h2⟩ := lowB_bits h0 hm
  generalize lowB m = b at *
  have hp := low_part h1 h2
  generalize m / 2 ^ (b + 1) = q at hp
  have hb : 0 < 2 ^ b := Nat.two_pow_pos b
  have hs : 2 ^ (b + 1) = 2 ^ b + 2 ^ b := by rw [Nat.pow_succ]; omega
  apply Nat.eq_of_testBit_eq
  intro i
  have e1 : m - 1 = 2 ^ (b + 1) * q + (2 ^ b - 1) := by omega
  have e2 : 2 ^ 64 - m = 2 ^ 64 - (m - 1 + 1) := by omega
  rw [Nat.testBit_and, e2, Nat.testBit_two_pow_sub_succ (show m - 1 < 2 ^ 64 by omega), e1]
  rw [hp, Nat.testBit_two_pow_mul_add q (show 2 ^ b < 2 ^ (b + 1) by omega), Nat.testBit_two_pow_mul_add q (show 2 ^ b - 1 < 2 ^ (b + 1) by omega)]
  have hb64 : b < 36 := by
    rcases Nat.lt_or_ge b 36 with q | q
    · exact q
    · rw [Nat.testBit_lt_two_pow (Nat.lt_of_lt_of_le hm (Nat.pow_le_pow_right (n := 2) (Nat.succ_pos 1) q))] at h1
      cases h1
  by_cases hi : i < b + 1
  · rw [if_pos hi, if_pos hi, Nat.testBit_two_pow, Nat.testBit_two_pow_sub_one]
    by_cases e : b = i
    · subst e
      rw [decide_eq_true rfl, decide_eq_true (show b < 64 by omega), decide_eq_false (show ¬ b < b by omega)]; rfl
    · rw [decide_eq_false e, Bool.false_and]
  · rw [if_neg hi, if_neg hi, Nat.testBit_two_pow, decide_eq_false (show ¬ b = i by omega)]
    cases q.testBit (i - (b + 1)) <;> simp
theorem and_neg {m : Nat} (h0 : m ≠ 0) (hm : m < 2 ^ 36) : bits .and .i64 (m : Int) (-(m : Int)) = ((2 ^ lowB m : Nat) : Int) := by
  rw [← and_neg_nat h0 hm]
  show IntKind.i64.wrap ((BitVec.ofInt 64 (m : Int) &&& BitVec.ofInt 64 (-(m : Int))).toNat : Int) = _
  have e1 : (BitVec.ofInt 64 (m : Int)).toNat = m := ofInt_u64 m (by omega)
  have e2 : (BitVec.ofInt 64 (-(m : Int))).toNat = 2 ^ 64 - m := by
    rw [BitVec.toNat_ofInt]
    omega
  rw [BitVec.toNat_and, e1, e2]
  have hle : m &&& (2 ^ 64 - m) ≤ m := Nat.and_le_left
  generalize m &&& (2 ^ 64 - m) = z at hle
  exact IntWalk.i64_in _ ⟨by omega, by omega⟩
/-- the bits of a mask: the lowest, and the rest's -/
theorem rest_bit {m i : Nat} (h0 : m ≠ 0) (hm : m < 2 ^ 36) : (m - 2 ^ lowB m).testBit i = (m.testBit i && !decide (i = lowB m)) := by
  obtain ⟨h1, h2⟩ := lowB_bits h0 hm
  generalize lowB m = b at *
  have hp := low_part h1 h2
  generalize m / 2 ^ (b + 1) = q at hp
  have hs : 2 ^ (b + 1) = 2 ^ b + 2 ^ b := by rw [Nat.pow_succ]; omega
  have hb : 0 < 2 ^ b := Nat.two_pow_pos b
  have e1 : m - 2 ^ b = 2 ^ (b + 1) * q + 0 := by omega
  rw [e1, hp, Nat.testBit_two_pow_mul_add q (show 2 ^ b < 2 ^ (b + 1) by omega), Nat.testBit_two_pow_mul_add q (show 0 < 2 ^ (b + 1) by omega)]
  by_cases hi : i < b + 1
  · rw [if_pos hi, if_pos hi, Nat.zero_testBit, Nat.testBit_two_pow]
    by_cases e : b = i
    · subst e; simp
    · rw [decide_eq_false e, Bool.false_and]
  · rw [if_neg hi, if_neg hi, decide_eq_false (show ¬ i = b by omega)]; simp
theorem bitsTo_low {m : Nat} (h0 : m ≠ 0) (hm : m < 2 ^ 36) : ∀ k, bitsTo m k = if lowB m < k then lowB m :: bitsTo (m - 2 ^ lowB m) k else []
  | 0 => rfl
  | k + 1 => by
    have ih := bitsTo_low h0 hm k
    have hr := rest_bit (i := k) h0 hm
    obtain ⟨h1, h2⟩ := lowB_bits h0 hm
    by_cases hk : lowB m < k
    · rw [if_pos hk] at ih
      rw [if_pos (by omega)]
      rw [decide_eq_false (show ¬ k = lowB m by omega), Bool.not_false, Bool.and_true] at hr
      cases h : m.testBit k
      · rw [bitsTo_f h, ih, bitsTo_f (hr.trans h)]
      · rw [bitsTo_t h, ih, bitsTo_t (hr.trans h)]; rfl
    · rw [if_neg hk] at ih
      by_cases e : lowB m = k
      · rw [if_pos (by omega)]
        rw [decide_eq_true e.symm, Bool.not_true, Bool.and_false] at hr
        have hn : ∀ j, j ≤ k → bitsTo (m - 2 ^ lowB m) j = [] := fun j => by
          induction j with
          | zero => intro _; rfl
          | succ j ih2 =>
            intro hj
            rw [bitsTo_f (by rw [rest_bit h0 hm, h2 j (by omega)]; rfl), ih2 (by omega)]
        rw [bitsTo_t (by rw [← e]; exact h1), ih, bitsTo_f hr, hn k (Nat.le_refl _), e]; rfl
      · rw [if_neg (by omega), bitsTo_f (h2 k (by omega)), ih]
theorem selTo_cons {b : Nat} {B : List Nat} {j : Nat} : ∀ k, selTo (b :: B) (2 * j + 1) (k + 1) = 2 ^ b + selTo B j k
  | 0 => by
    show 0 + (if (2 * j + 1).testBit 0 = true then 2 ^ b else 0) = 2 ^ b + 0
    rw [if_pos (by simp [Nat.testBit_zero]), Nat.zero_add]; rfl
  | k + 1 => by
    show selTo (b :: B) (2 * j + 1) (k + 1) + (if (2 * j + 1).testBit (k + 1) = true then 2 ^ (b :: B).getD (k + 1) 0 else 0) = 2 ^ b + (selTo B j k + (if j.testBit k = true then 2 ^ B.getD k 0 else 0))
    have e : (2 * j + 1).testBit (k + 1) = j.testBit k := by rw [Nat.testBit_succ, show (2 * j + 1) / 2 = j by omega]
    rw [selTo_cons k, e, List.getD_cons_succ, Nat.add_assoc]
end Go.Proofs.YtppbkiajcpdkiaaGreatDoor

namespace Go.Proofs.YtppbkiajcpdkiaaGreatDoor
open Go.RowKit

/-- the part at a code, and the rest -/
def halfC (r : Reg) (j : Nat) : List Cell := pickTo r.cells (2 * j + 1) true r.cells.length
def restC (r : Reg) (j : Nat) : List Cell := pickTo r.cells (2 * j + 1) false r.cells.length
noncomputable def hOk (r : Reg) (j : Nat) : Bool := decide ((halfC r j).length = r.cells.length / 2) && (hangs (halfC r j) && congr (halfC r j) (restC r j))
/-- may the region have halves? -/
def hvS (r : Reg) : Bool := decide (2 ≤ areaR r) && (decide (areaR r ≤ 16) && decide (areaR r % 2 = 0))
noncomputable def hvR (r : Reg) : Option Nat := if hvS r = true then (List.range (2 ^ (r.cells.length - 1))).find? (hOk r) else none
noncomputable def hvL (r : Reg) : List Nat := match hvR r with
  | none => []
  | some j => [sumB r (halfC r j), sumB r (restC r j)]
theorem half_sub {r : Reg} {j : Nat} : (halfC r j).Sublist r.cells := by
  have := pick_sub (C := r.cells) (c := 2 * j + 1) (b := true) r.cells.length
  rwa [List.take_length] at this
theorem rest_sub {r : Reg} {j : Nat} : (restC r j).Sublist r.cells := by
  have := pick_sub (C := r.cells) (c := 2 * j + 1) (b := false) r.cells.length
  rwa [List.take_length] at this
theorem half_rest {r : Reg} (hv : r.Valid) {j : Nat} : sumB r (halfC r j) + sumB r (restC r j) = r.mask := by
  have := pick_both (r := r) (C := r.cells) (c := 2 * j + 1) r.cells.length
  rwa [List.take_length, sum_cells hv] at this
theorem subs_sub {m : Nat} : ∀ {k x : Nat}, x ∈ subs m k → ∀ i, x.testBit i = true → m.testBit i = true
  | 0, x, h, i, hi => by
    rw [show x = 0 by simpa [subs] using h, Nat.zero_testBit] at hi
    cases hi
  | k + 1, x, h, i, hi => by
    cases hk : m.testBit k
    · rw [subs_f hk] at h; exact subs_sub h i hi
    · rw [subs_t hk, List.mem_append, List.mem_map] at h
      rcases h with h | ⟨y, hy, rfl⟩
      · exact subs_sub h i hi
      · rw [Nat.testBit_or, Nat.testBit_two_pow, Bool.or_eq_true, decide_eq_true_eq] at hi
        rcases hi with hi | rfl
        · exact subs_sub hy i hi
        · exact hk
/-- what one code says -/
structure HalAt (r : Reg) (j x M N : Nat) : Prop where
  or : x ||| 2 ^ lowB r.mask = M
  cnt : cntB M = (halfC r j).length
  one : cellsM r.w.toNat M = halfC r j
  two : cellsM r.w.toNat N = restC r j
  sum : M + N = r.mask
  sub : M &&& r.mask = M
theorem cells_low {r : Reg} (hv : r.Valid) (h0 : r.mask ≠ 0) : lowB r.mask < 36 ∧ bitsTo r.mask 36 = lowB r.mask :: bitsTo (r.mask - 2 ^ lowB r.mask) 36 ∧ r.cells.length = (bitsTo (r.mask - 2 ^ lowB r.mask) 36).length + 1 := by
  have hm := Reg.mask_lt hv
  have hl : lowB r.mask < 36 := by
    rcases Nat.lt_or_ge (lowB r.mask) 36 with q | q
    · exact q
    · have h1 := (lowB_bits h0 hm).1
      rw [Nat.testBit_lt_two_pow (Nat.lt_of_lt_of_le hm (Nat.pow_le_pow_right (n := 2) (Nat.succ_pos 1) q))] at h1
      cases h1
  have hb := bitsTo_low h0 hm 36
  rw [if_pos hl] at hb
  refine ⟨hl, hb, ?_⟩
  have := congrArg List.length (cells_bits hv)
  rw [List.length_map, hb, List.length_cons] at this
  exact this
theorem hal_at {r : Reg} (hv : r.Valid) (h0 : r.mask ≠ 0) {j : Nat} (hj : j < 2 ^ (r.cells.length - 1)) : ∃ x, (subs (r.mask - 2 ^ lowB r.mask) 36)[j]? = some x ∧ HalAt r j x (sumB r (halfC r j)) (sumB r (restC r j)) := by
  have hm := Reg.mask_lt hv
  obtain ⟨hl, hb, hn⟩ := cells_low hv h0
  have hB := cells_bits hv
  have hj2 : j < 2 ^ (bitsTo (r.mask - 2 ^ lowB r.mask) 36).length := by rw [hn, Nat.add_sub_cancel] at hj; exact hj
  have h1 := (subs_at (m := r.mask - 2 ^ lowB r.mask) 36 (Nat.le_refl _) j hj2).1
  have hM : sumB r (halfC r j) = 2 ^ lowB r.mask + selTo (bitsTo (r.mask - 2 ^ lowB r.mask) 36) j (bitsTo (r.mask - 2 ^ lowB r.mask) 36).length := by
    rw [halfC, ← pick_sel r.cells.length (Nat.le_refl _), hB, hb, hn, selTo_cons]
  have hc : 2 * j + 1 < 2 ^ (bitsTo r.mask 36).length := by
    rw [hb, List.length_cons, Nat.pow_succ]
    omega
  have h2 := (subs_at (m := r.mask) 36 (Nat.le_refl _) (2 * j + 1) hc)
  have hBl : (bitsTo r.mask 36).length = r.cells.length := by rw [← hB, List.length_map]
  have hsel : selTo (bitsTo r.mask 36) (2 * j + 1) (bitsTo r.mask 36).length = sumB r (halfC r j) := by
    rw [hBl, ← hB, halfC, pick_sel r.cells.length (Nat.le_refl _)]
  rw [hsel] at h2
  refine ⟨_, h1, ?_, ?_, sub_cells hv half_sub, sub_cells hv rest_sub, half_rest hv, ?_⟩
  · have hf : (selTo (bitsTo (r.mask - 2 ^ lowB r.mask) 36) j (bitsTo (r.mask - 2 ^ lowB r.mask) 36).length).testBit (lowB r.mask) = false := by
      cases h : (selTo (bitsTo (r.mask - 2 ^ lowB r.mask) 36) j (bitsTo (r.mask - 2 ^ lowB r.mask) 36).length).testBit (lowB r.mask)
      · rfl
      · have := subs_sub (List.mem_of_getElem? h1) _ h
        rw [rest_bit h0 hm, decide_eq_true rfl, Bool.not_true, Bool.and_false] at this
        cases this
    rw [hM, ← add_bit hf, Nat.add_comm]
  · rw [h2.2, hBl, halfC, pick_len r.cells.length (Nat.le_refl _)]
  · apply Nat.eq_of_testBit_eq
    intro i
    rw [Nat.testBit_and]
    cases h : (sumB r (halfC r j)).testBit i
    · rfl
    · rw [subs_sub (List.mem_of_getElem? h2.1) i h]; rfl
end Go.Proofs.YtppbkiajcpdkiaaGreatDoor

namespace Go.Proofs.YtppbkiajcpdkiaaGreatDoor
open Go.RowKit

/-- a result of HalvesOf -/
def HvPost (r : Reg) (w : World) : Ending → World → Prop := fun e w' => ∃ v', e = .returned (.tuple #[v', .bool (hvR r).isSome]) ∧ IntsIn w' w.heap.size w'.heap.size v' (nl (hvL r)) ∧ Below w.heap.size w w'
theorem hv_no {r : Reg} (h : hvR r = none) : (hvR r).isSome = false ∧ hvL r = [] := by
  unfold hvL
  rw [h]
  exact ⟨rfl, rfl⟩
theorem hvS_f {r : Reg} (h : hvS r = false) : hvR r = none := by unfold hvR; rw [h]; rfl
theorem HvPost.no {r : Reg} {w w' : World} (h : hvR r = none) (b : Below w.heap.size w w') : HvPost r w (.returned (.tuple #[.slice none 0 0, .bool false])) w' := by
  obtain ⟨h1, h2⟩ := hv_no h
  unfold HvPost
  rw [h1, h2]
  exact ⟨_, rfl, IntsIn.nil, b⟩
theorem mask_ne {r : Reg} (hv : r.Valid) (h : 1 ≤ r.cells.length) : r.mask ≠ 0 := fun e => by
  have := congrArg List.length (cells_bits hv)
  rw [e, List.length_map] at this
  have h0 : (bitsTo 0 36).length = 0 := by decide
  omega
theorem hv_some {r : Reg} (hs : hvS r = true) {j : Nat} (hj : j < 2 ^ (r.cells.length - 1)) (h1 : hOk r j = true) (h2 : ∀ i < j, hOk r i = false) : hvR r = some j := by
  unfold hvR
  rw [if_pos hs, List.find?_range_eq_some]
  exact ⟨h1, List.mem_range.2 hj, fun i hi => by rw [h2 i hi]; rfl⟩
theorem hv_none {r : Reg} (h : ∀ i < 2 ^ (r.cells.length - 1), hOk r i = false) : hvR r = none := by
  unfold hvR
  split
  · rw [List.find?_eq_none]
    intro i hi
    rw [h i (List.mem_range.1 hi)]
    decide
  · rfl
theorem sub_on {r : Reg} (hv : r.Valid) {s : List Cell} (h : s.Sublist r.cells) : ∀ c ∈ s, On c := fun c hc => by
  obtain ⟨h1, h2, h3, h4⟩ := has_in (Reg.cells_mem.1 (h.subset hc))
  have := hv.2.1
  have := hv.2.2.2.1
  exact ⟨⟨h1, by omega⟩, h3, by omega⟩
theorem HvPost.yes {r : Reg} {w w' : World} {j M N : Nat} {v : Value} (h : hvR r = some j) (hM : M = sumB r (halfC r j)) (hN : N = sumB r (restC r j)) (o : IntsIn w' w.heap.size w'.heap.size v (nl [M, N])) (b : Below w.heap.size w w') : HvPost r w (.returned (.tuple #[v, .bool true])) w' := by
  have h2 : hvL r = [M, N] := by unfold hvL; rw [h, hM, hN]
  unfold HvPost
  rw [h, h2]
  exact ⟨_, rfl, o, b⟩
/-- the numbers ahead of the loop -/
structure HvN (m p R : Nat) : Prop where
  ng : wrap64 (-(m : Int)) = -(m : Int)
  an : bits .and .i64 (m : Int) (-(m : Int)) = (p : Int)
  an2 : bits .andNot .i64 (m : Int) (p : Int) = (R : Int)
theorem andNot_part {m M N : Nat} (hm : m < 2 ^ 36) (h : M &&& m = M) (hs : M + N = m) : bits .andNot .i64 (m : Int) (M : Int) = (N : Int) := by
  rw [i64_andNot_nat m M (by omega) (by omega), sub_and h (by omega), show m - M = N by omega]
theorem hvN {m : Nat} (h0 : m ≠ 0) (hm : m < 2 ^ 36) : HvN m (2 ^ lowB m) (m - 2 ^ lowB m) := by
  have h1 := (lowB_bits h0 hm).1
  have hle : 2 ^ lowB m ≤ m := Nat.ge_two_pow_of_testBit h1
  refine ⟨IntWalk.wrap64_in _ ⟨by omega, by omega⟩, and_neg h0 hm, andNot_part hm ?_ (by omega)⟩
  apply Nat.eq_of_testBit_eq
  intro i
  rw [Nat.testBit_and, Nat.testBit_two_pow]
  by_cases e : lowB m = i
  · rw [← e, h1]; simp
  · rw [decide_eq_false e]; rfl
set_option maxRecDepth 100000 in
set_option maxHeartbeats 3200000 in
theorem impl_halves_c {v : Value} {r : Reg} (w : World) (h : RegRd w 0 w.heap.size v r) (hn : r.rows.length ≤ 1048576) :
    Calls Tryz.prog 20 #[v] w (HvPost r w) := by
  have HRD : Hid (∀ w1, Below w.heap.size w w1 → RegRd w1 0 w1.heap.size v r) := Lib.hid fun w1 b1 => (h.keep (SameIn.of_below b1 (Nat.le_refl _))).more (Nat.le_refl _) b1.size
  obtain ⟨sr, rfl, hsr⟩ := h
  obtain ⟨A0, c, rfl, _, _⟩ := hsr
  have H0 := (Sep.start w).box 29 #[.int .i64 r.w, .slice A0 r.rows.length c]
  obtain ⟨g, hg⟩ : ∃ g, g = w.heap.size := ⟨_, rfl⟩
  rw [← hg] at H0
  go_enter Tryz.func20, Tryz.ntmps20
  go_upto_region 1 with fail
  rw [← hg]
  generalize (w.alloc (.cells #[.int .i64 r.w, .slice A0 r.rows.length c] 29)) = W at *
  clear hg
  have c0 : W.cell? ⟨g, 0, none⟩ = some (.int .i64 r.w) := H0.h0.cell 0
  have c1 : W.cell? ⟨g, 1, none⟩ = some (.slice A0 r.rows.length c) := H0.h0.cell 1
  have HAR := Lib.hid (impl_area_c W (HRD.out W H0.below) hn)
  obtain ⟨N, hN⟩ : ∃ N, N = areaR r := ⟨_, rfl⟩
  rw [← hN] at HAR
  have HS : Hid (hvS r = (decide (2 ≤ N) && (decide (N ≤ 16) && decide (N % 2 = 0)))) := Lib.hid (by rw [hN]; rfl)
  have HN := Lib.hid hN
  clear hN
  go_wp2_with fail
  refine (HAR.out).mono ?_
  rintro e w1 ⟨rfl, b1⟩
  have H1 := H0.step b1
  clear c0 c1 H0 HAR b1
  have hb := H1.below
  by_cases h2 : N < 2
  · have hd : decide (N < 2) = true := decide_eq_true h2
    have HNO := Lib.hid (hvS_f (r := r) (by rw [HS.out, decide_eq_false (by omega)]; rfl))
    clear HS h2
    go_wp2_with fail
    go_ret2
    exact HvPost.no HNO.out hb
  have hd : decide (N < 2) = false := decide_eq_false h2
  by_cases h16 : 16 < N
  · have hd2 : decide (16 < N) = true := decide_eq_true h16
    have HNO := Lib.hid (hvS_f (r := r) (by rw [HS.out, decide_eq_false (show ¬ N ≤ 16 by omega), Bool.false_and, Bool.and_false]))
    clear HS h2 h16
    go_wp2_with fail
    go_ret2
    exact HvPost.no HNO.out hb
  have hd2 : decide (16 < N) = false := decide_eq_false h16
  obtain ⟨n, rfl⟩ : ∃ n : Nat, N = (n : Int) := ⟨N.toNat, by omega⟩
  obtain ⟨q, hq⟩ : ∃ q : Nat, q = n % 2 := ⟨_, rfl⟩
  have hq1 : (n : Int).tmod 2 = (q : Int) := by rw [hq, Int.tmod_eq_emod_of_nonneg (Int.natCast_nonneg _)]; rfl
  have hq2 : q < 2 := by omega
  have hq3 : wrap64 (q : Int) = (q : Int) := IntWalk.wrap64_in _ ⟨by omega, by omega⟩
  by_cases hp : q = 0
  rotate_left
  · obtain rfl : q = 1 := by omega
    have HNO := Lib.hid (hvS_f (r := r) (by rw [HS.out, decide_eq_false (show ¬ (n : Int) % 2 = 0 by omega), Bool.and_false, Bool.and_false]))
    clear HS hq hq2 hp hq3
    go_wp2_with fail
    go_ret2
    exact HvPost.no HNO.out hb
  subst hp
  have hq4 : (n : Int).tmod 2 = 0 := hq1
  have hq5 : (n : Int) % 2 = 0 := by omega
  clear hq hq1 hq2 hq3
  have hvs : hvS r = true := by rw [HS.out, decide_eq_true (show 2 ≤ (n : Int) by omega), decide_eq_true (show (n : Int) ≤ 16 by omega), decide_eq_true (show (n : Int) % 2 = 0 by omega)]; rfl
  have hval : r.valid = true := by
    cases hv : r.valid
    · have := HN.out
      unfold areaR at this
      rw [hv] at this
      have : (n : Int) = -1 := this
      omega
    · rfl
  have HV := Lib.hid (Reg.valid_iff.1 hval)
  have hnc : n = r.cells.length := by
    have := HN.out
    unfold areaR at this
    rw [hval] at this
    have : (n : Int) = (r.cells.length : Int) := this
    omega
  have HM0 := Lib.hid (mask_ne HV.out (by omega))
  have HVS := Lib.hid hvs
  have HNC := Lib.hid hnc
  obtain ⟨wn, hwn⟩ : ∃ wn : Nat, r.w = (wn : Int) := ⟨r.w.toNat, by have := HV.out.1; omega⟩
  have HWN := Lib.hid hwn
  clear hwn
  have HMK := Lib.hid (impl_mask_c w1 (HRD.out w1 H1.below) HV.out)
  have HNN := Lib.hid (hvN HM0.out (Reg.mask_lt HV.out))
  obtain ⟨hl36, hlow, hlen⟩ := cells_low HV.out HM0.out
  have HCR : Hid (cntB (r.mask - 2 ^ lowB r.mask) ≤ 16) := Lib.hid (by
    unfold cntB
    rw [← bitsTo_cnt]
    omega)
  have HM36 := Lib.hid (Reg.mask_lt HV.out)
  have HSL : Hid ((subs (r.mask - 2 ^ lowB r.mask) 36).length = 2 ^ (n - 1)) := Lib.hid (by rw [subs_len, HNC.out, hlen]; rfl)
  have HAT : Hid (∀ j, j < 2 ^ (n - 1) → ∃ x, (subs (r.mask - 2 ^ lowB r.mask) 36)[j]? = some x ∧ HalAt r j x (sumB r (halfC r j)) (sumB r (restC r j))) := Lib.hid (by rw [HNC.out]; exact fun j hj => hal_at HV.out HM0.out hj)
  obtain ⟨m, hm⟩ : ∃ m, m = r.mask := ⟨_, rfl⟩
  obtain ⟨p, hp⟩ : ∃ p, p = 2 ^ lowB r.mask := ⟨_, rfl⟩
  obtain ⟨R, hR⟩ : ∃ R, R = r.mask - 2 ^ lowB r.mask := ⟨_, rfl⟩
  rw [← hR] at HNN HCR HSL HAT
  rw [← hp, ← hm] at HNN
  rw [← hm] at HMK HM36
  have HRM : Hid (R ≤ m) := Lib.hid (by omega)
  have HM := Lib.hid hm
  have HP := Lib.hid hp
  clear hm hp hR hl36 hlow hlen hnc hvs hval HS
  have c0 : w1.cell? ⟨g, 0, none⟩ = some (.int .i64 r.w) := H1.h0.cell 0
  have c1 : w1.cell? ⟨g, 1, none⟩ = some (.slice A0 r.rows.length c) := H1.h0.cell 1
  go_wp2_with fail
  refine (HMK.out).mono ?_
  rintro e w2 ⟨rfl, b2⟩
  have H2 := H1.step b2
  have HSB := Lib.hid (subs_c w2 (Nat.lt_of_le_of_lt HRM.out HM36.out) HCR.out)
  obtain ⟨z1, z2, z3⟩ := HNN.out
  clear c0 c1 H1 HMK b2 hb hd hd2 hq4 hq5
  go_wp2_with fail
  refine (HSB.out).mono ?_
  rintro e w4 ⟨v5, rfl, o5, b5⟩
  have H4 := H2.step b5
  have hrs : IntsRd w4 0 w4.heap.size v5 (nl (subs R 36)) := (IntsIn.rd o5).more (Nat.zero_le _) (Nat.le_refl _)
  obtain ⟨S, hS⟩ : ∃ S, S = subs R 36 := ⟨_, rfl⟩
  rw [← hS] at hrs HSL HAT
  obtain ⟨K, hK⟩ : ∃ K, K = S.length := ⟨_, rfl⟩
  have hnl : (nl S).length = K := by simp [nl]; exact hK.symm
  obtain ⟨As, cs, rfl, _, _⟩ := id hrs
  rw [hnl] at hrs ⊢
  have HRS := Lib.hid hrs
  rw [← hK] at HSL
  have HK6 : Hid (K ≤ 65536) := Lib.hid (by rw [hK, hS]; exact subs_len_le HCR.out (Nat.le_refl _))
  have hk6 := HK6.out
  have HB4 := Lib.hid H4.below
  clear hnl hrs hS hK HSB o5 b5 H2 z1 z2 z3 HNN HCR
  go_wp2
  go_loopw [34] (fun iv wx => ∃ j : Nat, j ≤ K ∧ iv = .int .i64 j ∧ Hid (∀ i < j, hOk r i = false) ∧ Sep w wx [Res.box g 29 #[.int .i64 r.w, .slice A0 r.rows.length c]] ∧ Below w4.heap.size w4 wx) (fun iv _ => K - (intOf iv).toNat)
  case atStart => exact ⟨0, Nat.zero_le _, rfl, Lib.hid (fun i h => by omega), H4, Below.refl _ _⟩
  case round =>
    clear H4
    obtain ⟨j, hj, rfl, HF, H, hB⟩ := hrel
    by_cases hjk : j < K
    · have hji : (j : Int) < (K : Int) := by omega
      obtain ⟨x, hx, hat⟩ := HAT.out j (by rw [← HSL.out]; exact hjk)
      obtain ⟨M, hM⟩ : ∃ M, M = sumB r (halfC r j) := ⟨_, rfl⟩
      obtain ⟨Nn, hNn⟩ : ∃ M, M = sumB r (restC r j) := ⟨_, rfl⟩
      rw [← hM, ← hNn] at hat
      obtain ⟨bs, off, rfl, hbs, y0⟩ := ints_atZ ((HRS.out.keep (SameIn.of_below hB (Nat.le_refl _))).more (Nat.le_refl _) hB.size) (show (nl S)[j]? = some (x : Int) by simp [nl, hx])
      have hm36 := HM36.out
      have hMN : M + Nn = m := by rw [HM.out]; exact hat.sum
      have hM36 : M < 68719476736 := by omega
      have hxM : x ≤ M := by rw [← hat.or]; exact Nat.left_le_or
      have hpM : p ≤ M := by rw [HP.out, ← hat.or]; exact Nat.right_le_or
      have hor : bits .or .i64 (x : Int) (p : Int) = (M : Int) := by rw [i64_or_nat x p (by omega) (by omega), HP.out, hat.or]
      have hu1 : IntKind.u64.wrap (M : Int) = (M : Int) := u64_in _ (by omega)
      have hNo : bits .andNot .i64 (m : Int) (M : Int) = (Nn : Int) := andNot_part hm36 (by rw [HM.out]; exact hat.sub) hMN
      have hN36 : Nn < 68719476736 := by omega
      have HO := Lib.hid (ones36_c M wr hM36)
      obtain ⟨cn, hcn⟩ : ∃ n, n = cntB M := ⟨_, rfl⟩
      rw [← hcn] at HO
      obtain ⟨C, hC⟩ : ∃ C, C = halfC r j := ⟨_, rfl⟩
      obtain ⟨D, hD⟩ : ∃ C, C = restC r j := ⟨_, rfl⟩
      have HCL : Hid (cn = C.length) := Lib.hid (by rw [hcn, hC]; exact hat.cnt)
      have HOK : Hid (hOk r j = (decide (cn = n / 2) && (hangs C && congr C D))) := Lib.hid (by rw [hcn, hat.cnt, hC, hD, HNC.out]; rfl)
      have HCM : Hid (cellsM r.w.toNat M = C) := Lib.hid (by rw [hC]; exact hat.one)
      have HDM : Hid (cellsM r.w.toNat Nn = D) := Lib.hid (by rw [hD]; exact hat.two)
      have HCS : Hid (C.Nodup ∧ (∀ c ∈ C, On c) ∧ C.length ≤ 36) := Lib.hid (by
        rw [hC]
        exact ⟨srt_nodup ((srt_cells HV.out).sublist half_sub), sub_on HV.out half_sub, Nat.le_trans half_sub.length_le (Reg.cells_le HV.out)⟩)
      have HDS : Hid (D.length ≤ 36) := Lib.hid (by rw [hD]; exact Nat.le_trans rest_sub.length_le (Reg.cells_le HV.out))
      have HMM := Lib.hid hM
      have HNM := Lib.hid hNn
      obtain ⟨q2, hq2⟩ : ∃ q, q = n / 2 := ⟨_, rfl⟩
      rw [← hq2] at HOK
      have hdq : (n : Int).tdiv 2 = (q2 : Int) := by rw [Int.tdiv_eq_ediv_of_nonneg (Int.natCast_nonneg _), hq2]; rfl
      have hdq2 : (n : Int) / 2 = (q2 : Int) := by rw [hq2]; rfl
      have HXS := Lib.hid hx
      clear hx hat hM hNn hm36 hMN hxM hpM hcn hC hD hq2
      by_cases hl : cn = q2
      rotate_left
      · have hne : ((cn : Int) != (q2 : Int)) = true := by simp; omega
        have HF2 : Hid (∀ i < j + 1, hOk r i = false) := Lib.hid (fun i hi => by
          by_cases e : i = j
          · rw [e, HOK.out, decide_eq_false hl]; rfl
          · exact HF.out i (by omega))
        go_wp2_with fail
        refine (HO.out).mono ?_
        rintro e w5 ⟨rfl, rfl⟩
        go_wp2
        go_roundw
        case rel => exact ⟨j + 1, by omega, by go_num, HF2, H, hB⟩
        case measure => simp [intOf]; omega
      have hne : ((cn : Int) != (q2 : Int)) = false := by simp; omega
      have HPL : Hid (∀ (w' : World) (X : Nat), X < 2 ^ 36 → Calls Tryz.prog 53 #[.int .i64 r.w, .int .i64 (X : Int)] w' fun e w'' => ∃ v', e = .returned v' ∧ CellsIn w'' w'.heap.size w''.heap.size v' (cellsM r.w.toNat X) ∧ Below w'.heap.size w' w'') := Lib.hid (fun w' X hX => by
        have h1 := HV.out.1
        have h2 := HV.out.2.1
        have := impl_places_c w' (wn := r.w.toNat) (m := X) (by omega) (by omega) hX
        rwa [Int.toNat_of_nonneg (by omega)] at this)
      have HP1 := HPL.out wr M hM36
      rw [HCM.out] at HP1
      have HP1 := Lib.hid HP1
      have c0 : wr.cell? ⟨g, 0, none⟩ = some (.int .i64 r.w) := H.h0.cell 0
      have HLL := Lib.hid hl
      clear hl
      go_wp2_with fail
      refine (HO.out).mono ?_
      rintro e w5 ⟨rfl, rfl⟩
      go_wp2_with fail
      refine (HP1.out).mono ?_
      rintro e w6 ⟨v6, rfl, o6, b6⟩
      have H6 := H.step b6
      have hB6 := hB.trans (b6.mono hB.size)
      have hO6 : CellsRd w6 0 w6.heap.size v6 C := o6.rd.more (Nat.zero_le _) (Nat.le_refl _)
      obtain ⟨Ac, cvc, rfl, _, _⟩ := id hO6
      have HO6 := Lib.hid hO6
      have HH := Lib.hid (hangs_c w6 HO6.out (by have := HCS.out.2.2; omega) HCS.out.1 HCS.out.2.1)
      clear c0 H hB o6 b6 hO6 HP1 HO hne hor hu1 y0
      go_wp2_with fail
      refine (HH.out).mono ?_
      rintro e w7 ⟨rfl, b7⟩
      have H7 := H6.step b7
      have hB7 := hB6.trans (b7.mono hB6.size)
      have HO7 := Lib.hid ((HO6.out.keep (SameIn.of_below b7 (Nat.le_refl _))).more (Nat.le_refl _) b7.size)
      have HOK2 : Hid (hOk r j = (hangs C && congr C D)) := Lib.hid (by rw [HOK.out, decide_eq_true HLL.out, Bool.true_and])
      clear HH HO6 b7 H6 hB6 HOK
      cases hh : hangs C
      · have HF2 : Hid (∀ i < j + 1, hOk r i = false) := Lib.hid (fun i hi => by
          by_cases e : i = j
          · rw [e, HOK2.out, hh]; rfl
          · exact HF.out i (by omega))
        clear hh
        go_wp2
        go_roundw
        case rel => exact ⟨j + 1, by omega, by go_num, HF2, H7, hB7⟩
        case measure => simp [intOf]; omega
      have HOK3 : Hid (hOk r j = congr C D) := Lib.hid (by rw [HOK2.out, hh, Bool.true_and])
      have HP2 := HPL.out w7 Nn hN36
      rw [HDM.out] at HP2
      have HP2 := Lib.hid HP2
      have c0 : w7.cell? ⟨g, 0, none⟩ = some (.int .i64 r.w) := H7.h0.cell 0
      clear hh HOK2
      go_wp2_with fail
      refine (HP2.out).mono ?_
      rintro e w8 ⟨v8, rfl, o8, b8⟩
      have H8 := H7.step b8
      have hB8 := hB7.trans (b8.mono hB7.size)
      have HO8 := Lib.hid ((HO7.out.keep (SameIn.of_below b8 (Nat.le_refl _))).more (Nat.le_refl _) b8.size)
      have hD8 : CellsRd w8 0 w8.heap.size v8 D := o8.rd.more (Nat.zero_le _) (Nat.le_refl _)
      obtain ⟨Ad, cvd, rfl, _, _⟩ := id hD8
      have HG := Lib.hid (impl_congr_c w8 HO8.out hD8 (by have := HCS.out.2.2; omega) (by have := HDS.out; omega))
      clear c0 H7 hB7 o8 b8 hD8 HP2 HO7
      go_wp2_with fail
      refine (HG.out).mono ?_
      rintro e w9 ⟨rfl, b9⟩
      have H9 := H8.step b9
      have hB9 := hB8.trans (b9.mono hB8.size)
      clear HG H8 hB8 b9 HO8
      cases hg : congr C D
      · have HF2 : Hid (∀ i < j + 1, hOk r i = false) := Lib.hid (fun i hi => by
          by_cases e : i = j
          · rw [e, HOK3.out, hg]
          · exact HF.out i (by omega))
        clear hg
        go_wp2
        go_roundw
        case rel => exact ⟨j + 1, by omega, by go_num, HF2, H9, hB9⟩
        case measure => simp [intOf]; omega
      have HYES := Lib.hid (hv_some HVS.out (by rw [← HNC.out, ← HSL.out]; exact hjk) (by rw [HOK3.out, hg]) HF.out)
      have H10 := H9.rowBox 3 #[.int .i64 (M : Int), .int .i64 (Nn : Int)] 1 2 rfl (by decide)
      clear hg
      go_wp2
      go_ret2
      exact HvPost.yes HYES.out HMM.out HNM.out (IntsIn.mk H10.oi.1 rfl rfl) H10.below
    · obtain rfl : j = K := by omega
      have HNO := Lib.hid (hv_none (r := r) (by rw [← HNC.out, ← HSL.out]; exact HF.out))
      have hb := H.below
      clear H
      go_wp2
      go_ret2
      exact HvPost.no HNO.out hb
end Go.Proofs.YtppbkiajcpdkiaaGreatDoor

namespace Go.Proofs.YtppbkiajcpdkiaaGreatDoor
open Go.RowKit

theorem HvPost.noS {r : Reg} {w w' : World} {v : Value} (h : hvR r = none) (o : IntsIn w' w.heap.size w'.heap.size v []) (b : Below w.heap.size w w') : HvPost r w (.returned (.tuple #[v, .bool false])) w' := by
  obtain ⟨h1, h2⟩ := hv_no h
  unfold HvPost
  rw [h1, h2]
  exact ⟨_, rfl, o, b⟩
theorem pow16 : ∀ n : Fin 17, wrap64 ((2 : Int) ^ n.val) = ((2 ^ n.val : Nat) : Int) ∧ min n.val 64 = n.val ∧ 2 ^ n.val ≤ 65536 := by decide +kernel
set_option maxRecDepth 100000 in
set_option maxHeartbeats 3200000 in
theorem spec_halves_c {v : Value} {r : Reg} (w : World) (h : RegRd w 0 w.heap.size v r) (hn : r.rows.length ≤ 1048576) :
    Calls Tryz.prog 21 #[v] w (HvPost r w) := by
  obtain ⟨i0, hi0, hi1, hi3, hi4⟩ := info_parts infoCell
  have HRD : Hid (∀ w1, Below w.heap.size w w1 → RegRd w1 0 w1.heap.size v r) := Lib.hid fun w1 b1 => (h.keep (SameIn.of_below b1 (Nat.le_refl _))).more (Nat.le_refl _) b1.size
  obtain ⟨sr, rfl, hsr⟩ := h
  obtain ⟨A0, c, rfl, _, _⟩ := hsr
  have H0 := (Sep.start w).box 29 #[.int .i64 r.w, .slice A0 r.rows.length c]
  obtain ⟨g, hg⟩ : ∃ g, g = w.heap.size := ⟨_, rfl⟩
  rw [← hg] at H0
  go_enter Tryz.func21, Tryz.ntmps21
  go_upto_region 1 with fail
  rw [← hg]
  generalize (w.alloc (.cells #[.int .i64 r.w, .slice A0 r.rows.length c] 29)) = W at *
  clear hg
  have c0 : W.cell? ⟨g, 0, none⟩ = some (.int .i64 r.w) := H0.h0.cell 0
  have c1 : W.cell? ⟨g, 1, none⟩ = some (.slice A0 r.rows.length c) := H0.h0.cell 1
  have HAR := Lib.hid (spec_area_c W (HRD.out W H0.below) hn)
  obtain ⟨N, hN⟩ : ∃ N, N = areaR r := ⟨_, rfl⟩
  rw [← hN] at HAR
  have HS : Hid (hvS r = (decide (2 ≤ N) && (decide (N ≤ 16) && decide (N % 2 = 0)))) := Lib.hid (by rw [hN]; rfl)
  have HN := Lib.hid hN
  clear hN
  go_wp2_with fail
  refine (HAR.out).mono ?_
  rintro e w1 ⟨rfl, b1⟩
  have H1 := H0.step b1
  clear c0 c1 H0 HAR b1
  have hb := H1.below
  by_cases h2 : N < 2
  · have hd : decide (N < 2) = true := decide_eq_true h2
    have HNO := Lib.hid (hvS_f (r := r) (by rw [HS.out, decide_eq_false (by omega)]; rfl))
    clear HS h2
    have H2 := H1.rowBox 3 #[] 1 0 rfl (by decide)
    go_wp2_with fail
    go_ret2
    exact HvPost.noS HNO.out H2.oi H2.below
  have hd : decide (N < 2) = false := decide_eq_false h2
  by_cases h16 : 16 < N
  · have hd2 : decide (16 < N) = true := decide_eq_true h16
    have HNO := Lib.hid (hvS_f (r := r) (by rw [HS.out, decide_eq_false (show ¬ N ≤ 16 by omega), Bool.false_and, Bool.and_false]))
    clear HS h2 h16
    have H2 := H1.rowBox 3 #[] 1 0 rfl (by decide)
    go_wp2_with fail
    go_ret2
    exact HvPost.noS HNO.out H2.oi H2.below
  have hd2 : decide (16 < N) = false := decide_eq_false h16
  obtain ⟨n, rfl⟩ : ∃ n : Nat, N = (n : Int) := ⟨N.toNat, by omega⟩
  obtain ⟨q, hq⟩ : ∃ q : Nat, q = n % 2 := ⟨_, rfl⟩
  have hq1 : (n : Int).tmod 2 = (q : Int) := by rw [hq, Int.tmod_eq_emod_of_nonneg (Int.natCast_nonneg _)]; rfl
  have hq2 : q < 2 := by omega
  have hq3 : wrap64 (q : Int) = (q : Int) := IntWalk.wrap64_in _ ⟨by omega, by omega⟩
  by_cases hp : q = 0
  rotate_left
  · obtain rfl : q = 1 := by omega
    have HNO := Lib.hid (hvS_f (r := r) (by rw [HS.out, decide_eq_false (show ¬ (n : Int) % 2 = 0 by omega), Bool.and_false, Bool.and_false]))
    clear HS hq hq2 hp hq3
    have H2 := H1.rowBox 3 #[] 1 0 rfl (by decide)
    go_wp2_with fail
    go_ret2
    exact HvPost.noS HNO.out H2.oi H2.below
  subst hp
  have hq4 : (n : Int).tmod 2 = 0 := hq1
  have hq5 : (n : Int) % 2 = 0 := by omega
  have hn16 : n ≤ 16 := by omega
  clear hq hq1 hq2 hq3
  have hvs : hvS r = true := by rw [HS.out, decide_eq_true (show 2 ≤ (n : Int) by omega), decide_eq_true (show (n : Int) ≤ 16 by omega), decide_eq_true (show (n : Int) % 2 = 0 by omega)]; rfl
  have hval : r.valid = true := by
    cases hv : r.valid
    · have := HN.out
      unfold areaR at this
      rw [hv] at this
      have : (n : Int) = -1 := this
      omega
    · rfl
  have HV := Lib.hid (Reg.valid_iff.1 hval)
  have hnc : n = r.cells.length := by
    have := HN.out
    unfold areaR at this
    rw [hval] at this
    have : (n : Int) = (r.cells.length : Int) := this
    omega
  have HM0 := Lib.hid (mask_ne HV.out (by omega))
  have HVS := Lib.hid hvs
  have HNC := Lib.hid hnc
  have HN1 : Hid (2 ^ n = 2 * 2 ^ (n - 1)) := Lib.hid (by rw [← Nat.pow_succ', Nat.succ_eq_add_one, show n - 1 + 1 = n by omega])
  obtain ⟨z1, z2, z3⟩ := pow16 ⟨n, by omega⟩
  obtain ⟨P, hP⟩ : ∃ P, P = 2 ^ n := ⟨_, rfl⟩
  obtain ⟨K, hK⟩ : ∃ K, K = 2 ^ (n - 1) := ⟨_, rfl⟩
  have z1 : wrap64 ((2 : Int) ^ n) = (P : Int) := by rw [hP]; exact z1
  have z2 : min n 64 = n := z2
  have hPK : P = 2 * K := by rw [hP, hK]; exact HN1.out
  have hP16 : P ≤ 65536 := by rw [hP]; exact z3
  have HK := Lib.hid hK
  have HPP := Lib.hid hP
  have HMK := Lib.hid (spec_mask_c w1 (HRD.out w1 H1.below) HV.out)
  obtain ⟨m, hm⟩ : ∃ m, m = r.mask := ⟨_, rfl⟩
  rw [← hm] at HMK
  have HM := Lib.hid hm
  have HM36 : Hid (m < 2 ^ 36) := Lib.hid (by rw [hm]; exact Reg.mask_lt HV.out)
  have HCE : Hid (∀ w2, Below w.heap.size w w2 → Calls Tryz.prog 58 #[.agg #[.int .i64 r.w, .slice A0 r.rows.length c]] w2 fun en w' => ∃ v', en = .returned v' ∧ CellsIn w' w2.heap.size w'.heap.size v' r.cells ∧ Below w2.heap.size w2 w') := Lib.hid (fun w2 b => by
    have := spec_cells_c w2 (HRD.out w2 b) hn
    rwa [if_pos (Reg.valid_iff.2 HV.out)] at this)
  have c0 : w1.cell? ⟨g, 0, none⟩ = some (.int .i64 r.w) := H1.h0.cell 0
  have c1 : w1.cell? ⟨g, 1, none⟩ = some (.slice A0 r.rows.length c) := H1.h0.cell 1
  have Z1 := Lib.hid z1
  have Z2 := Lib.hid z2
  have HN16 := Lib.hid hn16
  have HP16 := Lib.hid hP16
  have HPK := Lib.hid hPK
  have HPI : Hid ((2 : Int) ^ n = (P : Int)) := Lib.hid (by rw [hP]; simp)
  clear z1 z2 z3 hP hK hPK hm hnc hvs hval HS hP16
  go_wp2_with fail
  refine (HMK.out).mono ?_
  rintro e w2 ⟨rfl, b2⟩
  have H2 := H1.step b2
  clear c0 c1 H1 HMK b2 hb hd hd2 hq4 hq5
  have c0 : w2.cell? ⟨g, 0, none⟩ = some (.int .i64 r.w) := H2.h0.cell 0
  have c1 : w2.cell? ⟨g, 1, none⟩ = some (.slice A0 r.rows.length c) := H2.h0.cell 1
  have HCC := Lib.hid (HCE.out w2 H2.below)
  clear HCE
  go_wp2_with fail
  refine (HCC.out).mono ?_
  rintro e w3 ⟨v3, rfl, o3, b3⟩
  obtain ⟨C, hC⟩ : ∃ C, C = r.cells := ⟨_, rfl⟩
  have HCEQ := Lib.hid hC
  have hCn : n = C.length := by rw [hC]; exact HNC.out
  have hn2 : 2 ≤ n := by omega
  have H3 := H2.oiNew b3 o3
  rw [← hC] at H3
  have H3 : Sep w w3 [Res.row v3 65 2 n (cc C), Res.box g 29 #[.int .i64 r.w, .slice A0 r.rows.length c]] := by rw [hCn]; exact H3
  obtain ⟨gC, oC, cC, rfl, _, _, _⟩ := own_shape H3.h0 (by omega)
  obtain ⟨rfl, _⟩ := own_blk H3.h0
  have HCN := Lib.hid hCn
  clear c0 c1 HCC o3 b3 H2 hC hCn
  go_wp2
  go_loopw [7] (fun cv wx => ∃ j : Nat, j ≤ K ∧ cv = .int .i64 ((2 * j + 1 : Nat) : Int) ∧ Hid (∀ i < j, hOk r i = false) ∧ Sep w wx [Res.row (.slice (some ⟨gC, 0, none⟩) n cC) 65 2 n (cc C), Res.box g 29 #[.int .i64 r.w, .slice A0 r.rows.length c]]) (fun cv _ => 2 * K + 1 - (intOf cv).toNat)
  case atStart => exact ⟨0, Nat.zero_le _, rfl, Lib.hid (fun i h => by omega), H3⟩
  case round =>
    clear H3
    obtain ⟨j, hj, rfl, HF, H⟩ := hrel
    obtain ⟨code, hcode⟩ : ∃ code, code = 2 * j + 1 := ⟨_, rfl⟩
    rw [← hcode]
    have HCD := Lib.hid hcode
    by_cases hjk : j < K
    · have hlt : (code : Int) < (P : Int) := by have := HPK.out; omega
      have hlt2 : decide ((code : Int) < (2 : Int) ^ n) = true := by rw [HPI.out]; exact decide_eq_true hlt
      clear hlt
      clear hcode
      have z2 := Z2.out
      have H5 := (H.rowBox 65 #[] 2 0 rfl (by decide)).rowBox 65 #[] 2 0 rfl (by decide)
      simp only [World.size_alloc] at H5
      clear H
      go_wp2
      generalize wrap64 ((2 : Int) ^ n) = Q33
      go_loopw [8, 9, 10] (fun hv rv iv wx => ∃ i : Nat, i ≤ n ∧ iv = .int .i64 i ∧ Sep w wx [Res.row rv 65 2 (pickTo C code false i).length (cc (pickTo C code false i)), Res.row hv 65 2 (pickTo C code true i).length (cc (pickTo C code true i)), Res.row (.slice (some ⟨gC, 0, none⟩) n cC) 65 2 n (cc C), Res.box g 29 #[.int .i64 r.w, .slice A0 r.rows.length c]]) (fun _ _ iv _ => n - (intOf iv).toNat)
      case atStart => exact ⟨0, Nat.zero_le _, rfl, H5⟩
      case round =>
        clear H5
        obtain ⟨i, hi2, rfl, H⟩ := hrel
        by_cases hin : i < n
        · have hini : (i : Int) < (n : Int) := by omega
          obtain ⟨d, hd⟩ : ∃ d, C[i]? = some d := ⟨C[i]'(by rw [← HCN.out]; exact hin), List.getElem?_eq_getElem _⟩
          obtain ⟨q1, q2⟩ := own_cell2 H.h2 hd
          simp only [Nat.zero_add] at q1 q2
          have hc63 : code < 9223372036854775808 := by have := HPK.out; have := HP16.out; have := HCD.out; omega
          have hBT := bit_test (m := code) (x := i) hc63
          have z3 : min i 64 = i := by have := HN16.out; omega
          have HP1 : Hid (∀ b, pickTo C code b (i + 1) = pickTo C code b i ++ if code.testBit i = b then [d] else []) := Lib.hid (fun b => by rw [pickTo, hd]; rfl)
          have HPL : ∀ b, (pickTo C code b i).length ≤ 16 := fun b => by
            have h1 := (pick_sub (C := C) (c := code) (b := b) i).length_le
            have := HN16.out
            rw [List.length_take] at h1
            omega
          have hpt := HPL true
          have hpf := HPL false
          clear hd hc63 HPL z2
          cases hb : code.testBit i
          · rw [hb] at hBT
            have HE : Hid (pickTo C code false (i + 1) = pickTo C code false i ++ [d] ∧ pickTo C code true (i + 1) = pickTo C code true i) := Lib.hid ⟨by rw [HP1.out, hb, if_pos rfl], by rw [HP1.out, hb, if_neg (by decide), List.append_nil]⟩
            clear hb HP1
            go_wp2_with (at_builtin; refine wpList_app rfl _ _ 24 rfl 65 i0 _ 2 16 Tryz.underlying24 hi0 hi1 hi3 hi4 rfl (by decide) _ _ _ rfl (H.alloc _) _ _ _ [.int .i64 d.x, .int .i64 d.y] rfl (Rd.fresh _ _ #[.int .i64 d.x, .int .i64 d.y] 2 1 rfl) oc2 (by unfold maxLen; omega) (by omega) ?_; intro v2 w4 H4)
            have H5 : Sep w w4 [Res.row v2 65 2 (pickTo C code false (i + 1)).length (cc (pickTo C code false (i + 1))), Res.row u8 65 2 (pickTo C code true (i + 1)).length (cc (pickTo C code true (i + 1))), Res.row (.slice (some ⟨gC, 0, none⟩) n cC) 65 2 n (cc C), Res.box g 29 #[.int .i64 r.w, .slice A0 r.rows.length c]] := by
              rw [HE.out.1, HE.out.2, List.length_append, cc_append]
              exact H4
            clear H H4
            go_roundw
            case rel => exact ⟨i + 1, by omega, by go_num, H5⟩
            case measure => simp [intOf]; omega
          · rw [hb] at hBT
            have HE : Hid (pickTo C code true (i + 1) = pickTo C code true i ++ [d] ∧ pickTo C code false (i + 1) = pickTo C code false i) := Lib.hid ⟨by rw [HP1.out, hb, if_pos rfl], by rw [HP1.out, hb, if_neg (by decide), List.append_nil]⟩
            have H0 := H.g1
            clear hb HP1 H
            go_wp2_with (at_builtin; refine wpList_app rfl _ _ 24 rfl 65 i0 _ 2 16 Tryz.underlying24 hi0 hi1 hi3 hi4 rfl (by decide) _ _ _ rfl (H0.alloc _) _ _ _ [.int .i64 d.x, .int .i64 d.y] rfl (Rd.fresh _ _ #[.int .i64 d.x, .int .i64 d.y] 2 1 rfl) oc2 (by unfold maxLen; omega) (by omega) ?_; intro v2 w4 H4)
            have H5 : Sep w w4 [Res.row u9 65 2 (pickTo C code false (i + 1)).length (cc (pickTo C code false (i + 1))), Res.row v2 65 2 (pickTo C code true (i + 1)).length (cc (pickTo C code true (i + 1))), Res.row (.slice (some ⟨gC, 0, none⟩) n cC) 65 2 n (cc C), Res.box g 29 #[.int .i64 r.w, .slice A0 r.rows.length c]] := by
              rw [HE.out.1, HE.out.2, List.length_append, cc_append]
              exact H4.g1
            clear H0 H4
            go_roundw
            case rel => exact ⟨i + 1, by omega, by go_num, H5⟩
            case measure => simp [intOf]; omega
        · have hin2 : i = n := by omega
          subst hin2
          obtain ⟨S, hS⟩ : ∃ S, S = pickTo C code true i := ⟨_, rfl⟩
          obtain ⟨T, hT⟩ : ∃ T, T = pickTo C code false i := ⟨_, rfl⟩
          rw [← hS, ← hT] at H
          have hSH : S = halfC r j := by rw [hS]; unfold halfC; rw [← HNC.out, ← HCEQ.out, ← HCD.out]
          have hTH : T = restC r j := by rw [hT]; unfold restC; rw [← HNC.out, ← HCEQ.out, ← HCD.out]
          have HSS : Hid (S.Sublist r.cells) := Lib.hid (by rw [hSH]; exact half_sub)
          have HTS : Hid (T.Sublist r.cells) := Lib.hid (by rw [hTH]; exact rest_sub)
          have HOK : Hid (hOk r j = (decide (S.length = i / 2) && (hangs S && congr S T))) := Lib.hid (by unfold hOk; rw [← hSH, ← hTH, ← HNC.out])
          have HSUM : Hid (sumB r S + sumB r T = m) := Lib.hid (by rw [hSH, hTH, HM.out]; exact half_rest HV.out)
          have HMS : Hid (maskS r S = some (sumB r S)) := Lib.hid (sub_mask HV.out HSS.out)
          have HL16 : Hid (S.length ≤ 16 ∧ T.length ≤ 16) := Lib.hid (by
            have h1 := HSS.out.length_le
            have h2 := HTS.out.length_le
            rw [← HNC.out] at h1 h2
            have := HN16.out
            omega)
          have HSH := Lib.hid hSH
          have HTH := Lib.hid hTH
          have HSR : CellsRd wr 0 wr.heap.size u8 S := H.g1.oi.sr.more (Nat.zero_le _) (Nat.le_refl _)
          have HTR : CellsRd wr 0 wr.heap.size u9 T := H.oi.sr.more (Nat.zero_le _) (Nat.le_refl _)
          have hb := H.below
          have HDD := H.drop.drop
          clear H
          have H := HDD
          clear HDD
          obtain ⟨A8, c8, rfl, _, _⟩ := id HSR
          obtain ⟨A9, c9, rfl, _, _⟩ := id HTR
          have HSR := Lib.hid HSR
          have HTR := Lib.hid HTR
          obtain ⟨q2, hq2⟩ : ∃ q, q = i / 2 := ⟨_, rfl⟩
          rw [← hq2] at HOK
          have hdq : (i : Int).tdiv 2 = (q2 : Int) := by rw [Int.tdiv_eq_ediv_of_nonneg (Int.natCast_nonneg _), hq2]; rfl
          have hdq2 : (i : Int) / 2 = (q2 : Int) := by rw [hq2]; rfl
          have HC2W : Hid (wrap64 ((code : Int) + 2) = ((2 * (j + 1) + 1 : Nat) : Int)) := Lib.hid (by have h1 := HCD.out; have h2 := HPK.out; have h3 := HP16.out; rw [IntWalk.wrap64_in _ (by omega)]; omega)
          have HW0 : Hid (wrap64 (q2 : Int) = (q2 : Int)) := Lib.hid (IntWalk.wrap64_in _ (by have := HN16.out; omega))
          have HQ8 : Hid (q2 ≤ 8) := Lib.hid (by have := HN16.out; omega)
          clear hS hT hSH hTH hq2 hin hi2 z2
          by_cases hl : S.length = q2
          rotate_left
          · have hne : ((S.length : Int) != (q2 : Int)) = true := by simp; omega
            have HF2 : Hid (∀ i < j + 1, hOk r i = false) := Lib.hid (fun i hi => by
              by_cases e : i = j
              · rw [e, HOK.out, decide_eq_false hl]; rfl
              · exact HF.out i (by omega))
            have hw0 := HW0.out
            go_wp2
            clear hw0
            go_roundw
            case rel => exact ⟨j + 1, by omega, by rw [HC2W.out], HF2, H⟩
            case measure => rw [HC2W.out]; have := HCD.out; simp [intOf]; omega
          have hne : ((S.length : Int) != (q2 : Int)) = false := by simp; omega
          have HCN2 : Hid (connS S = hangs S) := Lib.hid (by
            unfold connS
            rw [isShape_srt ((srt_cells HV.out).sublist HSS.out) (sub_on HV.out HSS.out), inR8, decide_eq_true (by have := HQ8.out; omega), Bool.true_and])
          have HHC := Lib.hid (spec_conn_c wr HSR.out (by have := HL16.out; omega))
          rw [HCN2.out] at HHC
          have HGC : Hid (∀ w1, Below wr.heap.size wr w1 → Calls Tryz.prog 60 #[.slice A8 S.length c8, .slice A9 T.length c9] w1 fun e w' => e = .returned (.bool (congr S T)) ∧ Below w1.heap.size w1 w') := Lib.hid (fun w1 b1 => spec_congr_c w1 ((HSR.out.keep (SameIn.of_below b1 (Nat.le_refl _))).more (Nat.le_refl _) b1.size) ((HTR.out.keep (SameIn.of_below b1 (Nat.le_refl _))).more (Nat.le_refl _) b1.size) (by have := HL16.out; omega) (by have := HL16.out; omega))
          have HMC : Hid (∀ w1, Below wr.heap.size wr w1 → Calls Tryz.prog 61 #[.agg #[.int .i64 r.w, .slice A0 r.rows.length c], .slice A8 S.length c8] w1 fun e w' => e = .returned (.tuple #[.int .i64 (sumB r S : Int), .bool true]) ∧ Below w1.heap.size w1 w') := Lib.hid (fun w1 b1 => by
            have := spec_maskCells_c w1 (HRD.out w1 (hb.trans (b1.mono hb.size))) ((HSR.out.keep (SameIn.of_below b1 (Nat.le_refl _))).more (Nat.le_refl _) b1.size) HV.out (by have := HL16.out; omega)
            rwa [HMS.out] at this)
          have HOK2 : Hid (hOk r j = (hangs S && congr S T)) := Lib.hid (by rw [HOK.out, decide_eq_true hl, Bool.true_and])
          have HLL := Lib.hid hl
          obtain ⟨M, hM⟩ : ∃ M, M = sumB r S := ⟨_, rfl⟩
          obtain ⟨N, hN⟩ : ∃ M, M = sumB r T := ⟨_, rfl⟩
          rw [← hM] at HMC
          rw [← hM, ← hN] at HSUM
          have HMM := Lib.hid hM
          have HNM := Lib.hid hN
          clear hl HOK hdq2 hM hN HMS HSS HTS
          have hw0 := HW0.out
          go_wp2_with fail
          refine (HHC.out).mono ?_
          rintro e w5 ⟨rfl, b5⟩
          have H5 := H.step b5
          clear H HHC hne hw0
          cases hh : hangs S
          · have HF2 : Hid (∀ i < j + 1, hOk r i = false) := Lib.hid (fun i hi => by
              by_cases e : i = j
              · rw [e, HOK2.out, hh]; rfl
              · exact HF.out i (by omega))
            clear hh
            go_wp2
            go_roundw
            case rel => exact ⟨j + 1, by omega, by rw [HC2W.out], HF2, H5⟩
            case measure => rw [HC2W.out]; have := HCD.out; simp [intOf]; omega
          have HOK3 : Hid (hOk r j = congr S T) := Lib.hid (by rw [HOK2.out, hh, Bool.true_and])
          have HG1 := Lib.hid (HGC.out w5 b5)
          clear hh HOK2
          go_wp2_with fail
          refine (HG1.out).mono ?_
          rintro e w6 ⟨rfl, b6⟩
          have H6 := H5.step b6
          have hb6 := b5.trans (b6.mono b5.size)
          clear H5 HG1 HGC
          cases hg : congr S T
          · have HF2 : Hid (∀ i < j + 1, hOk r i = false) := Lib.hid (fun i hi => by
              by_cases e : i = j
              · rw [e, HOK3.out, hg]
              · exact HF.out i (by omega))
            clear hg
            go_wp2
            go_roundw
            case rel => exact ⟨j + 1, by omega, by rw [HC2W.out], HF2, H6⟩
            case measure => rw [HC2W.out]; have := HCD.out; simp [intOf]; omega
          have HYES := Lib.hid (hv_some HVS.out (by rw [← HNC.out, ← HK.out]; exact hjk) (by rw [HOK3.out, hg]) HF.out)
          have HM1 := Lib.hid (HMC.out w6 hb6)
          have c0 : w6.cell? ⟨g, 0, none⟩ = some (.int .i64 r.w) := H6.h1.cell 0
          have c1 : w6.cell? ⟨g, 1, none⟩ = some (.slice A0 r.rows.length c) := H6.h1.cell 1
          clear hg HMC b5 b6 hb6 HOK3
          go_wp2_with fail
          refine (HM1.out).mono ?_
          rintro e w7 ⟨rfl, b7⟩
          have H7 := H6.step b7
          have H8 := H7.rowBox 3 #[.int .i64 (M : Int), .int .i64 (N : Int)] 1 2 rfl (by decide)
          have hsub : (m : Int) - (M : Int) = (N : Int) := by have := HSUM.out; omega
          have hw1 : wrap64 (N : Int) = (N : Int) := IntWalk.wrap64_in _ (by have := HSUM.out; have := HM36.out; omega)
          clear c0 c1 H6 H7 HM1 b7
          go_wp2
          go_ret2
          exact HvPost.yes HYES.out (by rw [HMM.out, HSH.out]) (by rw [HNM.out, HTH.out]) (IntsIn.mk H8.oi.1 rfl rfl) H8.below
    · obtain rfl : j = K := by omega
      have hlt : ¬ (code : Int) < (P : Int) := by have := HPK.out; omega
      have hlt2 : decide ((code : Int) < (2 : Int) ^ n) = false := by rw [HPI.out]; exact decide_eq_false hlt
      clear hlt
      clear hcode
      have HNO := Lib.hid (hv_none (r := r) (by rw [← HNC.out, ← HK.out]; exact HF.out))
      have H5 := H.rowBox 3 #[] 1 0 rfl (by decide)
      have z2 := Z2.out
      clear H
      go_wp2
      go_ret2
      exact HvPost.noS HNO.out H5.oi H5.below
end Go.Proofs.YtppbkiajcpdkiaaGreatDoor

namespace Go.Proofs.YtppbkiajcpdkiaaGreatDoor
open Go.RowKit

theorem same_eq {α : Type} {a b : α} (h : same a b = true) : a = b := by
  by_cases e : a = b
  · exact e
  · rw [same_f e] at h; cases h
theorem moveS_zero {s : List Cell} : moveS s 0 0 = s := by
  unfold moveS
  conv => rhs; rw [← List.map_id s]
  refine List.map_congr_left fun c _ => ?_
  simp
theorem orients_mem {s t : List Cell} : t ∈ orients s ↔ ∃ m, m < 8 ∧ t = turnS m s := by unfold orients; exact orientsTo_mem
theorem canon_mem {s : List Cell} : canonS s ∈ orients s := by
  unfold canonS
  cases h : orients s with
  | nil =>
    have : turnS 0 s ∈ orients s := orients_mem.2 ⟨0, by decide, rfl⟩
    rw [h] at this
    cases this
  | cons a l => exact List.mem_cons_self ..
theorem orients_turn {i : Nat} {s : List Cell} (hi : i < 8) : orients (turnS i s) = orients s := by
  have := orients_moved (i := i) (s := s) (x := 0) (y := 0) hi
  rwa [moveS_zero] at this
theorem congr_orients {a b : List Cell} (h : congr a b = true) : orients a = orients b := by
  unfold congr at h
  rw [Bool.and_eq_true] at h
  have h2 : canonS a = canonS b := same_eq h.2
  obtain ⟨i, hi, ei⟩ := orients_mem.1 (canon_mem (s := a))
  obtain ⟨j, hj, ej⟩ := orients_mem.1 (canon_mem (s := b))
  rw [← orients_turn (s := a) hi, ← ei, h2, ej, orients_turn hj]
theorem hangs_back {s : List Cell} (h : hangs (turnS 0 s) = true) : hangs s = true := by
  have hm : ∀ d, d ∈ turnS 0 s ↔ ∃ c ∈ s, trC 0 s 0 0 c = d := fun d => by
    have := mem_trC (k := 0) (s := s) (x := 0) (y := 0) (d := d)
    rwa [moveS_zero] at this
  have ht : ∀ c : Cell, trC 0 s 0 0 c = ⟨c.x - minX (sortC (s.map (carryC 0))), c.y - minY (sortC (s.map (carryC 0)))⟩ := fun c => by
    unfold trC
    rw [show carryC 0 c = c from rfl]
    simp
  refine hangs_map (f := fun d => ⟨d.x - -minX (sortC (s.map (carryC 0))), d.y - -minY (sortC (s.map (carryC 0)))⟩) (fun a b => side_move) (fun d => ?_) h
  constructor
  · intro hd
    refine ⟨trC 0 s 0 0 d, (hm _).2 ⟨d, hd, rfl⟩, ?_⟩
    rw [ht]
    obtain ⟨x, y⟩ := d
    simp only [Cell.mk.injEq]
    omega
  · rintro ⟨e, he, rfl⟩
    obtain ⟨c, hc, rfl⟩ := (hm e).1 he
    rw [ht]
    obtain ⟨x, y⟩ := c
    have e1 : (⟨x - minX (sortC (s.map (carryC 0))) - -minX (sortC (s.map (carryC 0))), y - minY (sortC (s.map (carryC 0))) - -minY (sortC (s.map (carryC 0)))⟩ : Cell) = ⟨x, y⟩ := by
      simp only [Cell.mk.injEq]
      omega
    rw [e1]
    exact hc
/-- what is congruent to a shape that hangs hangs -/
theorem congr_hangs {a b : List Cell} (h : congr a b = true) (hh : hangs a = true) : hangs b = true := by
  have h1 : turnS 0 b ∈ orients b := orients_mem.2 ⟨0, by decide, rfl⟩
  rw [← congr_orients h] at h1
  obtain ⟨k, _, e⟩ := orients_mem.1 h1
  refine hangs_back ?_
  rw [e]
  have := hangs_turn (k := k) (x := 0) (y := 0) hh
  rwa [moveS_zero] at this
theorem hv_div {r : Reg} {j : Nat} (hv : r.Valid) (h2 : 2 ≤ r.cells.length) (h16 : r.cells.length ≤ 16) (hj : j < 2 ^ (r.cells.length - 1)) (ho : hOk r j = true) : isDiv r (nl [sumB r (halfC r j), sumB r (restC r j)]) = true := by
  have hm0 := mask_ne hv (show 1 ≤ r.cells.length by omega)
  have hM36 := Reg.mask_lt hv
  obtain ⟨x, _, hat⟩ := hal_at hv hm0 hj
  unfold hOk at ho
  simp only [Bool.and_eq_true, decide_eq_true_eq] at ho
  obtain ⟨hl, hh, hg⟩ := ho
  obtain ⟨M, hM⟩ : ∃ M, M = sumB r (halfC r j) := ⟨_, rfl⟩
  obtain ⟨N, hN⟩ : ∃ N, N = sumB r (restC r j) := ⟨_, rfl⟩
  rw [← hM, ← hN] at hat ⊢
  have hNe : N = r.mask - M := by have := hat.sum; omega
  have hbN : ∀ i, N.testBit i = (r.mask.testBit i && !M.testBit i) := fun i => by rw [hNe]; exact sub_test hat.sub (by omega) i
  have hbM : ∀ i, M.testBit i = true → r.mask.testBit i = true := fun i h => by
    have := hat.sub
    rw [← this, Nat.testBit_and, Bool.and_eq_true] at h
    exact h.2
  have hlow : M.testBit (lowB r.mask) = true := by
    rw [← hat.or, Nat.testBit_or, Nat.testBit_two_pow]
    simp
  have hsubN : N &&& r.mask = N := by
    apply Nat.eq_of_testBit_eq
    intro i
    rw [Nat.testBit_and, hbN]
    cases r.mask.testBit i <;> simp
  have hMN : M &&& N = 0 := by
    apply Nat.eq_of_testBit_eq
    intro i
    rw [Nat.testBit_and, hbN, Nat.zero_testBit]
    cases M.testBit i <;> simp
  have hor : M ||| N = r.mask := by
    apply Nat.eq_of_testBit_eq
    intro i
    rw [Nat.testBit_or, hbN]
    cases h : M.testBit i
    · simp
    · rw [hbM i h]; rfl
  have e1 : r.isMask (M : Int) = true := by unfold Reg.isMask; simp [hat.sub]
  have e2 : r.isMask (N : Int) = true := by unfold Reg.isMask; simp [hsubN]
  have c1 : r.cellsOf (M : Int) = halfC r j := by
    unfold Reg.cellsOf
    rw [e1, if_pos rfl, Int.toNat_natCast]
    exact hat.one
  have c2 : r.cellsOf (N : Int) = restC r j := by
    unfold Reg.cellsOf
    rw [e2, if_pos rfl, Int.toNat_natCast]
    exact hat.two
  have hgc := hg
  unfold congr at hgc
  simp only [Bool.and_eq_true] at hgc
  obtain ⟨⟨s1, s2⟩, _⟩ := hgc
  have k1 : connS (halfC r j) = true := by unfold connS; rw [s1, hh]; rfl
  have k2 : connS (restC r j) = true := by unfold connS; rw [s2, congr_hangs hg hh]; rfl
  have n2 : N ≠ 0 := by
    have := conn_pos (r := r) (n := (N : Int)) (by rw [c2]; exact k2)
    simpa using this
  have n1 : M ≠ 0 := by
    have := conn_pos (r := r) (n := (M : Int)) (by rw [c1]; exact k1)
    simpa using this
  have hM2 : M < 2 ^ 36 := by have := hat.sum; omega
  have hN2 : N < 2 ^ 36 := by have := hat.sum; omega
  have l1 : lowB M ≤ lowB r.mask := by
    rcases Nat.lt_or_ge (lowB r.mask) (lowB M) with q | q
    · have := (lowB_bits n1 hM2).2 _ q
      rw [hlow] at this
      cases this
    · exact q
  have l2 : lowB r.mask < lowB N := by
    have h1 := (lowB_bits n2 hN2).1
    rw [hbN, Bool.and_eq_true] at h1
    rcases Nat.lt_trichotomy (lowB r.mask) (lowB N) with q | q | q
    · exact q
    · rw [← q, hlow] at h1
      cases h1.2
    · have := (lowB_bits hm0 hM36).2 _ q
      rw [h1.1] at this
      cases this
  have ht : nl [M, N] = [(M : Int), (N : Int)] := rfl
  rw [ht, isDiv_end (t := [(M : Int), (N : Int)]) (Reg.valid_iff.2 hv) (Nat.succ_pos _) fun i hi => ?_]
  · have : usedTo [(M : Int), (N : Int)] [(M : Int), (N : Int)].length = M ||| N := by
      show (0 ||| ([(M : Int), (N : Int)].getD 0 0).toNat) ||| ([(M : Int), (N : Int)].getD 1 0).toNat = _
      simp
    rw [this, hor]
    exact beq_self_eq_true _
  · have hi2 : i = 0 ∨ i = 1 := by simp at hi; omega
    rcases hi2 with rfl | rfl
    · rw [okDiv_at (n := (M : Int)) rfl]
      have : congr (r.cellsOf (M : Int)) (r.cellsOf ([(M : Int), (N : Int)].getD 0 0)) = true := by
        show congr (r.cellsOf (M : Int)) (r.cellsOf (M : Int)) = true
        rw [c1]
        exact congr_self s1
      rw [e1, c1, k1]
      rw [c1] at this
      rw [this]
      simp [usedTo]
    · rw [okDiv_at (n := (N : Int)) rfl]
      have : congr (r.cellsOf (N : Int)) (r.cellsOf ([(M : Int), (N : Int)].getD 0 0)) = true := by
        show congr (r.cellsOf (N : Int)) (r.cellsOf (M : Int)) = true
        rw [c1, c2, congr_comm]
        exact hg
      rw [e2, c2, k2]
      rw [c2] at this
      rw [this]
      have hl : lowB M < lowB N := by omega
      simp [usedTo, hMN, hl]
theorem hvL_i64 {r : Reg} : ∀ a ∈ nl (hvL r), I64 a := by
  intro a ha
  cases hj : hvR r with
  | none =>
    have hL : hvL r = [] := by unfold hvL; rw [hj]
    rw [hL] at ha
    cases ha
  | some j =>
    have hL : hvL r = [sumB r (halfC r j), sumB r (restC r j)] := by unfold hvL; rw [hj]
    rw [hL] at ha
    unfold hvR at hj
    split at hj
    · rename_i hs
      unfold hvS at hs
      simp only [Bool.and_eq_true, decide_eq_true_eq] at hs
      have hval : r.valid = true := by
        cases hv : r.valid
        · have := hs.1
          unfold areaR at this
          rw [hv] at this
          simp at this
        · rfl
      have hv := Reg.valid_iff.1 hval
      have h1 := half_rest hv (j := j)
      have h2 := Reg.mask_lt hv
      have ha2 : a = ((sumB r (halfC r j) : Nat) : Int) ∨ a = ((sumB r (restC r j) : Nat) : Int) := by simpa [nl] using ha
      unfold I64
      rcases ha2 with rfl | rfl <;> omega
    · cases hj
theorem hv_law {r : Reg} (h : (hvR r).isSome = true) : isDiv r (nl (hvL r)) = true ∧ (nl (hvL r)).length = 2 := by
  obtain ⟨j, hj⟩ := Option.isSome_iff_exists.1 h
  have hL : hvL r = [sumB r (halfC r j), sumB r (restC r j)] := by unfold hvL; rw [hj]
  rw [hL]
  refine ⟨?_, rfl⟩
  unfold hvR at hj
  split at hj
  · rename_i hs
    rw [List.find?_range_eq_some] at hj
    unfold hvS at hs
    simp only [Bool.and_eq_true, decide_eq_true_eq] at hs
    have hval : r.valid = true := by
      cases hv : r.valid
      · have := hs.1
        unfold areaR at this
        rw [hv] at this
        simp at this
      · rfl
    have ha : areaR r = (r.cells.length : Int) := by unfold areaR; rw [hval]; rfl
    exact hv_div (Reg.valid_iff.1 hval) (by omega) (by omega) (List.mem_range.1 hj.2.1) hj.1
  · cases hj
end Go.Proofs.YtppbkiajcpdkiaaGreatDoor
