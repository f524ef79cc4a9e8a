
/-
  An append of one number onto a row that is also read by an older slice: the older slice's cells stay. No program in sight but the type of the row. The submasks of a mask, the program's walk: it reads the list while it appends to it. FewestBlockers, the program's walk. FewestBlockers, the reference's walk. ClaimOfPacking: both walks.
-/
import Derived.Test.YtfmkmjebkmimkaaGreatSepX
import Derived.Test.YtfmkmjebkmimkaaGreatPkPU
import Derived.Test.YtfmkmjebkmimkaaGreatPzG
import Derived.Test.YtfmkmjebkmimkaaGreatMskX
import Derived.Deep.DeepCutAuto
import Derived.Test.YtfmkmjebkmimkaaGreatPkBC
import Derived.Test.YtfmkmjebkmimkaaGreatPkLM
import Derived.Test.YtfmkmjebkmimkaaGreatMclX
import Derived.Test.YtfmkmjebkmimkaaGreatPkST
namespace Go.Proofs.YtfmkmjebkmimkaaGreat
open Go.RowKit

section
variable {P : Program} {w0 w w' : World} {L : List Res}
theorem run_append_two (t ty e : TypeId) (i : TypeInfo) (z : Value) (size bytes : Nat) (ht : P.underlying t = some (.slice e)) (hi : P.info? e = some i) (hz : i.zero = some z)
    (hsize : i.size = size) (hby : i.bytes = bytes) (hzs : z.cells.size = size)
    (g n cap : Nat) (xs : List Value) (hown : w.ownsRow 0 e size (.slice (some ⟨g, 0, none⟩) n cap) n xs)
    (a : Addr) (m c : Nat) (news : List Value) (hl : news.length = m * size) (hnews : ∀ j u, news[j]? = some u → w.cell? (a.add j) = some u) (h1 : ∀ u ∈ news, u.oneCell' = true)
    (h63 : n + m ≤ maxLen) (hbytes : (n + m) * bytes ≤ 140737488355328) :
    ∃ v' w', (Builtin.append_ #[t, t] ty #[.slice (some ⟨g, 0, none⟩) n cap, .slice (some a) m c]).run P w = .ok v' w' ∧ w'.ownsRow 0 e size v' (n + m) (xs ++ news) ∧
      ((v' = .slice (some ⟨g, 0, none⟩) (n + m) cap ∧ w.grownBy w' (some g)) ∨ (v'.ownBlock = some w.heap.size ∧ Below w.heap.size w w')) := by
  subst hsize
  subst hby
  have hsmall : n + m ≤ 9223372036854775807 := by simp only [maxLen] at h63; omega
  have hlen : (xs ++ news).length = (n + m) * i.size := by rw [List.length_append, hown.1, hl, Nat.add_mul]
  rcases hown.2 with ⟨h, _⟩ | ⟨g', cap', cur, he, hbg, hg, hnc, hcm, hcs, htake⟩
  · cases h
  · injection he with e1 e2 e3
    injection e1 with e1
    injection e1 with e1
    subst e1
    subst e3
    by_cases hroom : n + m ≤ cap
    · have hfit : n * i.size + news.length ≤ cur.size := by rw [hl, hcs, ← Nat.add_mul]; exact Nat.mul_le_mul_right _ hroom
      have hr := run_append_room (P := P) w t ty e i ht hi g n cap cur hg a m c news hl hnews h1 hroom hfit
      refine ⟨_, _, hr, ⟨hlen, .inr ⟨g, cap, _, rfl, hbg, setRow_heap w g cur _ e _ hg, hroom, hcm, ?_, ?_⟩⟩, .inl ⟨rfl, ⟨rfl, rfl, rfl, by simp, fun k _ hk => setRow_other w g k _ (fun e => hk (by rw [e]))⟩⟩⟩
      · simp only [List.size_toArray, List.length_append, List.length_take, List.length_drop, Array.length_toList]
        omega
      · rw [htake, ← hlen]
        exact List.take_left
    · have holds : ∀ j u, xs[j]? = some u → w.cell? ((⟨g, 0, none⟩ : Addr).add j) = some u := hown.cells (g := g) rfl
      have hr := run_append_grow (P := P) w t ty e i z ht hi hz ⟨g, 0, none⟩ n cap xs hown.1 holds a m c news hl hnews (by omega) (by omega) (growslice_fits (by omega) hbytes)
      have hge := grownCap_ge w (n + m) cap e
      have hcm2 : grownCap w (n + m) cap e ≤ maxLen := grownCap_le_maxLen w (n + m) cap e h63
      refine ⟨_, _, hr, ⟨hlen, .inr ⟨w.heap.size, _, _, rfl, Nat.zero_le _, heap_alloc_new w.drew _, hge, hcm2, ?_, ?_⟩⟩, .inr ⟨rfl, (below_drew (Below.refl _ _)).alloc (Nat.le_refl _) _⟩⟩
      · simp only [Array.size_append, List.size_toArray, size_zeroCells, hzs, hown.1, hl, ← Nat.add_mul]
        congr 1
        omega
      · simp only [Array.toList_append, List.append_assoc]
        rw [← List.append_assoc, ← hlen]
        exact List.take_left
/-- a row that grows, and an older slice of its first cells -/
def SubI (e : TypeId) (w0 w : World) (b : Nat) (X : List Value) (ov : Value) (k : Nat) (M : List Value) : Prop :=
  (∃ cap, ov = .slice (some ⟨b, 0, none⟩) k cap ∧ Sep w0 w [Res.row ov e 1 k M]) ∨ ∃ (q : Nat) (cur : Array Value), cur.toList.take q = X ∧ Sep w0 w [Res.row ov e 1 k M, Res.obj b (.cells cur e (0, 0))]
theorem SubI.sep {e : TypeId} {b k : Nat} {X M : List Value} {ov : Value} (h : SubI e w0 w b X ov k M) : Sep w0 w [Res.row ov e 1 k M] := by
  rcases h with ⟨_, _, H⟩ | ⟨_, _, _, H⟩
  · exact H
  · exact H.drop2
theorem SubI.step {e : TypeId} {b k : Nat} {X M : List Value} {ov : Value} (h : SubI e w0 w b X ov k M) (hb : Below w.heap.size w w') : SubI e w0 w' b X ov k M := by
  rcases h with ⟨c, he, H⟩ | ⟨q, cur, hc, H⟩
  · exact .inl ⟨c, he, H.step hb⟩
  · exact .inr ⟨q, cur, hc, H.step hb⟩
theorem SubI.start {e : TypeId} {b k c : Nat} {X M : List Value} (H : Sep w0 w [Res.row (.slice (some ⟨b, 0, none⟩) k c) e 1 k M]) : SubI e w0 w b X (.slice (some ⟨b, 0, none⟩) k c) k M := .inl ⟨c, rfl, H⟩
theorem SubI.cell {e : TypeId} {b k j : Nat} {X M : List Value} {ov u : Value} (h : SubI e w0 w b X ov k M) (h1 : X[j]? = some u) (h2 : M[j]? = some u) : w.cell? ⟨b, j, none⟩ = some u := by
  rcases h with ⟨c, rfl, H⟩ | ⟨q, cur, hc, H⟩
  · have := own_cell H.h0 h2
    rwa [Nat.zero_add] at this
  · rw [cell_of_row w b j cur e (0, 0) H.h1]
    rw [← hc, List.getElem?_take] at h1
    split at h1
    · simpa using h1
    · cases h1
theorem SubI.lt {e : TypeId} {b k : Nat} {X M : List Value} {ov : Value} (h : SubI e w0 w b X ov k M) : b < w.heap.size := by
  rcases h with ⟨c, rfl, H⟩ | ⟨q, cur, hc, H⟩
  · exact own_lt H.h0 b rfl
  · exact (Array.getElem?_eq_some_iff.1 H.h1).1
theorem SubI.app {t ty e : TypeId} (i : TypeInfo) (z : Value) (bytes : Nat) (ht : P.underlying t = some (.slice e)) (hi : P.info? e = some i) (hz : i.zero = some z)
    (hsize : i.size = 1) (hby : i.bytes = bytes) (hzs : z.cells.size = 1)
    {b k : Nat} {X M : List Value} {ov u : Value} (h : SubI e w0 w b X ov k M) (hX : ∀ (j : Nat) (x : Value), X[j]? = some x → M[j]? = some x)
    {lo hi' : Nat} {a : Addr} (c : Nat) (hr : Rd w lo hi' 1 (some a) 1 [u]) (h1 : u.oneCell' = true)
    (h63 : k + 1 ≤ maxLen) (hbytes : (k + 1) * bytes ≤ 140737488355328) :
    ∃ v' w', (Builtin.append_ #[t, t] ty #[ov, .slice (some a) 1 c]).run P w = .ok v' w' ∧ SubI e w0 w' b X v' (k + 1) (M ++ [u]) := by
  have h11 : ∀ x ∈ [u], x.oneCell' = true := by intro x hx; simp at hx; subst hx; exact h1
  have hnews : ∀ j v, [u][j]? = some v → w.cell? (a.add j) = some v := by
    intro j v hv
    obtain ⟨s, off, h, _, _, hc⟩ := hr.2 (by decide)
    injection h with h
    subst h
    have hadd : (⟨s, off, none⟩ : Addr).add j = ⟨s, off + j, none⟩ := by unfold Addr.add; split <;> simp_all
    rw [hadd]
    exact hc j v hv
  rcases h with ⟨cap, rfl, H⟩ | ⟨q, cur, hc, H⟩
  · obtain ⟨v', w', hr2, ho, hcase⟩ := run_append_two (P := P) t ty e i z 1 bytes ht hi hz hsize hby hzs b k cap M H.h0 a 1 c [u] rfl hnews h11 h63 hbytes
    refine ⟨v', w', hr2, ?_⟩
    rcases hcase with ⟨rfl, hg⟩ | ⟨hv, hb⟩
    · exact .inl ⟨cap, rfl, H.app ho hg (.inl rfl)⟩
    · have hrow : ∃ cur : Array Value, w.heap[b]? = some (.cells cur e (0, 0)) ∧ cur.toList.take M.length = M := by
        have hown : w.ownsRow 0 e 1 (.slice (some ⟨b, 0, none⟩) k cap) k M := H.h0
        rcases hown.2 with ⟨h, _⟩ | ⟨g', cap', cur, he, _, hg, _, _, _, htake⟩
        · cases h
        · injection he with e1 e2 e3
          injection e1 with e1
          injection e1 with e1
          subst e1
          exact ⟨cur, hg, by rw [hown.1]; exact htake⟩
      obtain ⟨cur, hg, htk⟩ := hrow
      have H2 : Sep w0 w [Res.obj b (.cells cur e (0, 0))] := H.say (fun _ => hg) (fun x hx => by have hx : x = b := hx; subst hx; rfl)
      have hXM : X = M.take X.length := by
        apply List.ext_getElem?
        intro j
        rw [List.getElem?_take]
        split
        · rename_i hj
          obtain ⟨x, hx⟩ : ∃ x, X[j]? = some x := ⟨X[j]'hj, List.getElem?_eq_getElem _⟩
          rw [hx, hX j x hx]
        · rename_i hj
          exact List.getElem?_eq_none (by omega)
      refine .inr ⟨min X.length M.length, cur, ?_, H2.new hb ho (fun x hx => ?_)⟩
      · have e1 : cur.toList.take (min X.length M.length) = (cur.toList.take M.length).take X.length := by rw [List.take_take]
        rw [e1, htk]
        exact hXM.symm
      · have hx : v'.ownBlock = some x := hx
        rw [hv] at hx
        injection hx with hx
        omega
  · obtain ⟨v', w', hr2, H2⟩ := H.run_app (P := P) t ty e i z 1 bytes ht hi hz hsize hby hzs (by decide) c hr h11 h63 hbytes
    exact ⟨v', w', hr2, .inr ⟨q, cur, hc, H2⟩⟩
theorem wpList_sub {ops : Array Oper} {rest : List Oper} {o : Oper} {a : Act} {Q : Exit → Act → World → Prop} (hgd : o.guard = none) (s x : Operand) (t : TypeId)
    (ho : o.op = .call { callee := .builtin .append, args := #[s, x], argTypes := #[t, t] })
    (e : TypeId) (i : TypeInfo) (z : Value) (bytes : Nat) (ht : P.underlying t = some (.slice e)) (hi : P.info? e = some i) (hz : i.zero = some z)
    (hsize : i.size = 1) (hby : i.bytes = bytes) (hzs : z.cells.size = 1)
    {b k : Nat} {X M : List Value} {ov u : Value} (hs : a.eval s = ov) (H : SubI e w0 w b X ov k M) (hX : ∀ (j : Nat) (x : Value), X[j]? = some x → M[j]? = some x)
    {lo hi' : Nat} {ad : Addr} (c : Nat) (hx : a.eval x = .slice (some ad) 1 c) (hr : Rd w lo hi' 1 (some ad) 1 [u]) (h1 : u.oneCell' = true)
    (h63 : k + 1 ≤ maxLen) (hbytes : (k + 1) * bytes ≤ 140737488355328)
    (h : ∀ v' w', SubI e w0 w' b X v' (k + 1) (M ++ [u]) → wpList P ops Q rest (a.put o.dst v') w') : wpList P ops Q (o :: rest) a w := by
  refine wpList_plain hgd fun K hK => ?_
  obtain ⟨v', w', hr', h2⟩ := H.app (P := P) (t := t) (ty := o.type) i z bytes ht hi hz hsize hby hzs hX c hr h1 h63 hbytes
  unfold Oper.wp execOp
  simp only [ho, resolve, invoke, builtin, Sem.run_bind, Sem.run_pure, Result.andThen_ok, List.map_toArray, List.map_cons, List.map_nil, hs, hx, hr']
  exact hK _ _ (h v' w' h2)
end
end Go.Proofs.YtfmkmjebkmimkaaGreat

namespace Go.Proofs.YtfmkmjebkmimkaaGreat
open Go.RowKit

theorem nlZ2 {A B : List Nat} : nl (A ++ B) = nl A ++ nl B := by simp [nl]
theorem subs_len_le {m : Nat} (h : cntB m ≤ 16) : ∀ {k : Nat}, k ≤ 36 → (subs m k).length ≤ 65536 := by
  intro k hk
  rw [subs_len, bitsTo_cnt]
  have h1 : cntTo m k ≤ cntB m := by
    unfold cntB
    obtain ⟨d, hd⟩ : ∃ d, 36 = k + d := ⟨36 - k, by omega⟩
    rw [hd]
    have : ∀ d, cntTo m k ≤ cntTo m (k + d) := fun d => by
      induction d with
      | zero => exact Nat.le_refl _
      | succ d ih => exact Nat.le_trans ih (Nat.le_add_right _ _)
    exact this d
  exact Nat.pow_le_pow_right (by decide) (Nat.le_trans h1 h)
theorem or_pow_num {x k : Nat} (hx : x < 2 ^ 36) (hk : k < 36) : bits .or .i64 (x : Int) (wrap64 (2 ^ k)) = ((x ||| 2 ^ k : Nat) : Int) := by
  have hp : 2 ^ k < 68719476736 := Nat.pow_lt_pow_right (n := 36) (by decide) hk
  have := or_step (a := x) (m := 1) (p := k) (by omega) (by omega)
  simpa using this
set_option maxRecDepth 100000 in
set_option maxHeartbeats 1600000 in
theorem subs_c {m : Nat} (w : World) (hm : m < 2 ^ 36) (hc : cntB m ≤ 16) :
    Calls Tryz.prog 50 #[.int .i64 m] w fun e w' => ∃ v', e = .returned v' ∧ IntsIn w' w.heap.size w'.heap.size v' (nl (subs m 36)) ∧ Below w.heap.size w w' := by
  obtain ⟨j0, hj, hy0, hy1, hy2⟩ := info_parts infoIntZ
  have HM := Lib.hid hm
  have HC := Lib.hid hc
  obtain ⟨h0, hh0⟩ : ∃ h0, h0 = w.heap.size := ⟨_, rfl⟩
  have H0 := (Sep.start w).rowBox 3 #[.int .i64 0] 1 1 rfl (by decide)
  rw [← hh0] at H0
  have hm36 : m < 68719476736 := hm
  clear hm hc
  go_enter Tryz.func50, Tryz.ntmps50
  go_upto_region 2 with fail
  rw [← hh0]
  generalize (w.alloc (.cells #[.int .i64 0] 3)) = W at *
  clear hh0
  go_wp2
  go_loopw [3, 4] (fun ov kv wx => ∃ (k n : Nat) (S : List Nat) (ow : Value), k ≤ 36 ∧ kv = .int .i64 k ∧ ov = ow ∧ 1 ≤ n ∧ n ≤ 65536 ∧ Hid (n = S.length) ∧ Hid (S = subs m k) ∧ Sep w wx [Res.row ow 3 1 n (ic (nl S))]) (fun _ kv _ => 37 - (intOf kv).toNat)
  case atStart => exact ⟨0, 1, [0], _, by omega, rfl, rfl, Nat.le_refl _, by omega, Lib.hid rfl, Lib.hid rfl, H0⟩
  case round =>
    clear H0
    obtain ⟨k, n, S, ow, hk, rfl, rfl, hn1, hn6, HN, HS, H⟩ := hrel
    by_cases hz : (m : Int) / 2 ^ k = 0
    · have hzd : ((m : Int) / 2 ^ k != 0) = false := by simpa using hz
      have HE : Hid (subs m 36 = S) := Lib.hid (by
        obtain ⟨d, hd⟩ : ∃ d, 36 = k + d := ⟨36 - k, by omega⟩
        rw [hd, subs_top (shr_zero.1 hz), HS.out])
      clear hz
      go_wp2
      go_ret
      refine ⟨_, rfl, ?_, H.below⟩
      rw [HE.out]
      unfold IntsIn
      rw [show (nl S).length = n by simp [nl]; exact HN.out.symm]
      exact H.oi
    · have hzd : ((m : Int) / 2 ^ k != 0) = true := by simpa using hz
      have hk35 : k < 36 := by
        rcases Nat.lt_or_ge k 36 with h | h
        · exact h
        · obtain rfl : k = 36 := by omega
          exact absurd (shr_zero.2 HM.out) hz
      have hbit := bit_test (m := m) (x := k) (by omega)
      clear hz
      cases hb2 : m.testBit k
      · rw [hb2] at hbit
        have HS2 : Hid (S = subs m (k + 1)) := Lib.hid (by rw [subs_f hb2]; exact HS.out)
        clear hb2
        go_wp2
        go_roundw
        case rel => exact ⟨k + 1, n, S, _, by omega, by go_num, rfl, hn1, hn6, HN, HS2, H⟩
        case measure => simp [intOf]; omega
      · rw [hb2] at hbit
        have HS2 : Hid (S ++ S.map (· ||| 2 ^ k) = subs m (k + 1)) := Lib.hid (by rw [subs_t hb2, ← HS.out])
        have HN2 : Hid (n + n ≤ 65536) := Lib.hid (by
          have h1 := subs_len_le HC.out (k := k + 1) (by omega)
          rw [← HS2.out, List.length_append, List.length_map, ← HN.out] at h1
          exact h1)
        have HSL : Hid (∀ x ∈ S, x < 2 ^ 36) := Lib.hid (fun x hx => by
          have h1 : x < 2 ^ k := subs_lt (by rw [← HS.out]; exact hx)
          exact Nat.lt_of_lt_of_le h1 (Nat.pow_le_pow_right (by decide) (by omega)))
        obtain ⟨b, o, c, rfl, hnc, hcm, _⟩ := own_shape H.h0 (by omega)
        obtain ⟨rfl, _⟩ := own_blk H.h0
        have HB : Hid (SubI 3 w wr b (ic (nl S)) (.slice (some ⟨b, 0, none⟩) n c) n (ic (nl S))) := Lib.hid (SubI.start H)
        have s0 : (n : Int) ≤ (c : Int) := by omega
        obtain ⟨wo, hwo⟩ : ∃ wo, wo = wr := ⟨_, rfl⟩
        subst hwo
        clear hb2 H
        go_wp2
        go_loopw [3, 26] (fun ov iv wx => ∃ (i : Nat) (ow : Value), i ≤ n ∧ iv = .int .i64 i ∧ ov = ow ∧ SubI 3 w wx b (ic (nl S)) ow (n + i) (ic (nl (S ++ (S.take i).map (· ||| 2 ^ k))))) (fun _ iv _ => n - (intOf iv).toNat)
        case atStart => exact ⟨0, _, Nat.zero_le _, rfl, rfl, by simpa using HB.out⟩
        case round =>
          obtain ⟨i, ow, hi, rfl, rfl, H⟩ := hrel
          by_cases hlt : i < n
          · have hlti : (i : Int) < (n : Int) := by omega
            obtain ⟨x, hx⟩ : ∃ x, S[i]? = some x := ⟨S[i]'(by rw [← HN.out]; exact hlt), List.getElem?_eq_getElem _⟩
            have hX1 : (ic (nl S))[i]? = some (.int .i64 (x : Int)) := by simp [ic, nl, hx]
            have HXM : Hid (∀ (j : Nat) (u : Value), (ic (nl S))[j]? = some u → (ic (nl (S ++ (S.take i).map (· ||| 2 ^ k))))[j]? = some u) := Lib.hid (fun j u hu => by
              rw [show ic (nl (S ++ (S.take i).map (· ||| 2 ^ k))) = ic (nl S) ++ ic (nl ((S.take i).map (· ||| 2 ^ k))) by rw [nlZ2, ic_append]]
              rw [List.getElem?_append_left (List.getElem?_eq_some_iff.1 hu).1]
              exact hu)
            have y0 := H.cell hX1 (HXM.out i _ hX1)
            have hbl := H.lt
            have hx36 : x < 2 ^ 36 := HSL.out x (List.mem_of_getElem? hx)
            have HOR := or_pow_num hx36 hk35
            obtain ⟨q, hq⟩ : ∃ q, q = x ||| 2 ^ k := ⟨_, rfl⟩
            rw [← hq] at HOR
            have HTK : Hid (ic (nl (S ++ (S.take (i + 1)).map (· ||| 2 ^ k))) = ic (nl (S ++ (S.take i).map (· ||| 2 ^ k))) ++ [.int .i64 (q : Int)]) := Lib.hid (by
              rw [List.take_add_one, hx, Option.toList_some, List.map_append, ← List.append_assoc, nlZ2, ic_append, hq]
              rfl)
            have HA := Lib.hid (fun o : Obj => H.step ((Below.refl wr.heap.size wr).alloc (Nat.le_refl _) o))
            have hn62 := HN2.out
            clear hx hX1 hq hx36 H
            go_wp2_with (at_builtin; refine wpList_sub rfl _ _ 22 rfl 3 j0 _ 8 Tryz.underlying22 hj hy0 hy1 hy2 rfl (u := .int .i64 (q : Int)) rfl (HA.out _) HXM.out _ rfl (Rd.fresh wr _ #[.int .i64 (q : Int)] 1 1 rfl) rfl (by unfold maxLen; omega) (by omega) ?_; intro v5 w5 H6)
            rw [← HTK.out] at H6
            go_roundw
            case rel => exact ⟨i + 1, _, by omega, by go_num, rfl, H6⟩
            case measure => simp [intOf]; omega
          · obtain rfl : i = n := by omega
            have HE : Hid (S ++ (S.take i).map (· ||| 2 ^ k) = subs m (k + 1)) := Lib.hid (by rw [← HS2.out, HN.out, List.take_length])
            have H1 := H.sep
            rw [HE.out] at H1
            have HL : Hid (i + i = (subs m (k + 1)).length) := Lib.hid (by rw [← HS2.out, List.length_append, List.length_map, ← HN.out])
            have hn62 := HN2.out
            clear H
            go_wp2
            go_roundw
            case rel => exact ⟨k + 1, i + i, subs m (k + 1), _, by omega, by go_num, rfl, by omega, hn62, HL, Lib.hid rfl, H1⟩
            case measure => simp [intOf]; omega
end Go.Proofs.YtfmkmjebkmimkaaGreat

namespace Go.Proofs.YtfmkmjebkmimkaaGreat
open Go.RowKit

set_option maxRecDepth 100000 in
theorem ones36_c (m : Nat) (w : World) (hm : m < 2 ^ 36) :
    Calls Tryz.prog 28 #[.int .u64 (m : Int)] w fun e w' => e = .returned (.int .i64 (cntB m : Int)) ∧ w = w' := by
  rw [← onesOf_cnt hm]
  exact onesg_c m w
def FbPost (r : Reg) (ps : List (List Cell)) (w : World) : Ending → World → Prop := fun e w' => e = .returned (.tuple #[.int .i64 (fbM r ps : Int), .bool (smlB r ps)]) ∧ Below w.heap.size w w'
theorem FbPost.mk {r : Reg} {ps : List (List Cell)} {w w' : World} {b : Nat} {f : Bool} (hf : f = smlB r ps) (hb : fbM r ps = b) (H : Below w.heap.size w w') : FbPost r ps w (.returned (.tuple #[.int .i64 (b : Int), .bool f])) w' := by
  subst hf
  subst hb
  exact ⟨rfl, H⟩
theorem cntB_le (m : Nat) : cntB m ≤ 36 := cntTo_le 36
set_option maxRecDepth 100000 in
set_option maxHeartbeats 3200000 in
theorem impl_fb_c {v v2 : Value} {r : Reg} {ps : List (List Cell)} (w : World) (h : RegRd w 0 w.heap.size v r) (h2 : CellSSRd w 0 w.heap.size v2 ps) (hn : ps.length ≤ 1048576) (hl : ∀ s ∈ ps, s.length ≤ 1048576) :
    Calls Tryz.prog 27 #[v, v2] w (FbPost r ps w) := by
  have HRD : Hid (∀ w1, Below w.heap.size w w1 → RegRd w1 0 w1.heap.size v r) := Lib.hid fun w1 b1 => (h.keep (SameIn.of_below b1 (Nat.le_refl _))).more (Nat.le_refl _) b1.size
  have HR2 : Hid (∀ w1, Below w.heap.size w w1 → CellSSRd w1 0 w1.heap.size v2 ps) := Lib.hid fun w1 b1 => (h2.keep (SameIn.of_below b1 (Nat.le_refl _))).more (Nat.le_refl _) b1.size
  obtain ⟨T, hT⟩ : ∃ T, T = smlB r ps := ⟨_, rfl⟩
  have HT := Lib.hid hT
  obtain ⟨sr, rfl, hsr⟩ := h
  obtain ⟨A0, c, rfl, _, _⟩ := hsr
  obtain ⟨vs, ⟨A2, c2, rfl, _, _⟩, _⟩ := h2
  have H0 := (Sep.start w).box 28 #[.int .i64 r.w, .slice A0 r.rows.length c]
  obtain ⟨g, hg⟩ : ∃ g, g = w.heap.size := ⟨_, rfl⟩
  rw [← hg] at H0
  go_enter Tryz.func27, Tryz.ntmps27
  go_upto_region 1 with fail
  rw [← hg]
  generalize (w.alloc (.cells #[.int .i64 r.w, .slice A0 r.rows.length c] 28)) = W at *
  clear hg
  have c0 : W.cell? ⟨g, 0, none⟩ = some (.int .i64 r.w) := H0.h0.cell 0
  have c1 : W.cell? ⟨g, 1, none⟩ = some (.slice A0 r.rows.length c) := H0.h0.cell 1
  have HP := Lib.hid (impl_small_c W (HRD.out W H0.below) (HR2.out W H0.below) hn hl)
  rw [← hT] at HP
  clear hT
  go_wp2_with fail
  refine (HP.out).mono ?_
  rintro e w1 ⟨rfl, b1⟩
  have H1 := H0.step b1
  clear c0 c1 H0 HP b1
  cases T
  · go_wp2
    go_ret2
    exact FbPost.mk (b := 0) HT.out (by rw [fbM, if_neg (by rw [← HT.out]; decide)]) H1.below
  have hkk : (r.valid && arePcs ps) = true := by
    have := HT.out.symm
    unfold smlB at this
    rw [Bool.and_eq_true] at this
    exact this.1
  have har : areaR r ≤ 12 := by
    have := HT.out.symm
    unfold smlB at this
    rw [Bool.and_eq_true] at this
    exact of_decide_eq_true this.2
  rw [Bool.and_eq_true] at hkk
  have HV := Lib.hid (Reg.valid_iff.1 hkk.1)
  have HAP := Lib.hid hkk.2
  have HCN : Hid (cntB r.mask ≤ 16) := Lib.hid (by
    rw [← cells_cnt HV.out]
    unfold areaR at har
    rw [hkk.1, if_pos rfl] at har
    omega)
  have c0 : w1.cell? ⟨g, 0, none⟩ = some (.int .i64 r.w) := H1.h0.cell 0
  have c1 : w1.cell? ⟨g, 1, none⟩ = some (.slice A0 r.rows.length c) := H1.h0.cell 1
  have HALL := Lib.hid (impl_all_c w1 (HRD.out w1 H1.below) (HR2.out w1 H1.below) HV.out HAP.out)
  obtain ⟨A, hA⟩ : ∃ A, A = allN r ps := ⟨_, rfl⟩
  rw [← nl_allN HV.out, ← hA] at HALL
  have HAL : Hid (A.length ≤ 1000000) := Lib.hid (by
    have h1 := allP_len HV.out (ps := ps)
    have h2 := (arePcs_on HAP.out).2.2
    have h3 : ps.length * 288 ≤ 5 * 288 := Nat.mul_le_mul_right _ (by omega)
    have h4 : A.length = (allP r ps).length := by rw [← nl_allN HV.out, ← hA]; simp [nl]
    omega)
  have HMS : Hid (∀ m ∈ A, m < 2 ^ 36) := Lib.hid (by rw [hA]; exact allN_lt HV.out)
  obtain ⟨M, hM⟩ : ∃ M, M = r.mask := ⟨_, rfl⟩
  have HMM := Lib.hid hM
  rw [← hM] at HCN
  obtain ⟨S, hS⟩ : ∃ S, S = subs M 36 := ⟨_, rfl⟩
  have HSS := Lib.hid hS
  have HFB : Hid (fbI A (S.drop 0) (0, false) = (fbM r ps, true)) := Lib.hid (by
    rw [List.drop_zero, hS, hM, hA, fbI_is HV.out HAP.out, fbM, if_pos HT.out.symm])
  clear hkk hA har hM hS
  go_wp2_with fail
  refine (HALL.out).mono ?_
  rintro e w2 ⟨v3, rfl, o3, b3⟩
  have hrd : IntsRd w2 0 w2.heap.size v3 (nl A) := (IntsIn.rd o3).more (Nat.zero_le _) (Nat.le_refl _)
  have H2 := H1.step b3
  have HRA : Hid (∀ w3, Below w2.heap.size w2 w3 → IntsRd w3 0 w3.heap.size v3 (nl A)) := Lib.hid fun w3 b => (hrd.keep (SameIn.of_below b (Nat.le_refl _))).more (Nat.le_refl _) b.size
  obtain ⟨Av, cv, rfl, _, _⟩ := id hrd
  clear c0 c1 HALL o3 b3 H1 hrd
  have c0 : w2.cell? ⟨g, 0, none⟩ = some (.int .i64 r.w) := H2.h0.cell 0
  have c1 : w2.cell? ⟨g, 1, none⟩ = some (.slice A0 r.rows.length c) := H2.h0.cell 1
  have HMK := Lib.hid (impl_mask_c w2 (HRD.out w2 H2.below) HV.out)
  rw [← HMM.out] at HMK
  go_wp2_with fail
  refine (HMK.out).mono ?_
  rintro e w3 ⟨rfl, b4⟩
  have H3 := H2.step b4
  have hM36 : M < 2 ^ 36 := by rw [HMM.out]; exact Reg.mask_lt HV.out
  have HSB := Lib.hid (subs_c w3 hM36 HCN.out)
  rw [← HSS.out] at HSB
  have HB4 := Lib.hid b4
  clear c0 c1 H2 HMK b4 hM36
  go_wp2_with fail
  refine (HSB.out).mono ?_
  rintro e w4 ⟨v5, rfl, o5, b5⟩
  have H4 := H3.step b5
  have hrs : IntsRd w4 0 w4.heap.size v5 (nl S) := (IntsIn.rd o5).more (Nat.zero_le _) (Nat.le_refl _)
  have HRA4 := Lib.hid (HRA.out w4 (HB4.out.trans (b5.mono HB4.out.size)))
  obtain ⟨k, hk⟩ : ∃ k, k = S.length := ⟨_, rfl⟩
  have hnl : (nl S).length = k := by simp [nl]; exact hk.symm
  obtain ⟨As, cs, rfl, _, _⟩ := id hrs
  rw [hnl] at hrs ⊢
  have HRS := Lib.hid hrs
  have HK := Lib.hid hk
  have HSX : Hid (∀ x ∈ S, x < 2 ^ 36) := Lib.hid (fun x hx => subs_lt (by rw [← HSS.out]; exact hx))
  have hk6 : k ≤ 65536 := by rw [hk, HSS.out]; exact subs_len_le HCN.out (Nat.le_refl _)
  have HBB := Lib.hid H4.below
  clear hnl hrs hk HSB o5 b5 H3 H4 HRA
  go_wp2
  go_loopw [7, 8, 22] (fun bv fv iv wx => ∃ (i b : Nat) (f : Bool), i ≤ k ∧ iv = .int .i64 i ∧ bv = .int .i64 b ∧ fv = .bool f ∧ b < 68719476736 ∧ Hid (fbI A (S.drop i) (b, f) = (fbM r ps, true)) ∧ w4 = wx) (fun _ _ iv _ => k - (intOf iv).toNat)
  case atStart => exact ⟨0, 0, false, Nat.zero_le _, rfl, rfl, rfl, by decide, HFB, rfl⟩
  case round =>
    obtain ⟨i, b, f, hik, rfl, rfl, rfl, hb36, HF, rfl⟩ := hrel
    by_cases hil : i < k
    · have hili : (i : Int) < (k : Int) := by omega
      obtain ⟨x, hx⟩ : ∃ x, S[i]? = some x := ⟨S[i]'(by rw [← HK.out]; exact hil), List.getElem?_eq_getElem _⟩
      obtain ⟨bs, off, rfl, hbs, y0⟩ := ints_atZ HRS.out (show (nl S)[i]? = some (x : Int) by simp [nl, hx])
      have hx36 : x < 68719476736 := HSX.out x (List.mem_of_getElem? hx)
      have HX := Lib.hid hx
      have HBK := Lib.hid (impl_blk_c (m := x) w4 HRA4.out HMS.out HAL.out hx36)
      obtain ⟨B, hB⟩ : ∃ B, B = blkB A x := ⟨_, rfl⟩
      rw [← hB] at HBK
      have HB := Lib.hid hB
      clear hx hB
      cases f
      · go_wp2_with fail
        refine (HBK.out).mono ?_
        rintro e w5 ⟨rfl, rfl⟩
        clear HBK
        cases B
        · have HF2 : Hid (fbI A (S.drop (i + 1)) (b, false) = (fbM r ps, true)) := Lib.hid (by
            have := HF.out
            rw [fbI_step HX.out, if_neg (fun h => by rw [← HB.out] at h; exact absurd h.2 (by decide))] at this
            exact this)
          go_wp2
          go_roundw
          case rel => exact ⟨i + 1, b, false, by omega, by go_num, rfl, rfl, hb36, HF2, trivial⟩
          case measure => simp [intOf]; omega
        · have HF2 : Hid (fbI A (S.drop (i + 1)) (x, true) = (fbM r ps, true)) := Lib.hid (by
            have := HF.out
            rw [fbI_step HX.out, if_pos ⟨.inl rfl, HB.out.symm⟩] at this
            exact this)
          go_wp2
          go_roundw
          case rel => exact ⟨i + 1, x, true, by omega, by go_num, rfl, rfl, hx36, HF2, trivial⟩
          case measure => simp [intOf]; omega
      · have hu1 : IntKind.u64.wrap (x : Int) = (x : Int) := u64_in _ (by omega)
        have hu2 : IntKind.u64.wrap (b : Int) = (b : Int) := u64_in _ (by omega)
        have HO1 := Lib.hid (ones36_c x w4 hx36)
        have HO2 := Lib.hid (ones36_c b w4 hb36)
        obtain ⟨nx, hnx⟩ : ∃ n, n = cntB x := ⟨_, rfl⟩
        obtain ⟨nb, hnb⟩ : ∃ n, n = cntB b := ⟨_, rfl⟩
        rw [← hnx] at HO1
        rw [← hnb] at HO2
        have HNX := Lib.hid hnx
        have HNB := Lib.hid hnb
        clear hnx hnb
        by_cases hlt : nx < nb
        · have hlti : (nx : Int) < (nb : Int) := by omega
          cases B
          · have HF2 : Hid (fbI A (S.drop (i + 1)) (b, true) = (fbM r ps, true)) := Lib.hid (by
              have := HF.out
              rw [fbI_step HX.out, if_neg (fun h => by rw [← HB.out] at h; exact absurd h.2 (by decide))] at this
              exact this)
            go_wp2_with (first
              | (with_reducible refine (HO1.out).mono ?_; rintro e w5 ⟨rfl, rfl⟩)
              | (with_reducible refine (HO2.out).mono ?_; rintro e w5 ⟨rfl, rfl⟩)
              | (with_reducible refine (HBK.out).mono ?_; rintro e w5 ⟨rfl, rfl⟩))
            go_roundw
            case rel => exact ⟨i + 1, b, true, by omega, by go_num, rfl, rfl, hb36, HF2, trivial⟩
            case measure => simp [intOf]; omega
          · have HF2 : Hid (fbI A (S.drop (i + 1)) (x, true) = (fbM r ps, true)) := Lib.hid (by
              have := HF.out
              rw [fbI_step HX.out, if_pos ⟨.inr (by show cntB x < cntB b; rw [← HNX.out, ← HNB.out]; exact hlt), HB.out.symm⟩] at this
              exact this)
            go_wp2_with (first
              | (with_reducible refine (HO1.out).mono ?_; rintro e w5 ⟨rfl, rfl⟩)
              | (with_reducible refine (HO2.out).mono ?_; rintro e w5 ⟨rfl, rfl⟩)
              | (with_reducible refine (HBK.out).mono ?_; rintro e w5 ⟨rfl, rfl⟩))
            go_roundw
            case rel => exact ⟨i + 1, x, true, by omega, by go_num, rfl, rfl, hx36, HF2, trivial⟩
            case measure => simp [intOf]; omega
        · have hlti : ¬ (nx : Int) < (nb : Int) := by omega
          have HF2 : Hid (fbI A (S.drop (i + 1)) (b, true) = (fbM r ps, true)) := Lib.hid (by
            have := HF.out
            rw [fbI_step HX.out, if_neg (fun h => by
              have h1 := h.1.resolve_left (by simp)
              have h2 : cntB x < cntB b := h1
              rw [← HNX.out, ← HNB.out] at h2
              exact hlt h2)] at this
            exact this)
          go_wp2_with (first
            | (with_reducible refine (HO1.out).mono ?_; rintro e w5 ⟨rfl, rfl⟩)
            | (with_reducible refine (HO2.out).mono ?_; rintro e w5 ⟨rfl, rfl⟩))
          go_roundw
          case rel => exact ⟨i + 1, b, true, by omega, by go_num, rfl, rfl, hb36, HF2, trivial⟩
          case measure => simp [intOf]; omega
    · obtain rfl : k = i := by omega
      have hfin := HF.out
      rw [HK.out, List.drop_length] at hfin
      have h1 : (b, f) = (fbM r ps, true) := hfin
      injection h1 with h1 h2
      subst h2
      have HBM : Hid (fbM r ps = b) := Lib.hid h1.symm
      clear hfin h1
      go_wp2
      go_ret2
      exact FbPost.mk HT.out HBM.out HBB.out
end Go.Proofs.YtfmkmjebkmimkaaGreat

namespace Go.Proofs.YtfmkmjebkmimkaaGreat
open Go.RowKit

theorem selTo_mono {B : List Nat} {c : Nat} : ∀ {i j : Nat}, i ≤ j → selTo B c i ≤ selTo B c j
  | i, 0, h => by obtain rfl : i = 0 := by omega
                  exact Nat.le_refl _
  | i, j + 1, h => by
    by_cases e : i = j + 1
    · subst e; exact Nat.le_refl _
    · exact Nat.le_trans (selTo_mono (j := j) (by omega)) (Nat.le_add_right _ _)
theorem selTo_lt {m c i : Nat} (hc : c < 2 ^ (bitsTo m 36).length) (hi : i ≤ (bitsTo m 36).length) : selTo (bitsTo m 36) c i < 2 ^ 36 :=
  Nat.lt_of_le_of_lt (selTo_mono hi) (subs_lt (List.mem_of_getElem? (subs_at 36 (Nat.le_refl _) c hc).1))
theorem selTo_t {B : List Nat} {c i b : Nat} (h : c.testBit i = true) (hb : B[i]? = some b) : selTo B c (i + 1) = selTo B c i + 2 ^ b := by
  rw [selTo, if_pos h, List.getD_eq_getElem?_getD, hb]; rfl
theorem selTo_f {B : List Nat} {c i : Nat} (h : c.testBit i = false) : selTo B c (i + 1) = selTo B c i := by
  rw [selTo, h]; rfl
theorem cntC_t {c i : Nat} (h : c.testBit i = true) : cntC c (i + 1) = cntC c i + 1 := by rw [cntC, if_pos h]
theorem cntC_f {c i : Nat} (h : c.testBit i = false) : cntC c (i + 1) = cntC c i := by rw [cntC, h]; rfl
set_option maxRecDepth 100000 in
set_option maxHeartbeats 3200000 in
theorem spec_fb_c {v v2 : Value} {r : Reg} {ps : List (List Cell)} (w : World) (h : RegRd w 0 w.heap.size v r) (h2 : CellSSRd w 0 w.heap.size v2 ps) (hn : ps.length ≤ 1048576) (hl : ∀ s ∈ ps, s.length ≤ 1048576) :
    Calls Tryz.prog 20 #[v, v2] w (FbPost r ps w) := by
  have HRD : Hid (∀ w1, Below w.heap.size w w1 → RegRd w1 0 w1.heap.size v r) := Lib.hid fun w1 b1 => (h.keep (SameIn.of_below b1 (Nat.le_refl _))).more (Nat.le_refl _) b1.size
  have HR2 : Hid (∀ w1, Below w.heap.size w w1 → CellSSRd w1 0 w1.heap.size v2 ps) := Lib.hid fun w1 b1 => (h2.keep (SameIn.of_below b1 (Nat.le_refl _))).more (Nat.le_refl _) b1.size
  obtain ⟨T, hT⟩ : ∃ T, T = smlB r ps := ⟨_, rfl⟩
  have HT := Lib.hid hT
  obtain ⟨sr, rfl, hsr⟩ := h
  obtain ⟨A0, c, rfl, _, _⟩ := hsr
  obtain ⟨vs, ⟨A2, c2, rfl, _, _⟩, _⟩ := h2
  have H0 := (Sep.start w).box 28 #[.int .i64 r.w, .slice A0 r.rows.length c]
  obtain ⟨g, hg⟩ : ∃ g, g = w.heap.size := ⟨_, rfl⟩
  rw [← hg] at H0
  go_enter Tryz.func20, Tryz.ntmps20
  go_upto_region 1 with fail
  rw [← hg]
  generalize (w.alloc (.cells #[.int .i64 r.w, .slice A0 r.rows.length c] 28)) = W at *
  clear hg
  have c0 : W.cell? ⟨g, 0, none⟩ = some (.int .i64 r.w) := H0.h0.cell 0
  have c1 : W.cell? ⟨g, 1, none⟩ = some (.slice A0 r.rows.length c) := H0.h0.cell 1
  have HP := Lib.hid (spec_small_c W (HRD.out W H0.below) (HR2.out W H0.below) hn hl)
  rw [← hT] at HP
  clear hT
  go_wp2_with fail
  refine (HP.out).mono ?_
  rintro e w1 ⟨rfl, b1⟩
  have H1 := H0.step b1
  clear c0 c1 H0 HP b1
  cases T
  · go_wp2
    go_ret2
    exact FbPost.mk (b := 0) HT.out (by rw [fbM, if_neg (by rw [← HT.out]; decide)]) H1.below
  have hkk : (r.valid && arePcs ps) = true := by
    have := HT.out.symm
    unfold smlB at this
    rw [Bool.and_eq_true] at this
    exact this.1
  have har : areaR r ≤ 12 := by
    have := HT.out.symm
    unfold smlB at this
    rw [Bool.and_eq_true] at this
    exact of_decide_eq_true this.2
  rw [Bool.and_eq_true] at hkk
  have HV := Lib.hid (Reg.valid_iff.1 hkk.1)
  have HVB := Lib.hid hkk.1
  have HAP := Lib.hid hkk.2
  have hcl : r.cells.length ≤ 12 := by
    unfold areaR at har
    rw [hkk.1, if_pos rfl] at har
    omega
  have c0 : w1.cell? ⟨g, 0, none⟩ = some (.int .i64 r.w) := H1.h0.cell 0
  have c1 : w1.cell? ⟨g, 1, none⟩ = some (.slice A0 r.rows.length c) := H1.h0.cell 1
  have HALL := Lib.hid (spec_all_c w1 (HRD.out w1 H1.below) (HR2.out w1 H1.below) HV.out HAP.out)
  obtain ⟨A, hA⟩ : ∃ A, A = allN r ps := ⟨_, rfl⟩
  rw [← nl_allN HV.out, ← hA] at HALL
  have HAL : Hid (A.length ≤ 1000000) := Lib.hid (by
    have h1 := allP_len HV.out (ps := ps)
    have h2 := (arePcs_on HAP.out).2.2
    have h3 : ps.length * 288 ≤ 5 * 288 := Nat.mul_le_mul_right _ (by omega)
    have h4 : A.length = (allP r ps).length := by rw [← nl_allN HV.out, ← hA]; simp [nl]
    omega)
  have HMS : Hid (∀ m ∈ A, m < 2 ^ 36) := Lib.hid (by rw [hA]; exact allN_lt HV.out)
  obtain ⟨M, hM⟩ : ∃ M, M = r.mask := ⟨_, rfl⟩
  have HMM := Lib.hid hM
  obtain ⟨S, hS⟩ : ∃ S, S = subs M 36 := ⟨_, rfl⟩
  have HSS := Lib.hid hS
  obtain ⟨B, hB⟩ : ∃ B, B = bitsTo M 36 := ⟨_, rfl⟩
  have HBB := Lib.hid hB
  obtain ⟨L, hL⟩ : ∃ L, L = r.cells.length := ⟨_, rfl⟩
  have HBC : Hid (B = r.cells.map (bitOf r)) := Lib.hid (by rw [hB, hM, cells_bits HV.out])
  have HBL : Hid (B.length = L) := Lib.hid (by rw [HBC.out, List.length_map, hL])
  have HCN : Hid (cntB M = L) := Lib.hid (by rw [hM, hL, cells_cnt HV.out])
  have HFB : Hid (fbS A (S.drop 0) (M, L) = (fbM r ps, cntB (fbM r ps))) := Lib.hid (by
    rw [List.drop_zero, ← HCN.out, fbS_cnt, hS, hM, hA, fbM, if_pos HT.out.symm])
  have hL12 : L ≤ 12 := by omega
  have HLL := Lib.hid hL
  clear hkk hA har hM hS hB hL hcl
  go_wp2_with fail
  refine (HALL.out).mono ?_
  rintro e w2 ⟨v3, rfl, o3, b3⟩
  have hrd : IntsRd w2 0 w2.heap.size v3 (nl A) := (IntsIn.rd o3).more (Nat.zero_le _) (Nat.le_refl _)
  have H2 := H1.step b3
  have HRA : Hid (∀ w3, Below w2.heap.size w2 w3 → IntsRd w3 0 w3.heap.size v3 (nl A)) := Lib.hid fun w3 b => (hrd.keep (SameIn.of_below b (Nat.le_refl _))).more (Nat.le_refl _) b.size
  obtain ⟨Av, cv, rfl, _, _⟩ := id hrd
  clear c0 c1 HALL o3 b3 H1 hrd
  have c0 : w2.cell? ⟨g, 0, none⟩ = some (.int .i64 r.w) := H2.h0.cell 0
  have c1 : w2.cell? ⟨g, 1, none⟩ = some (.slice A0 r.rows.length c) := H2.h0.cell 1
  have HCL := Lib.hid (spec_cells_c w2 (HRD.out w2 H2.below) (by have := HV.out.2.2.2.1; omega))
  rw [if_pos HVB.out] at HCL
  go_wp2_with fail
  refine (HCL.out).mono ?_
  rintro e w3 ⟨v5, rfl, o5, b4⟩
  have H3 := H2.step b4
  have hcr : CellsRd w3 0 w3.heap.size v5 r.cells := (CellsIn.rd o5).more (Nat.zero_le _) (Nat.le_refl _)
  have HCR : Hid (∀ w4, Below w3.heap.size w3 w4 → CellsRd w4 0 w4.heap.size v5 r.cells) := Lib.hid fun w4 b => (hcr.keep (SameIn.of_below b (Nat.le_refl _))).more (Nat.le_refl _) b.size
  obtain ⟨Ac, cc5, rfl, _, _⟩ := id hcr
  rw [← HLL.out] at HCR ⊢
  have HB4 := Lib.hid b4
  clear c0 c1 HCL o5 b4 H2 hcr
  have c0 : w3.cell? ⟨g, 0, none⟩ = some (.int .i64 r.w) := H3.h0.cell 0
  have c1 : w3.cell? ⟨g, 1, none⟩ = some (.slice A0 r.rows.length c) := H3.h0.cell 1
  have HMK := Lib.hid (spec_mask_c w3 (HRD.out w3 H3.below) HV.out)
  rw [← HMM.out] at HMK
  go_wp2_with fail
  refine (HMK.out).mono ?_
  rintro e w4 ⟨rfl, b5⟩
  have H4 := H3.step b5
  have HRA4 : Hid (∀ w5, Below w4.heap.size w4 w5 → IntsRd w5 0 w5.heap.size (.slice Av (nl A).length cv) (nl A)) := Lib.hid (fun w5 b => HRA.out w5 ((HB4.out.trans (b5.mono HB4.out.size)).trans (b.mono (Nat.le_trans HB4.out.size b5.size))))
  have HCR4 := Lib.hid (HCR.out w4 b5)
  have hM36 : M < 68719476736 := by rw [HMM.out]; exact Reg.mask_lt HV.out
  obtain ⟨N, hN⟩ : ∃ N, N = 2 ^ L := ⟨_, rfl⟩
  have hN6 : N ≤ 4096 := by rw [hN]; exact Nat.le_trans (Nat.pow_le_pow_right (by decide) hL12) (by decide)
  have hsh : IntKind.i64.wrap (2 ^ L) = (N : Int) := by
    rw [show ((2 : Int) ^ L) = (N : Int) by rw [hN]; simp]
    exact IntWalk.i64_in _ (by omega)
  have HNN := Lib.hid hN
  have HSA : Hid (∀ k, k < N → S[k]? = some (selTo B k L) ∧ cntB (selTo B k L) = cntC k L ∧ (∀ i ≤ L, selTo B k i < 2 ^ 36)) := Lib.hid (fun k hk => by
    have h1 := subs_at (m := M) 36 (Nat.le_refl _) k (by rw [← HBB.out, HBL.out, ← HNN.out]; exact hk)
    rw [← HBB.out, HBL.out, ← HSS.out] at h1
    refine ⟨h1.1, h1.2, fun i hi => ?_⟩
    have := selTo_lt (m := M) (c := k) (i := i) (by rw [← HBB.out, HBL.out, ← HNN.out]; exact hk) (by rw [← HBB.out, HBL.out]; exact hi)
    rwa [← HBB.out] at this)
  have HSL : Hid (S.length = N) := Lib.hid (by rw [HSS.out, subs_len, ← HBB.out, HBL.out, HNN.out])
  have HH4 := Lib.hid H4.below
  have C0 : Hid (w4.cell? ⟨g, 0, none⟩ = some (.int .i64 r.w) ∧ g < w4.heap.size) := Lib.hid ⟨H4.h0.cell 0, H4.h0.lt⟩
  clear c0 c1 HMK b5 H3 H4 hN HRA HCR
  go_wp2
  go_loopw [8, 9, 10] (fun bv zv kv wx => ∃ (k b z : Nat), k ≤ N ∧ kv = .int .i64 k ∧ bv = .int .i64 b ∧ zv = .int .i64 z ∧ b < 68719476736 ∧ z ≤ 36 ∧ Hid (fbS A (S.drop k) (b, z) = (fbM r ps, cntB (fbM r ps))) ∧ Below w4.heap.size w4 wx) (fun _ _ kv _ => N - (intOf kv).toNat)
  case atStart => exact ⟨0, M, L, Nat.zero_le _, rfl, rfl, rfl, hM36, by omega, HFB, Below.refl _ _⟩
  case round =>
    obtain ⟨k, b, z, hkn, rfl, rfl, rfl, hb36, hz36, HF, hbel⟩ := hrel
    by_cases hkl : k < N
    · have hkli : (k : Int) < (N : Int) := by omega
      obtain ⟨wo, hwo⟩ : ∃ wo, wo = wr := ⟨_, rfl⟩
      subst hwo
      go_wp2
      go_loopw [11, 12, 13] (fun mv nv iv wx => ∃ (i m n : Nat), i ≤ L ∧ iv = .int .i64 i ∧ mv = .int .i64 m ∧ nv = .int .i64 n ∧ m < 68719476736 ∧ n ≤ i ∧ Hid (m = selTo B k i) ∧ Hid (n = cntC k i) ∧ Below w4.heap.size w4 wx) (fun _ _ iv _ => L - (intOf iv).toNat)
      case atStart => exact ⟨0, 0, 0, Nat.zero_le _, rfl, rfl, rfl, by decide, Nat.le_refl _, Lib.hid rfl, Lib.hid rfl, hbel⟩
      case round =>
        clear hbel
        obtain ⟨i, m, n, hi, rfl, rfl, rfl, hm36, hni, HM, HN, hbel⟩ := hrel
        by_cases hil : i < L
        · have hili : (i : Int) < (L : Int) := by omega
          have hbit := bit_test (m := k) (x := i) (by omega)
          cases ht : k.testBit i
          · rw [ht] at hbit
            have HM2 : Hid (m = selTo B k (i + 1)) := Lib.hid (by rw [selTo_f ht]; exact HM.out)
            have HN2 : Hid (n = cntC k (i + 1)) := Lib.hid (by rw [cntC_f ht]; exact HN.out)
            clear ht
            go_wp2
            go_roundw
            case rel => exact ⟨i + 1, m, n, by omega, by go_num, rfl, rfl, hm36, by omega, HM2, HN2, hbel⟩
            case measure => simp [intOf]; omega
          · rw [ht] at hbit
            obtain ⟨Ac', cc', e5, hm2, hr2⟩ := HCR4.out
            injection e5 with e51 e52 e53
            subst e51
            obtain ⟨b2, o2, d, rfl, _, hb2, hla, x1, x2⟩ := hr2.at2 (by rw [← HLL.out]; exact hil)
            have hmem := Reg.cells_mem.1 (List.mem_of_getElem? hla)
            obtain ⟨wn, hwn⟩ : ∃ wn : Nat, r.w = (wn : Int) := ⟨r.w.toNat, by have := HV.out.1; omega⟩
            obtain ⟨xn, yn, p, q, hN⟩ := bit_nums HV.out hwn hmem
            obtain ⟨hx, hy, e1, e2, e3, e4, hq, hq36⟩ := hN
            have HQ : Hid (B[i]? = some q) := Lib.hid (by rw [HBC.out, List.getElem?_map, hla, hq]; rfl)
            have y0 := (hbel.cell (p := ⟨g, 0, none⟩) C0.out.2).trans C0.out.1
            have y1 := (hbel.cell (p := ⟨b2, o2 + i * 2, none⟩) hb2).trans x1
            have y2 := (hbel.cell (p := ⟨b2, o2 + i * 2 + 1, none⟩) hb2).trans x2
            rw [hwn] at y0
            rw [hx] at y1
            rw [hy] at y2
            have hgl : g < wr.heap.size := Nat.lt_of_lt_of_le C0.out.2 hbel.size
            have hbl2 : b2 < wr.heap.size := Nat.lt_of_lt_of_le hb2 hbel.size
            have z0 : (0 : Int) ≤ (q : Int) := by omega
            have HAB := Lib.hid (add_bit_num (b := q) (show m < 2 ^ 36 from hm36) hq36)
            obtain ⟨m2, hm2d⟩ : ∃ m2, m2 = m + 2 ^ q := ⟨_, rfl⟩
            rw [← hm2d] at HAB
            have HM2 : Hid (m2 = selTo B k (i + 1)) := Lib.hid (by rw [selTo_t ht HQ.out, hm2d, HM.out])
            have HN2 : Hid (n + 1 = cntC k (i + 1)) := Lib.hid (by rw [cntC_t ht, HN.out])
            have hm2b : m2 < 68719476736 := by rw [HM2.out]; exact (HSA.out k hkl).2.2 (i + 1) (by omega)
            clear ht x1 x2 hr2 hm2 hla hmem hx hy hq hm2d e52 e53
            go_wp2_with fail
            go_quiet (fail)
            rw [HAB.out]
            go_wp2
            go_roundw
            case rel => exact ⟨i + 1, m2, n + 1, by omega, by go_num, rfl, by go_num, hm2b, by omega, HM2, HN2, below_drewN hbel _⟩
            case measure => simp [intOf]; omega
        · obtain rfl : i = L := by omega
          have HSK := HSA.out k hkl
          have hcn : cntB m = n := by rw [HM.out, HSK.2.1, HN.out]
          have hSm : S[k]? = some m := by rw [HSK.1, HM.out]
          have HCNT := Lib.hid hcn
          have HSM := Lib.hid hSm
          clear HSK hcn hSm
          by_cases hlt : n < z
          · have hlti : (n : Int) < (z : Int) := by omega
            have HBK := Lib.hid (spec_blk_c (m := m) wr (HRA4.out wr hbel) HMS.out HAL.out hm36)
            obtain ⟨K, hK⟩ : ∃ K, K = blkB A m := ⟨_, rfl⟩
            rw [← hK] at HBK
            have HK := Lib.hid hK
            clear hK
            go_wp2_with fail
            refine (HBK.out).mono ?_
            rintro e w6 ⟨rfl, rfl⟩
            clear HBK
            cases K
            · have HF2 : Hid (fbS A (S.drop (k + 1)) (b, z) = (fbM r ps, cntB (fbM r ps))) := Lib.hid (by
                have := HF.out
                rw [fbS_step HSM.out, if_neg (fun h => by rw [← HK.out] at h; exact absurd h.2 (by decide))] at this
                exact this)
              go_wp2
              go_roundw
              case rel => exact ⟨k + 1, b, z, by omega, by go_num, rfl, rfl, hb36, hz36, HF2, hbel⟩
              case measure => simp [intOf]; omega
            · have HF2 : Hid (fbS A (S.drop (k + 1)) (m, n) = (fbM r ps, cntB (fbM r ps))) := Lib.hid (by
                have := HF.out
                rw [fbS_step HSM.out, HCNT.out, if_pos ⟨hlt, HK.out.symm⟩] at this
                exact this)
              go_wp2
              go_roundw
              case rel => exact ⟨k + 1, m, n, by omega, by go_num, rfl, rfl, hm36, by omega, HF2, hbel⟩
              case measure => simp [intOf]; omega
          · have hlti : ¬ (n : Int) < (z : Int) := by omega
            have HF2 : Hid (fbS A (S.drop (k + 1)) (b, z) = (fbM r ps, cntB (fbM r ps))) := Lib.hid (by
              have := HF.out
              rw [fbS_step HSM.out, HCNT.out, if_neg (fun h => hlt h.1)] at this
              exact this)
            go_wp2
            go_roundw
            case rel => exact ⟨k + 1, b, z, by omega, by go_num, rfl, rfl, hb36, hz36, HF2, hbel⟩
            case measure => simp [intOf]; omega
    · obtain rfl : k = N := by omega
      have hfin := HF.out
      rw [← HSL.out, List.drop_length] at hfin
      have h1 : (b, z) = (fbM r ps, cntB (fbM r ps)) := hfin
      injection h1 with h1 h2
      have HBM : Hid (fbM r ps = b) := Lib.hid h1.symm
      have HBL2 := Lib.hid (HH4.out.trans (hbel.mono HH4.out.size))
      clear hfin h1 h2
      go_wp2
      go_ret2
      exact FbPost.mk HT.out HBM.out HBL2.out
end Go.Proofs.YtfmkmjebkmimkaaGreat

namespace Go.Proofs.YtfmkmjebkmimkaaGreat
open Go.RowKit

/-- the claim of a packing, or none -/
def pakOk (r : Reg) (ps : List (List Cell)) : Bool := smlB r ps && decide (cntB (fbM r ps) = (lgP r ps).length)
def pakC (r : Reg) (ps : List (List Cell)) : Clm := if pakOk r ps = true then ⟨4, r, ps, nl (lgP r ps), ⟨#[]⟩, 0, [], (fbM r ps : Int), [], 0, 0⟩ else zeroC
theorem pak_yes {r : Reg} {ps : List (List Cell)} (h : smlB r ps = true) (h2 : cntB (fbM r ps) = (lgP r ps).length) : pakC r ps = ⟨4, r, ps, nl (lgP r ps), ⟨#[]⟩, 0, [], (fbM r ps : Int), [], 0, 0⟩ ∧ pakOk r ps = true := by
  have e : pakOk r ps = true := by unfold pakOk; rw [h, decide_eq_true h2]; rfl
  exact ⟨by rw [pakC, if_pos e], e⟩
theorem pak_no {r : Reg} {ps : List (List Cell)} (h : smlB r ps = false ∨ cntB (fbM r ps) ≠ (lgP r ps).length) : pakC r ps = zeroC ∧ pakOk r ps = false := by
  have e : pakOk r ps = false := by
    unfold pakOk
    rcases h with h | h
    · rw [h]; rfl
    · rw [decide_eq_false h, Bool.and_false]
  exact ⟨by rw [pakC, if_neg (by rw [e]; decide)], e⟩
theorem fbS_mem {A : List Nat} : ∀ (S : List Nat) (s : Nat × Nat), (fbS A S s).1 = s.1 ∨ (fbS A S s).1 ∈ S
  | [], s => .inl rfl
  | m :: S, s => by
    unfold fbS
    split
    · rcases fbS_mem S (m, cntB m) with h | h
      · exact .inr (by rw [h]; exact List.mem_cons_self ..)
      · exact .inr (List.mem_cons_of_mem _ h)
    · rcases fbS_mem S s with h | h
      · exact .inl h
      · exact .inr (List.mem_cons_of_mem _ h)
theorem fbM_lt {r : Reg} {ps : List (List Cell)} : fbM r ps < 2 ^ 36 := by
  unfold fbM
  split
  · rename_i h
    unfold smlB at h
    simp only [Bool.and_eq_true] at h
    have hv := Reg.valid_iff.1 h.1.1
    rcases fbS_mem (A := allN r ps) (subs r.mask 36) (r.mask, cntB r.mask) with e | e
    · rw [e]; exact Reg.mask_lt hv
    · exact subs_lt e
  · decide
theorem lgP_len {r : Reg} {ps : List (List Cell)} : (nl (lgP r ps)).length ≤ 1000000 := by
  unfold nl lgP
  rw [List.length_map]
  split
  · rename_i h
    unfold smlB at h
    simp only [Bool.and_eq_true] at h
    have hv := Reg.valid_iff.1 h.1.1
    have h1 := allN_len hv (ps := ps)
    have h2 := (arePcs_on h.1.2).2.2
    have h3 := pkN_le (A := allN r ps) 0
    have h4 : ps.length * 288 ≤ 5 * 288 := Nat.mul_le_mul_right _ (by omega)
    omega
  · exact Nat.zero_le _
set_option maxRecDepth 100000 in
set_option maxHeartbeats 3200000 in
theorem impl_cp_c {v v2 : Value} {r : Reg} {ps : List (List Cell)} (w : World) (h : RegRd w 0 w.heap.size v r) (h2 : CellSSRd w 0 w.heap.size v2 ps) (hr : r.rows.length ≤ 1048576) (hn : ps.length ≤ 1048576) (hl : ∀ s ∈ ps, s.length ≤ 1048576) :
    Calls Tryz.prog 9 #[v, v2] w (MkPost (pakC r ps) (pakOk r ps) w) := by
  have HRD : Hid (∀ w1, Below w.heap.size w w1 → RegRd w1 0 w1.heap.size v r) := Lib.hid fun w1 b1 => (h.keep (SameIn.of_below b1 (Nat.le_refl _))).more (Nat.le_refl _) b1.size
  have HR2 : Hid (∀ w1, Below w.heap.size w w1 → CellSSRd w1 0 w1.heap.size v2 ps) := Lib.hid fun w1 b1 => (h2.keep (SameIn.of_below b1 (Nat.le_refl _))).more (Nat.le_refl _) b1.size
  obtain ⟨C, hC⟩ : ∃ C, C = pakC r ps := ⟨_, rfl⟩
  obtain ⟨B, hB⟩ : ∃ C, C = pakOk r ps := ⟨_, rfl⟩
  rw [← hC, ← hB]
  have HC := Lib.hid hC
  have HB := Lib.hid hB
  obtain ⟨sr, rfl, hsr⟩ := h
  obtain ⟨A, c, rfl, _, _⟩ := hsr
  obtain ⟨vs, ⟨A2, c2, rfl, _, _⟩, _⟩ := h2
  have H0 := ((Sep.start w).box 28 #[.int .i64 r.w, .slice A r.rows.length c]).box 32 clm0
  simp only [World.size_alloc] at H0
  obtain ⟨g, hg⟩ : ∃ g, g = w.heap.size := ⟨_, rfl⟩
  rw [← hg] at H0
  clear hC hB
  go_enter Tryz.func9, Tryz.ntmps9
  go_upto_region 1 with fail
  rw [← hg]
  generalize ((w.alloc (.cells #[.int .i64 r.w, .slice A r.rows.length c] 28)).alloc (.cells clm0 32)) = W at *
  clear hg
  have c0 : W.cell? ⟨g, 0, none⟩ = some (.int .i64 r.w) := H0.h1.cell 0
  have c1 : W.cell? ⟨g, 1, none⟩ = some (.slice A r.rows.length c) := H0.h1.cell 1
  have HC1 := Lib.hid (impl_lg_c W (HRD.out W H0.below) (HR2.out W H0.below) hn hl)
  unfold LgPost at HC1
  obtain ⟨K, hK⟩ : ∃ K, K = smlB r ps := ⟨_, rfl⟩
  obtain ⟨L, hL⟩ : ∃ L, L = nl (lgP r ps) := ⟨_, rfl⟩
  obtain ⟨mk, hm⟩ : ∃ m, m = fbM r ps := ⟨_, rfl⟩
  rw [← hK, ← hL] at HC1
  have HKK := Lib.hid hK
  have HLL := Lib.hid hL
  have HMM := Lib.hid hm
  have HM36 : Hid (mk < 2 ^ 36) := Lib.hid (by rw [hm]; exact fbM_lt)
  have HLN : Hid (L.length ≤ 1000000) := Lib.hid (by rw [hL]; exact lgP_len)
  clear hK hL hm
  go_wp2_with fail
  refine (HC1.out).mono ?_
  rintro e w1 ⟨v1, rfl, o1, b1⟩
  obtain ⟨q3, d3, rfl, _, _⟩ := o1.rd
  have H1 := H0.area b1 (fun u u' hs hp => IntsIn.keep hp hs) o1
  have HZ0 : Hid (w.heap.size ≤ W.heap.size) := Lib.hid H0.below.size
  have HZ1 := Lib.hid b1.size
  clear c0 c1 HC1 o1 b1 H0
  have c0 : w1.cell? ⟨g, 0, none⟩ = some (.int .i64 r.w) := H1.h2.cell 0
  have c1 : w1.cell? ⟨g, 1, none⟩ = some (.slice A r.rows.length c) := H1.h2.cell 1
  have HC2 := Lib.hid (impl_fb_c w1 (HRD.out w1 H1.below) (HR2.out w1 H1.below) hn hl)
  unfold FbPost at HC2
  rw [← HKK.out, ← HMM.out] at HC2
  go_wp2_with fail
  refine (HC2.out).mono ?_
  rintro e w2 ⟨rfl, b2⟩
  replace H1 := H1.step b2
  have HZ2 := Lib.hid b2.size
  clear c0 c1 HC2 b2
  have HALL : ((clm0 : Array Value).all (·.oneCell')) = true := by simp [Value.oneCell']
  cases K
  · have hT := pak_no (r := r) (ps := ps) (.inl HKK.out.symm)
    obtain rfl : C = zeroC := by rw [HC.out, hT.1]
    obtain rfl : B = false := by rw [HB.out, hT.2]
    have H7 := H1.drop
    clear hT H1
    go_wp2_with (refine wpList_store_row rfl 32 _ _ rfl (g + 1) clm0 rfl rfl 32 _ H7.h0 (by kernel_rfl) rfl HALL ?_)
    have M := H7.setAll clm0
    refine bodyPost_ret (v := .tuple #[.agg clm0, .bool false]) (results_clm Tryz.results9 _ _ (g + 1) 32 _ _ _ rfl M.h0 Tryz.underlying32 rfl (by kernel_rfl)) rfl ?_
    exact ⟨_, rfl, ClmIn.zero M.below.size, M.below⟩
  have hm36 : mk < 68719476736 := HM36.out
  have hu1 : IntKind.u64.wrap (mk : Int) = (mk : Int) := u64_in _ (by omega)
  have HO := Lib.hid (ones36_c mk w2 hm36)
  obtain ⟨nm, hnm⟩ : ∃ n, n = cntB mk := ⟨_, rfl⟩
  rw [← hnm] at HO
  have HNM := Lib.hid hnm
  clear hnm
  obtain ⟨ln, hln⟩ : ∃ n, n = L.length := ⟨_, rfl⟩
  rw [← hln] at H1 ⊢
  have HLNN := Lib.hid hln
  clear hln
  by_cases hone : nm = ln
  · subst hone
    have hne1 : ((nm : Int) != (nm : Int)) = false := by simp
    have hne2 : ((nm : Int) == (nm : Int)) = true := by simp
    have hT := pak_yes (r := r) (ps := ps) HKK.out.symm (by rw [← HMM.out, ← HNM.out, HLNN.out, HLL.out]; simp [nl])
    have HCC : Hid (C = ⟨4, r, ps, L, ⟨#[]⟩, 0, [], (mk : Int), [], 0, 0⟩) := Lib.hid (by rw [HC.out, hT.1, HLL.out, HMM.out])
    obtain rfl : B = true := by rw [HB.out, hT.2]
    clear hT
    have HZ1' : Hid (W.heap.size ≤ w2.heap.size) := Lib.hid (Nat.le_trans HZ1.out HZ2.out)
    have c0 : w2.cell? ⟨g, 0, none⟩ = some (.int .i64 r.w) := H1.h2.cell 0
    have c1 : w2.cell? ⟨g, 1, none⟩ = some (.slice A r.rows.length c) := H1.h2.cell 1
    go_wp2_with fail
    refine (HO.out).mono ?_
    rintro e w3 ⟨rfl, rfl⟩
    clear HO
    have HK1 := Lib.hid (impl_claimOf_c 4 w2 (HRD.out w2 H1.below) (HR2.out w2 H1.below) hr hn hl)
    go_upto_region 6 with fail
    refine (HK1.out).mono ?_
    rintro e wa ⟨qa, da, qb, db, m, rfl, hma, hmb, oa, ob, ba⟩
    have HMA := Lib.hid hma
    have HMB := Lib.hid hmb
    clear hma hmb
    have HA := H1.area ba (P := fun u => IntsIn u w2.heap.size m (.slice qa r.rows.length da) r.rows ∧ ShpsIn u m wa.heap.size (.slice qb ps.length db) ps) (fun u u' hs hp => ⟨hp.1.keep fun b h1 h2 => hs b h1 (Nat.lt_of_lt_of_le h2 HMB.out), hp.2.keep fun b h1 h2 => hs b (Nat.le_trans HMA.out h1) h2⟩) ⟨oa, ob⟩
    clear c0 c1 H1 HK1 oa ob ba
    have HALL : ((clmA 4 r.w 0 0 ⟨#[]⟩ (.slice qa r.rows.length da) (.slice qb ps.length db) (.slice none 0 0) (.slice none 0 0) : Array Value).all (·.oneCell')) = true := by simp [Value.oneCell']
    have HALL2 : ((clmA 4 r.w 0 mk ⟨#[]⟩ (.slice qa r.rows.length da) (.slice qb ps.length db) (.slice q3 nm d3) (.slice none 0 0) : Array Value).all (·.oneCell')) = true := by simp [Value.oneCell']
    have H3 := (HA.box 32 clm0).setAll (clmA 4 r.w 0 0 ⟨#[]⟩ (.slice qa r.rows.length da) (.slice qb ps.length db) (.slice none 0 0) (.slice none 0 0))
    obtain ⟨W3, hW3⟩ : ∃ W3, W3 = (wa.alloc (.cells clm0 32)).setRow wa.heap.size (clmA 4 r.w 0 0 ⟨#[]⟩ (.slice qa r.rows.length da) (.slice qb ps.length db) (.slice none 0 0) (.slice none 0 0)) := ⟨_, rfl⟩
    rw [← hW3] at H3
    go_upto_region 6 with (refine wpList_store_row rfl 32 _ _ rfl wa.heap.size (clmA 4 r.w 0 0 ⟨#[]⟩ (.slice qa r.rows.length da) (.slice qb ps.length db) (.slice none 0 0) (.slice none 0 0)) rfl rfl 32 _ (HA.box 32 clm0).h0 (by kernel_rfl) rfl HALL ?_)
    rw [← hW3]
    have hz3 : W3.heap.size = wa.heap.size + 1 := by rw [hW3]; simp [World.setRow]
    have HZ3 := Lib.hid hz3
    clear hW3 hz3 HA
    have hgl : wa.heap.size < W3.heap.size := H3.h0.lt
    have y6 : W3.cell? ⟨wa.heap.size, 4, none⟩ = some (.slice none 0 0) := H3.h0.cell 4
    have f6 := H3.h0.frozen 4
    have H4 := H3.set_ 4 (.slice q3 nm d3)
    have y7 : (W3.setCell ⟨wa.heap.size, 4, none⟩ (.slice q3 nm d3)).cell? ⟨wa.heap.size, 8, none⟩ = some (.int .i64 0) := H4.h0.cell 8
    have f7 := H4.h0.frozen 8
    have H5 := H4.set_ 8 (.int .i64 mk)
    have hrow : ((clmA 4 r.w 0 0 ⟨#[]⟩ (.slice qa r.rows.length da) (.slice qb ps.length db) (.slice none 0 0) (.slice none 0 0)).setIfInBounds 4 (.slice q3 nm d3)).setIfInBounds 8 (.int .i64 mk) = clmA 4 r.w 0 mk ⟨#[]⟩ (.slice qa r.rows.length da) (.slice qb ps.length db) (.slice q3 nm d3) (.slice none 0 0) := rfl
    rw [hrow] at H5
    have hza : wa.heap.size ≤ ((W3.setCell ⟨wa.heap.size, 4, none⟩ (.slice q3 nm d3)).setCell ⟨wa.heap.size, 8, none⟩ (.int .i64 mk)).heap.size := by simp [World.setCell, HZ3.out]
    have HZA := Lib.hid hza
    clear hrow hza H3 H4
    go_upto_region 7 with fail
    clear y6 y7 f6 f7 hgl
    generalize (World.setCell (World.setCell _ _ _) _ _) = wb at *
    go_wp2_with (first
      | (refine wpList_load_rowW rfl 32 _ rfl wa.heap.size rfl 32 _ _ _ H5.h0 Tryz.underlying32 rfl (by kernel_rfl) ?_)
      | (refine wpList_store_row rfl 32 _ _ rfl (g + 1) (clmA 4 r.w 0 mk ⟨#[]⟩ (.slice qa r.rows.length da) (.slice qb ps.length db) (.slice q3 nm d3) (.slice none 0 0)) rfl rfl 32 _ H5.g3.h0 (by kernel_rfl) rfl HALL2 ?_))
    have M := H5.g3.setAll (clmA 4 r.w 0 mk ⟨#[]⟩ (.slice qa r.rows.length da) (.slice qb ps.length db) (.slice q3 nm d3) (.slice none 0 0))
    refine bodyPost_ret (v := .tuple #[.agg (clmA 4 r.w 0 mk ⟨#[]⟩ (.slice qa r.rows.length da) (.slice qb ps.length db) (.slice q3 nm d3) (.slice none 0 0)), .bool true]) (results_clm Tryz.results9 _ _ (g + 1) 32 _ _ _ rfl M.h0 Tryz.underlying32 rfl (by kernel_rfl)) rfl ?_
    have hz0 := HZ0.out
    have hz1 := HZ1.out
    have hza := HZA.out
    have hma := HMA.out
    have hmb := HMB.out
    have hzc : (wb.setRow (g + 1) (clmA 4 r.w 0 mk ⟨#[]⟩ (.slice qa r.rows.length da) (.slice qb ps.length db) (.slice q3 nm d3) (.slice none 0 0))).heap.size = wb.heap.size := by simp [World.setRow]
    have hz2 := HZ2.out
    exact ⟨_, rfl, by rw [HCC.out]; exact ⟨w2.heap.size, m, _, _, _, _, rfl, rfl, by omega, by omega, by omega, M.h2.1.1, M.h2.1.2.wide (Nat.le_refl _) (by omega), M.h3.1.wide (by omega) (by omega), IntsIn.nil, .inr ⟨rfl, rfl⟩⟩, M.below⟩
  · have hnd : ((nm : Int) != (ln : Int)) = true := by simp; omega
    have hne : ((nm : Int) == (ln : Int)) = false := by simp; omega
    have hT := pak_no (r := r) (ps := ps) (.inr (by rw [← HMM.out, ← HNM.out]; intro e; apply hone; rw [e, HLNN.out, HLL.out]; simp [nl]))
    obtain rfl : C = zeroC := by rw [HC.out, hT.1]
    obtain rfl : B = false := by rw [HB.out, hT.2]
    have H7 := H1.drop
    clear hT H1 hone
    go_wp2_with fail
    refine (HO.out).mono ?_
    rintro e w3 ⟨rfl, rfl⟩
    clear HO
    go_wp2_with (refine wpList_store_row rfl 32 _ _ rfl (g + 1) clm0 rfl rfl 32 _ H7.h0 (by kernel_rfl) rfl HALL ?_)
    have M := H7.setAll clm0
    refine bodyPost_ret (v := .tuple #[.agg clm0, .bool false]) (results_clm Tryz.results9 _ _ (g + 1) 32 _ _ _ rfl M.h0 Tryz.underlying32 rfl (by kernel_rfl)) rfl ?_
    exact ⟨_, rfl, ClmIn.zero M.below.size, M.below⟩
set_option maxRecDepth 100000 in
set_option maxHeartbeats 3200000 in
theorem spec_cp_c {v v2 : Value} {r : Reg} {ps : List (List Cell)} (w : World) (h : RegRd w 0 w.heap.size v r) (h2 : CellSSRd w 0 w.heap.size v2 ps) (hr : r.rows.length ≤ 1048576) (hn : ps.length ≤ 1048576) (hl : ∀ s ∈ ps, s.length ≤ 1048576) :
    Calls Tryz.prog 6 #[v, v2] w (MkPost (pakC r ps) (pakOk r ps) w) := by
  have HRD : Hid (∀ w1, Below w.heap.size w w1 → RegRd w1 0 w1.heap.size v r) := Lib.hid fun w1 b1 => (h.keep (SameIn.of_below b1 (Nat.le_refl _))).more (Nat.le_refl _) b1.size
  have HR2 : Hid (∀ w1, Below w.heap.size w w1 → CellSSRd w1 0 w1.heap.size v2 ps) := Lib.hid fun w1 b1 => (h2.keep (SameIn.of_below b1 (Nat.le_refl _))).more (Nat.le_refl _) b1.size
  obtain ⟨C, hC⟩ : ∃ C, C = pakC r ps := ⟨_, rfl⟩
  obtain ⟨B, hB⟩ : ∃ C, C = pakOk r ps := ⟨_, rfl⟩
  rw [← hC, ← hB]
  have HC := Lib.hid hC
  have HB := Lib.hid hB
  obtain ⟨sr, rfl, hsr⟩ := h
  obtain ⟨A, c, rfl, _, _⟩ := hsr
  obtain ⟨vs, ⟨A2, c2, rfl, _, _⟩, _⟩ := h2
  have H0 := ((Sep.start w).box 28 #[.int .i64 r.w, .slice A r.rows.length c]).box 32 clm0
  simp only [World.size_alloc] at H0
  obtain ⟨g, hg⟩ : ∃ g, g = w.heap.size := ⟨_, rfl⟩
  rw [← hg] at H0
  clear hC hB
  go_enter Tryz.func6, Tryz.ntmps6
  go_upto_region 1 with fail
  rw [← hg]
  generalize ((w.alloc (.cells #[.int .i64 r.w, .slice A r.rows.length c] 28)).alloc (.cells clm0 32)) = W at *
  clear hg
  have c0 : W.cell? ⟨g, 0, none⟩ = some (.int .i64 r.w) := H0.h1.cell 0
  have c1 : W.cell? ⟨g, 1, none⟩ = some (.slice A r.rows.length c) := H0.h1.cell 1
  have HC1 := Lib.hid (spec_lg_c W (HRD.out W H0.below) (HR2.out W H0.below) hn hl)
  unfold LgPost at HC1
  obtain ⟨K, hK⟩ : ∃ K, K = smlB r ps := ⟨_, rfl⟩
  obtain ⟨L, hL⟩ : ∃ L, L = nl (lgP r ps) := ⟨_, rfl⟩
  obtain ⟨mk, hm⟩ : ∃ m, m = fbM r ps := ⟨_, rfl⟩
  rw [← hK, ← hL] at HC1
  have HKK := Lib.hid hK
  have HLL := Lib.hid hL
  have HMM := Lib.hid hm
  have HM36 : Hid (mk < 2 ^ 36) := Lib.hid (by rw [hm]; exact fbM_lt)
  have HLN : Hid (L.length ≤ 1000000) := Lib.hid (by rw [hL]; exact lgP_len)
  clear hK hL hm
  go_wp2_with fail
  refine (HC1.out).mono ?_
  rintro e w1 ⟨v1, rfl, o1, b1⟩
  obtain ⟨q3, d3, rfl, _, _⟩ := o1.rd
  have H1 := H0.area b1 (fun u u' hs hp => IntsIn.keep hp hs) o1
  have HZ0 : Hid (w.heap.size ≤ W.heap.size) := Lib.hid H0.below.size
  have HZ1 := Lib.hid b1.size
  clear c0 c1 HC1 o1 b1 H0
  have c0 : w1.cell? ⟨g, 0, none⟩ = some (.int .i64 r.w) := H1.h2.cell 0
  have c1 : w1.cell? ⟨g, 1, none⟩ = some (.slice A r.rows.length c) := H1.h2.cell 1
  have HC2 := Lib.hid (spec_fb_c w1 (HRD.out w1 H1.below) (HR2.out w1 H1.below) hn hl)
  unfold FbPost at HC2
  rw [← HKK.out, ← HMM.out] at HC2
  go_wp2_with fail
  refine (HC2.out).mono ?_
  rintro e w2 ⟨rfl, b2⟩
  replace H1 := H1.step b2
  have HZ2 := Lib.hid b2.size
  clear c0 c1 HC2 b2
  have HALL : ((clm0 : Array Value).all (·.oneCell')) = true := by simp [Value.oneCell']
  cases K
  · have hT := pak_no (r := r) (ps := ps) (.inl HKK.out.symm)
    obtain rfl : C = zeroC := by rw [HC.out, hT.1]
    obtain rfl : B = false := by rw [HB.out, hT.2]
    have H7 := H1.drop
    clear hT H1
    go_wp2_with (refine wpList_store_row rfl 32 _ _ rfl (g + 1) clm0 rfl rfl 32 _ H7.h0 (by kernel_rfl) rfl HALL ?_)
    have M := H7.setAll clm0
    refine bodyPost_ret (v := .tuple #[.agg clm0, .bool false]) (results_clm Tryz.results6 _ _ (g + 1) 32 _ _ _ rfl M.h0 Tryz.underlying32 rfl (by kernel_rfl)) rfl ?_
    exact ⟨_, rfl, ClmIn.zero M.below.size, M.below⟩
  have hm36 : mk < 68719476736 := HM36.out
  have HO := Lib.hid (spec_bits_c (m := mk) w2 hm36)
  obtain ⟨nm, hnm⟩ : ∃ n, n = cntB mk := ⟨_, rfl⟩
  rw [← hnm] at HO
  have HNM := Lib.hid hnm
  clear hnm
  obtain ⟨ln, hln⟩ : ∃ n, n = L.length := ⟨_, rfl⟩
  rw [← hln] at H1 ⊢
  have HLNN := Lib.hid hln
  clear hln
  by_cases hone : nm = ln
  · subst hone
    have hne1 : ((nm : Int) != (nm : Int)) = false := by simp
    have hne2 : ((nm : Int) == (nm : Int)) = true := by simp
    have hT := pak_yes (r := r) (ps := ps) HKK.out.symm (by rw [← HMM.out, ← HNM.out, HLNN.out, HLL.out]; simp [nl])
    have HCC : Hid (C = ⟨4, r, ps, L, ⟨#[]⟩, 0, [], (mk : Int), [], 0, 0⟩) := Lib.hid (by rw [HC.out, hT.1, HLL.out, HMM.out])
    obtain rfl : B = true := by rw [HB.out, hT.2]
    clear hT
    have HZ1' : Hid (W.heap.size ≤ w2.heap.size) := Lib.hid (Nat.le_trans HZ1.out HZ2.out)
    have c0 : w2.cell? ⟨g, 0, none⟩ = some (.int .i64 r.w) := H1.h2.cell 0
    have c1 : w2.cell? ⟨g, 1, none⟩ = some (.slice A r.rows.length c) := H1.h2.cell 1
    go_wp2_with fail
    refine (HO.out).mono ?_
    rintro e w3 ⟨rfl, rfl⟩
    clear HO
    have HK1 := Lib.hid (spec_copy_c w2 (HRD.out w2 H1.below) hr)
    go_wp2_with fail
    refine (HK1.out).mono ?_
    rintro e wa ⟨va, rfl, oa, ba⟩
    obtain ⟨qa, da, rfl, pa⟩ := oa.shape
    have HA := H1.area ba (fun u u' hs hp => IntsIn.keep hp hs) pa
    clear c0 c1 H1 HK1 oa pa
    have HK2 := Lib.hid (l33Copy_c wa (HR2.out wa HA.below) hn hl)
    go_wp2_with fail
    refine (HK2.out).mono ?_
    rintro e wb ⟨vb, rfl, ob, bb⟩
    obtain ⟨qb, db, rfl⟩ := ob.shape
    have HB2 := HA.area bb (fun u u' hs hp => ShpsIn.keep hp hs) ob
    have HZA := Lib.hid ba.size
    have HZB := Lib.hid bb.size
    clear HA HK2 ob ba bb
    have HALL : ((clmA 4 r.w 0 mk ⟨#[]⟩ (.slice qa r.rows.length da) (.slice qb ps.length db) (.slice q3 nm d3) (.slice none 0 0) : Array Value).all (·.oneCell')) = true := by simp [Value.oneCell']
    go_wp2_with (refine wpList_store_row rfl 32 _ _ rfl (g + 1) (clmA 4 r.w 0 mk ⟨#[]⟩ (.slice qa r.rows.length da) (.slice qb ps.length db) (.slice q3 nm d3) (.slice none 0 0)) rfl rfl 32 _ HB2.g3.h0 (by kernel_rfl) rfl HALL ?_)
    have M := HB2.g3.setAll (clmA 4 r.w 0 mk ⟨#[]⟩ (.slice qa r.rows.length da) (.slice qb ps.length db) (.slice q3 nm d3) (.slice none 0 0))
    refine bodyPost_ret (v := .tuple #[.agg (clmA 4 r.w 0 mk ⟨#[]⟩ (.slice qa r.rows.length da) (.slice qb ps.length db) (.slice q3 nm d3) (.slice none 0 0)), .bool true]) (results_clm Tryz.results6 _ _ (g + 1) 32 _ _ _ rfl M.h0 Tryz.underlying32 rfl (by kernel_rfl)) rfl ?_
    have hz0 := HZ0.out
    have hz1 := HZ1.out
    have hza := HZA.out
    have hzb := HZB.out
    have hzc : (wb.setRow (g + 1) (clmA 4 r.w 0 mk ⟨#[]⟩ (.slice qa r.rows.length da) (.slice qb ps.length db) (.slice q3 nm d3) (.slice none 0 0))).heap.size = wb.heap.size := by simp [World.setRow]
    have hz2 := HZ2.out
    exact ⟨_, rfl, by rw [HCC.out]; exact ⟨w2.heap.size, wa.heap.size, _, _, _, _, rfl, rfl, by omega, by omega, by omega, M.h2.1, M.h1.1.wide (Nat.le_refl _) (by omega), M.h3.1.wide (by omega) (by omega), IntsIn.nil, .inr ⟨rfl, rfl⟩⟩, M.below⟩
  · have hnd : ((nm : Int) != (ln : Int)) = true := by simp; omega
    have hne : ((nm : Int) == (ln : Int)) = false := by simp; omega
    have hT := pak_no (r := r) (ps := ps) (.inr (by rw [← HMM.out, ← HNM.out]; intro e; apply hone; rw [e, HLNN.out, HLL.out]; simp [nl]))
    obtain rfl : C = zeroC := by rw [HC.out, hT.1]
    obtain rfl : B = false := by rw [HB.out, hT.2]
    have H7 := H1.drop
    clear hT H1 hone
    go_wp2_with fail
    refine (HO.out).mono ?_
    rintro e w3 ⟨rfl, rfl⟩
    clear HO
    go_wp2_with (refine wpList_store_row rfl 32 _ _ rfl (g + 1) clm0 rfl rfl 32 _ H7.h0 (by kernel_rfl) rfl HALL ?_)
    have M := H7.setAll clm0
    refine bodyPost_ret (v := .tuple #[.agg clm0, .bool false]) (results_clm Tryz.results6 _ _ (g + 1) 32 _ _ _ rfl M.h0 Tryz.underlying32 rfl (by kernel_rfl)) rfl ?_
    exact ⟨_, rfl, ClmIn.zero M.below.size, M.below⟩
end Go.Proofs.YtfmkmjebkmimkaaGreat
