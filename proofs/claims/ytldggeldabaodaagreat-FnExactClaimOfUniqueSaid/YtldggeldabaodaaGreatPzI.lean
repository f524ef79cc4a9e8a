
/-
  Puzzles, the program's search.
-/
import Derived.Test.YtldggeldabaodaaGreatPzP
import Derived.Test.YtldggeldabaodaaGreatRowX
import Derived.Test.YtldggeldabaodaaGreatFlipX
import Derived.Test.YtldggeldabaodaaGreatCwWalks
import Derived.IntWalk
import Derived.Deep.DeepCutAuto
namespace Go.Proofs.YtldggeldabaodaaGreat
open Go.RowKit

set_option maxRecDepth 100000 in
theorem infoIntZ : (Tryz.prog.info? 3).map (fun i => (i.zero, i.size, i.bytes)) = some (some (.int .i64 0), 1, 8) := by kernel_rfl
set_option maxRecDepth 100000 in
theorem infoRowZ : (Tryz.prog.info? 22).map (fun i => (i.zero, i.size, i.bytes)) = some (some (.slice none 0 0), 1, 24) := by kernel_rfl
theorem ocZ {v : Value} (h : v.oneCell' = true) : ∀ u ∈ [v], u.oneCell' = true := by intro u hu; simp at hu; subst hu; exact h
set_option maxRecDepth 100000 in
/-- the visitor keeps a solution -/
theorem pzVis_c {w0 w : World} {g n k : Nat} {ov lv : Value} {vs : List Value} {M : List (List Int)} {l : List Int} {L : List Res} (hn : n < 300) (hk : k = l.length)
    (H : Sep w0 w (Res.row lv 3 1 k (ic l) :: Res.box g 47 #[ov] :: Res.row ov 22 1 n vs :: Res.rows vs M :: L)) :
    Calls Tryz.prog 96 #[lv, .pointer (some ⟨g, 0, none⟩)] w fun e w' => ∃ ov' vs', e = .returned (.bool (decide (n + 1 < 300))) ∧ Sep w0 w' (Res.box g 47 #[ov'] :: Res.row ov' 22 1 (n + 1) vs' :: Res.rows vs' (M ++ [l]) :: L) := by
  obtain ⟨j0, hj, hy0, hy1, hy2⟩ := info_parts infoRowZ
  have c0 : w.cell? ⟨g, 0, none⟩ = some ov := H.h1.cell 0
  have hgl : g < w.heap.size := H.h1.lt
  obtain ⟨Ao, co, rfl, _, _, _⟩ := Res.row_at H.h2
  obtain ⟨Al, cl, rfl, _, _, _⟩ := Res.row_at H.h0
  have HK := Lib.hid hk
  obtain ⟨D, hD⟩ : ∃ D, D = decide (n + 1 < 300) := ⟨_, rfl⟩
  rw [← hD]
  have hdd : decide (((n + 1 : Nat) : Int) < 300) = D := by rw [hD]; rw [Bool.eq_iff_iff]; simp; omega
  have hdd2 : decide ((n : Int) + 1 < 300) = D := by rw [hD]; rw [Bool.eq_iff_iff]; simp; omega
  have HD := Lib.hid hD
  clear hk hD
  go_enter Tryz.func96, Tryz.ntmps96
  go_upto_region 1 with fail
  go_wp2_with (at_builtin; refine wpList_app rfl _ _ 47 rfl 22 j0 _ 1 24 Tryz.underlying47 hj hy0 hy1 hy2 rfl (by decide) _ _ _ rfl (H.g2.alloc _) _ _ _ [.slice Al k cl] rfl (Rd.fresh w 22 #[.slice Al k cl] 1 1 rfl) (ocZ rfl) (by unfold maxLen; omega) (by omega) ?_; intro v5 w5 H5; clear H c0 hgl; obtain ⟨A5, c5, rfl, _, _, _⟩ := Res.row_at H5.h0; have c0 : w5.cell? ⟨g, 0, none⟩ = some (.slice Ao n co) := H5.h2.cell 0; have f0 := H5.h2.frozen 0; have hgl : g < w5.heap.size := H5.h2.lt; have H6 := H5.g2.set_ 0 (.slice A5 (n + 1) c5); have H7 := (H6.g2.g3.rowsSnoc HK.out).p2; have HH := Lib.hid H7; clear H5 H6 H7)
  have H7 := HH.out
  have c1 : (w5.setCell ⟨g, 0, none⟩ (.slice A5 (n + 1) c5)).cell? ⟨g, 0, none⟩ = some (.slice A5 (n + 1) c5) := H7.h0.cell 0
  clear c0 f0 hgl H7
  generalize World.setCell _ _ _ = w6 at *
  go_wp2
  go_ret
  exact ⟨_, _, rfl, HH.out⟩
theorem wpList_appW {P : Program} {w0 w : World} {L : List Res} {ops : Array Oper} {rest : List Oper} {o : Oper} {a : Act} {Q : Exit → Act → World → Prop} (hw : Region.wanted o (yielded ops a.tmps) = true) (s x : Operand) (t : TypeId)
    (ho : o.op = .call { callee := .builtin .append, args := #[s, x], argTypes := #[t, t] })
    (e : TypeId) (i : TypeInfo) (z : Value) (size bytes : Nat) (ht : P.underlying t = some (.slice e)) (hi : P.info? e = some i) (hz : i.zero = some z)
    (hsize : i.size = size) (hby : i.bytes = bytes) (hzs : z.cells.size = size) (hsz : 0 < size)
    (v : Value) (n : Nat) (xs : List Value) (hs : a.eval s = v) (H : Sep w0 w (Res.row v e size n xs :: L))
    (A : Option Addr) (m c : Nat) (news : List Value) (hx : a.eval x = .slice A m c) {lo hi' : Nat} (hr : Rd w lo hi' size A m news) (h1 : ∀ u ∈ news, u.oneCell' = true)
    (h63 : n + m ≤ maxLen) (hbytes : (n + m) * bytes ≤ 140737488355328)
    (h : ∀ v' w', Sep w0 w' (Res.row v' e size (n + m) (xs ++ news) :: L) → wpList P ops Q rest (a.put o.dst v') w') : wpList P ops Q (o :: rest) a w := by
  refine wpList_step fun K hK => ?_
  rw [if_pos hw]
  obtain ⟨v', w', hr', h2⟩ := H.run_app (P := P) t o.type e i z size bytes ht hi hz hsize hby hzs hsz c hr h1 h63 hbytes
  unfold Oper.wp execOp
  simp only [ho, resolve, invoke, builtin, Sem.run_bind, Sem.run_pure, Result.andThen_ok, List.map_toArray, List.map_cons, List.map_nil, hs, hx, hr']
  exact hK _ _ (h v' w' h2)
theorem ints_atZ {w : World} {A : Option Addr} {n c i : Nat} {l : List Int} {y : Int} (h : IntsRd w 0 w.heap.size (.slice A n c) l) (hy : l[i]? = some y) : ∃ b off, A = some ⟨b, off, none⟩ ∧ b < w.heap.size ∧ w.cell? ⟨b, off + i, none⟩ = some (.int .i64 y) := by
  obtain ⟨A', c', e, _, hr⟩ := h
  injection e with e1 e2 e3
  subst e1
  obtain ⟨b, off, e4, _, hb, hc⟩ := hr.2 (by have := (List.getElem?_eq_some_iff.1 hy).1; omega)
  exact ⟨b, off, e4, hb, hc i _ (by simp [ic, hy])⟩
theorem row_rdZ {w : World} {v : Value} {n : Nat} {l : List Int} (h : w.ownsRow 0 3 1 v n (ic l)) (hn : n = l.length) : IntsRd w 0 w.heap.size v l := by
  subst hn
  exact IntsIn.rd (lo := 0) ⟨h, fun k hk => own_lt h k hk⟩
theorem nlZ {l : List Nat} {x : Nat} : nl (l ++ [x]) = nl l ++ [(x : Int)] := by simp [nl]
/-- where the pieces' placements lie -/
structure PzM (gs g k : Nat) (av : Value) (avs : List Value) (at' : List (List Nat)) (L : List Res) : Prop where
  box : Res.box gs 111 #[av, .func (.func 96) #[] #[.pointer (some ⟨g, 0, none⟩)]] ∈ L
  row : Res.row av 22 1 k avs ∈ L
  rows : Res.rows avs (at'.map nl) ∈ L
  len : k = at'.length
  len5 : k ≤ 1000
  msk : ∀ P ∈ at', P.length ≤ 1000000 ∧ ∀ m ∈ P, m < 2 ^ 36
theorem PzM.cons {gs g k : Nat} {av : Value} {avs : List Value} {at' : List (List Nat)} {L : List Res} {r : Res} (h : PzM gs g k av avs at' L) : PzM gs g k av avs at' (r :: L) := ⟨List.mem_cons_of_mem _ h.box, List.mem_cons_of_mem _ h.row, List.mem_cons_of_mem _ h.rows, h.len, h.len5, h.msk⟩
abbrev pzL4 (lv ov : Value) (i g n : Nat) (l : List Nat) (vs : List Value) (S : List (List Nat)) (L : List Res) : List Res := Res.row lv 3 1 i (ic (nl l)) :: Res.box g 47 #[ov] :: Res.row ov 22 1 n vs :: Res.rows vs (S.map nl) :: L
theorem pz_box {gs g k : Nat} {av : Value} {avs : List Value} {at' : List (List Nat)} {w0 w : World} {L : List Res} (hat : PzM gs g k av avs at' L) (H : Sep w0 w L) : Blk w gs 111 #[av, .func (.func 96) #[] #[.pointer (some ⟨g, 0, none⟩)]] := (H.inn _ hat.box).1
theorem pz_row {gs g k : Nat} {av : Value} {avs : List Value} {at' : List (List Nat)} {w0 w : World} {L : List Res} (hat : PzM gs g k av avs at' L) (H : Sep w0 w L) : w.ownsRow 0 22 1 av k avs := (H.inn _ hat.row).1
theorem pz_at {gs g k b c i : Nat} {avs : List Value} {at' : List (List Nat)} {P : List Nat} {w0 w : World} {L : List Res} (hat : PzM gs g k (.slice (some ⟨b, 0, none⟩) k c) avs at' L) (H : Sep w0 w L) (hP : at'[i]? = some P) : ∃ A cp, avs[i]? = some (.slice A P.length cp) ∧ w.cell? ⟨b, i, none⟩ = some (.slice A P.length cp) ∧ IntsRd w 0 w.heap.size (.slice A P.length cp) (nl P) := by
  have hr : RowsAt w avs (at'.map nl) := (H.inn _ hat.rows).1
  have hi := (List.getElem?_eq_some_iff.1 hP).1
  obtain ⟨u, hu⟩ : ∃ u, avs[i]? = some u := ⟨avs[i]'(by rw [hr.len, List.length_map]; exact hi), List.getElem?_eq_getElem _⟩
  have ho := hr.own i u (nl P) hu (by rw [List.getElem?_map, hP]; rfl)
  have hnl : (nl P).length = P.length := by simp [nl]
  have hrd : IntsRd w 0 w.heap.size u (nl P) := IntsIn.rd (lo := 0) ⟨ho, fun k hk => own_lt ho k hk⟩
  rw [hnl] at ho
  obtain ⟨A, cp, rfl, _, _, _⟩ := Res.row_at ho
  have h0 := own_cell (pz_row hat H) hu
  rw [Nat.zero_add] at h0
  exact ⟨A, cp, hu, h0, hrd⟩
def PzPost (g : Nat) (at' seen : List (List Nat)) (l : List Nat) (free : Nat) (w0 : World) (L : List Res) : Ending → World → Prop := fun e w' => ∃ ov vs n S, S = ext 300 seen (pzL l (pzS (at'.drop l.length) free)) ∧ n = S.length ∧ e = .returned (.bool (decide (n < 300))) ∧ Sep w0 w' (Res.box g 47 #[ov] :: Res.row ov 22 1 n vs :: Res.rows vs (S.map nl) :: L)
theorem PzPost.mk {g n : Nat} {at' seen S : List (List Nat)} {l : List Nat} {free : Nat} {w0 w' : World} {L : List Res} {ov : Value} {vs : List Value} {b : Bool} (hS : S = ext 300 seen (pzL l (pzS (at'.drop l.length) free))) (hn : n = S.length) (hb : b = decide (n < 300)) (H : Sep w0 w' (Res.box g 47 #[ov] :: Res.row ov 22 1 n vs :: Res.rows vs (S.map nl) :: L)) : PzPost g at' seen l free w0 L (.returned (.bool b)) w' := by
  subst hb
  exact ⟨ov, vs, n, S, hS, hn, rfl, H⟩
def SolveC (gs g k : Nat) (av : Value) (avs : List Value) (at' : List (List Nat)) (d : Nat) : Prop := ∀ (w0 w : World) (L : List Res) (ov lv : Value) (vs : List Value) (seen : List (List Nat)) (l : List Nat) (free n i : Nat), PzM gs g k av avs at' L → i = l.length → i + d = k → n = seen.length → n < 300 → free < 2 ^ 36 →
  Sep w0 w (pzL4 lv ov i g n l vs seen L) → Calls Tryz.prog 98 #[.pointer (some ⟨gs, 0, none⟩), .int .i64 free, lv] w (PzPost g at' seen l free w0 L)
theorem pzS_nil {at' : List (List Nat)} {l : List Nat} {free : Nat} (h : l.length = at'.length) : pzS (at'.drop l.length) free = if free = 0 then [[]] else [] := by
  rw [h, List.drop_length]; rfl
set_option maxRecDepth 100000 in
set_option maxHeartbeats 1600000 in
theorem solve_zero (gs g k : Nat) (av : Value) (avs : List Value) (at' : List (List Nat)) : SolveC gs g k av avs at' 0 := by
  intro w0 w L ov lv vs seen l free n i hat hil hd hn hn3 hf H
  have hbx := pz_box hat H.drop.drop.drop.drop
  obtain ⟨Aa, ca, rfl, _, _, _⟩ := Res.row_at (pz_row hat H.drop.drop.drop.drop)
  obtain ⟨Al, cl, rfl, _, _, _⟩ := Res.row_at H.h0
  have c0 : w.cell? ⟨gs, 0, none⟩ = some (.slice Aa k ca) := hbx.cell 0
  have c1 : w.cell? ⟨gs, 1, none⟩ = some (.func (.func 96) #[] #[.pointer (some ⟨g, 0, none⟩)]) := hbx.cell 1
  have hgs : gs < w.heap.size := hbx.lt
  obtain rfl : i = k := by omega
  have h5 := hat.len5
  have HNL : Hid (pzS (at'.drop l.length) free = if free = 0 then [[]] else []) := Lib.hid (pzS_nil (by rw [← hil]; exact hat.len))
  have HN := Lib.hid hn
  have HIL := Lib.hid hil
  by_cases h0 : free = 0
  · subst h0
    have HC := Lib.hid (pzVis_c hn3 (show i = (nl l).length by simp [nl]; exact hil) H)
    clear hbx hat hil hn H
    go_enter Tryz.func98, Tryz.ntmps98
    go_wp2_with fail
    refine (HC.out).mono ?_
    rintro e w1 ⟨ov', vs', rfl, H1⟩
    have HH := Lib.hid H1
    clear H1 c0 c1 hgs HC
    go_wp2
    go_ret
    refine PzPost.mk (S := seen ++ [l]) ?_ ?_ rfl (by rw [List.map_append]; exact HH.out)
    · rw [HNL.out, if_pos trivial, show pzL l [[]] = [l] by simp [pzL], ext_one (by rw [← HN.out]; exact hn3)]
    · rw [List.length_append, ← HN.out]; rfl
  · have hz : ((free : Int) == 0) = false := by simp; omega
    have hz2 : ((free : Int) != 0) = true := by simp; omega
    have HH := Lib.hid H.drop
    have H0 := Lib.hid h0
    clear hbx hat hil hn H h0
    go_enter Tryz.func98, Tryz.ntmps98
    go_wp2
    go_ret
    refine PzPost.mk (S := seen) ?_ HN.out (by rw [decide_eq_true hn3]) HH.out
    rw [HNL.out, if_neg H0.out, show pzL l [] = [] from rfl, ext_nil]
set_option maxRecDepth 100000 in
set_option maxHeartbeats 3200000 in
theorem solve_step (gs g k : Nat) (av : Value) (avs : List Value) (at' : List (List Nat)) (d : Nat) (ih : SolveC gs g k av avs at' d) : SolveC gs g k av avs at' (d + 1) := by
  intro w0 w L ov lv vs seen l free n i hat hil hd hn hn3 hf H
  obtain ⟨j0, hj, hy0, hy1, hy2⟩ := info_parts infoIntZ
  have HIH := Lib.hid ih
  have HAT := Lib.hid hat
  have hik : i < k := by omega
  have h5 := hat.len5
  have hbx := pz_box hat H.drop.drop.drop.drop
  obtain ⟨Aa, ca, rfl, hca, _, _⟩ := Res.row_at (pz_row hat H.drop.drop.drop.drop)
  obtain ⟨ba, rfl⟩ : ∃ b, Aa = some ⟨b, 0, none⟩ := by
    obtain ⟨b, off, c', e, _⟩ := own_shape (pz_row hat H.drop.drop.drop.drop) (by omega)
    injection e with e1
    subst e1
    obtain ⟨rfl, _⟩ := own_blk (pz_row hat H.drop.drop.drop.drop)
    exact ⟨b, rfl⟩
  obtain ⟨Al, cl, rfl, _, _, _⟩ := Res.row_at H.h0
  have c0 : w.cell? ⟨gs, 0, none⟩ = some (.slice (some ⟨ba, 0, none⟩) k ca) := hbx.cell 0
  have hgs : gs < w.heap.size := hbx.lt
  have hba : ba < w.heap.size := own_lt (pz_row hat H.drop.drop.drop.drop) ba rfl
  have HN := Lib.hid hn
  have HIL := Lib.hid hil
  have HD := Lib.hid hd
  have HF := Lib.hid hf
  have HLEN := Lib.hid hat.len
  have hik2 : ((i : Int) == (k : Int)) = false := by simp; omega
  have hci : ¬ ca = i := by omega
  have hi5 : (i : Int) ≤ (k : Int) := by omega
  obtain ⟨wo, hwo⟩ : ∃ wo, wo = w := ⟨_, rfl⟩
  subst hwo
  clear hbx ih hat hil hd hn hf
  go_enter Tryz.func98, Tryz.ntmps98
  go_wp2
  go_loopw [8, 41] (fun rv jv wx => ∃ acc j : Nat, j ≤ k - i ∧ rv = .int .i64 acc ∧ jv = .int .i64 j ∧ Hid (PzR at' free i j acc) ∧ wo = wx) (fun _ jv _ => (k - i) - (intOf jv).toNat)
  case atStart => exact ⟨0, 0, Nat.zero_le _, rfl, rfl, Lib.hid PzR.start, rfl⟩
  case round =>
    obtain ⟨acc, j, hjk, rfl, rfl, HR, rfl⟩ := hrel
    by_cases hjl : j < k - i
    · have hjli : (j : Int) < ((k - i : Nat) : Int) := by omega
      obtain ⟨Q, hQ⟩ : ∃ Q, at'[i + j]? = some Q := ⟨at'[i + j]'(by rw [← HLEN.out]; omega), List.getElem?_eq_getElem _⟩
      obtain ⟨Ax, cx, _, x0, hrx⟩ := pz_at HAT.out H.drop.drop.drop.drop hQ
      have HQ := Lib.hid hQ
      have HQM := Lib.hid (HAT.out.msk Q (List.mem_of_getElem? hQ))
      obtain ⟨m, hm⟩ : ∃ m, m = Q.length := ⟨_, rfl⟩
      have hm6 : m ≤ 1000000 := by rw [hm]; exact HQM.out.1
      have HM := Lib.hid hm
      rw [← hm] at x0 hrx
      have HRX := Lib.hid hrx
      clear hQ hm hrx
      go_wp2
      go_loopw [8, 47] (fun rv qv wx => ∃ acc q : Nat, q ≤ m ∧ rv = .int .i64 acc ∧ qv = .int .i64 q ∧ Hid (PzR2 at' free i j acc Q q) ∧ wo = wx) (fun _ qv _ => m - (intOf qv).toNat)
      case atStart => exact ⟨acc, 0, Nat.zero_le _, rfl, rfl, Lib.hid HR.out.row, rfl⟩
      case round =>
        clear HR
        obtain ⟨acc, q, hqm, rfl, rfl, HR, rfl⟩ := hrel
        by_cases hql : q < m
        · have hqli : (q : Int) < (m : Int) := by omega
          obtain ⟨x, hx⟩ : ∃ x, Q[q]? = some x := ⟨Q[q]'(by rw [← HM.out]; exact hql), List.getElem?_eq_getElem _⟩
          obtain ⟨bx, ox, rfl, hbx, y0⟩ := ints_atZ HRX.out (show (nl Q)[q]? = some (x : Int) by simp [nl, hx])
          have hx36 := HQM.out.2 x (List.mem_of_getElem? hx)
          have HX := Lib.hid hx
          have hst := isMask_step (a := x) (b := free) (by omega) (by have := HF.out; omega)
          by_cases hsub : x &&& free = x
          · have hst2 : (bits .andNot .i64 (x : Int) (free : Int) == 0) = true := by rw [hst]; simpa using hsub
            have hal := pz_le HR.out.1.1
            have hor := i64_or_nat acc x (by have := HF.out; omega) (by omega)
            have HR2 := Lib.hid (HR.out.take HX.out hsub)
            clear hx hst hsub hal
            go_wp2
            go_roundw
            case rel => exact ⟨acc ||| x, q + 1, by omega, rfl, by go_num, HR2, trivial⟩
            case measure => simp [intOf]; omega
          · have hst2 : (bits .andNot .i64 (x : Int) (free : Int) == 0) = false := by rw [hst]; simpa using hsub
            have HR2 := Lib.hid (HR.out.skip HX.out hsub)
            clear hx hst hsub
            go_wp2
            go_roundw
            case rel => exact ⟨acc, q + 1, by omega, rfl, by go_num, HR2, trivial⟩
            case measure => simp [intOf]; omega
        · have hqe : q = Q.length := by have := HM.out; omega
          have HR2 : Hid (PzR at' free i (j + 1) acc) := Lib.hid (by
            have := HR.out
            rw [hqe] at this
            exact this.all HQ.out)
          clear hqe
          go_wp2
          go_roundw
          case rel => exact ⟨acc, j + 1, by omega, rfl, by go_num, HR2, trivial⟩
          case measure => simp [intOf]; omega
    · obtain rfl : j = k - i := by omega
      by_cases hac : acc = free
      · subst hac
        have hne : ((acc : Int) == (acc : Int)) = true := by simp
        have hne2 : ((acc : Int) != (acc : Int)) = false := by simp
        obtain ⟨P, hP⟩ : ∃ P, at'[i]? = some P := ⟨at'[i]'(by rw [← HLEN.out]; exact hik), List.getElem?_eq_getElem _⟩
        obtain ⟨Ax, cx, hax, x0, hrx⟩ := pz_at HAT.out H.drop.drop.drop.drop hP
        have HP := Lib.hid hP
        have HPM := Lib.hid (HAT.out.msk P (List.mem_of_getElem? hP))
        obtain ⟨m, hm⟩ : ∃ m, m = P.length := ⟨_, rfl⟩
        have hm6 : m ≤ 1000000 := by rw [hm]; exact HPM.out.1
        have HM := Lib.hid hm
        rw [← hm] at x0 hax
        have HAX := Lib.hid hax
        clear hP hm hax hrx HR
        go_wp2
        clear x0 hgs hba c0
        go_loopw [71] (fun qv wx => ∃ (q n : Nat) (ov : Value) (vs : List Value) (S : List (List Nat)), q ≤ m ∧ qv = .int .i64 q ∧ Hid (S = pzQ at' seen l acc P q) ∧ Hid (n = S.length) ∧ n < 300 ∧ Sep w0 wx (pzL4 (.slice Al i cl) ov i g n l vs S L)) (fun qv _ => m - (intOf qv).toNat)
        case atStart => exact ⟨0, n, ov, vs, seen, Nat.zero_le _, rfl, Lib.hid pzQ_zero.symm, HN, hn3, H⟩
        case round =>
          clear H hn3
          obtain ⟨q, n, ov, vs, S, hqm, rfl, HS, HNS, hn3, H⟩ := hrel
          by_cases hql : q < m
          · have hqli : (q : Int) < (m : Int) := by omega
            obtain ⟨x, hx⟩ : ∃ x, P[q]? = some x := ⟨P[q]'(by rw [← HM.out]; exact hql), List.getElem?_eq_getElem _⟩
            obtain ⟨Ay, cy, hay, _, hrx⟩ := pz_at HAT.out H.drop.drop.drop.drop HP.out
            rw [HAX.out, ← HM.out] at hay
            injection hay with hay
            injection hay with e1 e2 e3
            subst e1 e3
            rw [← HM.out] at hrx
            obtain ⟨bx, ox, rfl, hbx, y0⟩ := ints_atZ hrx (show (nl P)[q]? = some (x : Int) by simp [nl, hx])
            have hx36 := HPM.out.2 x (List.mem_of_getElem? hx)
            have HX := Lib.hid hx
            have hst := isMask_step (a := x) (b := acc) (by omega) (by have := HF.out; omega)
            by_cases hsub : x &&& acc = x
            · have hst2 : (bits .andNot .i64 (x : Int) (acc : Int) == 0) = true := by rw [hst]; simpa using hsub
              obtain ⟨f2, hf2⟩ : ∃ f2, f2 = acc - x := ⟨_, rfl⟩
              have hand : bits .andNot .i64 (acc : Int) (x : Int) = (f2 : Int) := by
                rw [i64_andNot_nat acc x (by have := HF.out; omega) (by omega), pz_sub_and hsub (by have := HF.out; omega), hf2]
              have HF2 : Hid (f2 < 2 ^ 36) := Lib.hid (by have := HF.out; omega)
              have HSN : Hid (pzQ at' seen l acc P (q + 1) = ext 300 S (pzL (l ++ [x]) (pzS (at'.drop (l ++ [x]).length) f2))) := Lib.hid (by
                rw [HS.out, hf2]
                exact pzQ_take HX.out hsub (by rw [← HS.out, ← HNS.out]; exact hn3))
              have hnll : (nl l).length = i := by simp [nl]; exact HIL.out.symm
              have HCP := Lib.hid (impl_copyInts_c (l := nl l) wr (row_rdZ H.h0 hnll.symm) (by rw [hnll]; omega))
              clear hx hst hsub hf2
              go_wp2_with fail
              refine (HCP.out).mono ?_
              rintro e w4 ⟨v4, rfl, o4, b4⟩
              have o5 : OI w4 wr.heap.size w4.heap.size 3 1 v4 i (ic (nl l)) := by
                unfold IntsIn at o4
                rw [hnll] at o4
                exact o4
              have H4 := H.oiNew b4 o5
              have HNLL : Hid (ic (nl (l ++ [x])) = ic (nl l) ++ [.int .i64 (x : Int)]) := Lib.hid (by rw [nlZ, ic_append]; rfl)
              clear HCP o4 o5 b4 H y0 hnll
              go_wp2_with (at_builtin; refine wpList_appW rfl _ _ 22 rfl 3 j0 _ 1 8 Tryz.underlying22 hj hy0 hy1 hy2 rfl (by decide) _ _ _ rfl (H4.alloc _) _ _ _ [.int .i64 (x : Int)] rfl (Rd.fresh w4 _ #[.int .i64 (x : Int)] 1 1 rfl) oc1 (by unfold maxLen; omega) (by omega) ?_; intro v5 w5 H5; clear H4)
              rw [← HNLL.out] at H5
              have HCALL := Lib.hid (HIH.out w0 w5 (Res.row (.slice Al i cl) 3 1 i (ic (nl l)) :: L) ov v5 vs S (l ++ [x]) f2 n (i + 1) HAT.out.cons (by rw [List.length_append, ← HIL.out]; rfl) (by have := HD.out; omega) HNS.out hn3 HF2.out H5.g1.p4)
              clear H5
              refine (HCALL.out).mono ?_
              rintro e w6 ⟨ov2, vs2, n2, S2, hS2, hn2, rfl, H6⟩
              have H7 := H6.g3
              have HS2 : Hid (S2 = pzQ at' seen l acc P (q + 1)) := Lib.hid (by rw [hS2, HSN.out])
              have HN2 := Lib.hid hn2
              clear H6 hS2 hn2 HCALL
              by_cases hn4 : n2 < 300
              · rw [decide_eq_true hn4]
                go_wp2
                go_roundw
                case rel => exact ⟨q + 1, n2, ov2, vs2, S2, by omega, by go_num, HS2, HN2, hn4, H7⟩
                case measure => simp [intOf]; omega
              · rw [decide_eq_false hn4]
                have HFIN : Hid (S2 = ext 300 seen (pzL l (pzS (at'.drop l.length) acc))) := Lib.hid (by
                  rw [HS2.out]
                  exact pzQ_stop (by rw [← HIL.out]; exact HP.out) (by rw [← HS2.out, ← HN2.out]; exact hn4))
                go_wp2
                go_ret
                exact PzPost.mk HFIN.out HN2.out (by rw [decide_eq_false hn4]) H7.drop
            · have hst2 : (bits .andNot .i64 (x : Int) (acc : Int) == 0) = false := by rw [hst]; simpa using hsub
              have HS2 : Hid (S = pzQ at' seen l acc P (q + 1)) := Lib.hid (by rw [HS.out]; exact (pzQ_skip HX.out hsub).symm)
              clear hx hst hsub
              go_wp2
              go_roundw
              case rel => exact ⟨q + 1, n, ov, vs, S, by omega, by go_num, HS2, HNS, hn3, H⟩
              case measure => simp [intOf]; omega
          · have hqe : q = P.length := by have := HM.out; omega
            have HFIN : Hid (S = ext 300 seen (pzL l (pzS (at'.drop l.length) acc))) := Lib.hid (by
              rw [HS.out]
              exact pzQ_end (by rw [← HIL.out]; exact HP.out) hqe)
            clear hqe
            go_wp2
            go_ret
            exact PzPost.mk HFIN.out HNS.out (by rw [decide_eq_true hn3]) H.drop
      · have hne : ((acc : Int) == (free : Int)) = false := by simp; omega
        have hne2 : ((acc : Int) != (free : Int)) = true := by simp; omega
        have HNO : Hid (pzS (at'.drop l.length) free = []) := Lib.hid (by
          rw [← HIL.out]
          exact HR.out.none HLEN.out (by have := HF.out; omega) hac)
        clear hac
        go_wp2
        go_ret
        refine PzPost.mk (S := seen) ?_ HN.out (by rw [decide_eq_true hn3]) H.drop
        rw [HNO.out, show pzL l [] = [] from rfl, ext_nil]
theorem solve_c (gs g k : Nat) (av : Value) (avs : List Value) (at' : List (List Nat)) : ∀ d, SolveC gs g k av avs at' d
  | 0 => solve_zero gs g k av avs at'
  | d + 1 => solve_step gs g k av avs at' d (solve_c gs g k av avs at' d)
end Go.Proofs.YtldggeldabaodaaGreat
