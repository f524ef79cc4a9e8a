
/-
  Masks put in the order of their least bits: the program's closure, the library's sort over it. A tiling repaired: the program's walk.
-/
import Derived.Test.YtelneohlpljblaaGreatDoorRepX
import Derived.Test.YtelneohlpljblaaGreatDoorRepH
import Derived.Test.YtelneohlpljblaaGreatDoorShelf
import Derived.Shelf.GgSortFunc.Whole
import Derived.Lib.OwnBridge
import Derived.Deep.QuietTactic
import Derived.BigQuiet
namespace Go.Proofs.YtelneohlpljblaaGreatDoor
open Go.RowKit

abbrev M36 := {m : Nat // m < 68719476736}
instance : Inhabited M36 := ⟨⟨0, by decide⟩⟩
def encM (x : M36) : Value := .int .i64 (x.1 : Int)
def ltM (x y : M36) : Bool := decide (lowB x.1 < lowB y.1)
theorem swo_ltM : Sort.SWO ltM where
  irrefl x := by simp [ltM]
  trans x y z h1 h2 := by simp [ltM] at *; omega
  ntrans x y z h1 h2 := by simp [ltM] at *; omega
set_option maxRecDepth 100000 in
theorem low_any (m : Nat) (w : World) (hm : m < 68719476736) (ht : Tab64 w) (q : Nat) : Calls Tryz.prog 69 #[.int .i64 m] (w.drewN q) fun e w' => e = .returned (.int .i64 (lowB m)) ∧ w' = w.drewN q :=
  (impl_low_c (w.drewN q) hm (tab64_on ht (below_drewN (Below.refl _ _) q))).mono fun _ _ ⟨h1, h2⟩ => ⟨h1, h2.symm⟩
set_option maxRecDepth 100000 in
set_option maxHeartbeats 1600000 in
theorem repLess_c {Bs g n c i j : Nat} {X Y : M36} (w : World) (hs : w.cell? ⟨Bs, 0, none⟩ = some (.slice (some ⟨g, 0, none⟩) n c)) (hX : w.cell? ⟨g, i, none⟩ = some (encM X)) (hY : w.cell? ⟨g, j, none⟩ = some (encM Y)) (hi : i < n) (hj : j < n) (ht : Tab64 w) :
    Calls Tryz.prog 68 #[.int .i64 i, .int .i64 j, .pointer (some ⟨Bs, 0, none⟩)] w fun e w' => e = .returned (.bool (ltM X Y)) ∧ ∃ q, w' = w.drewN q := by
  obtain ⟨x, hx⟩ := X
  obtain ⟨y, hy⟩ := Y
  unfold encM at hX hY
  simp only at hX hY
  have HX := Lib.hid (low_any x w hx ht)
  have HY := Lib.hid (low_any y w hy ht)
  have h1 : (i : Int) < (n : Int) := by omega
  have h2 : (j : Int) < (n : Int) := by omega
  have hlt : ltM ⟨x, hx⟩ ⟨y, hy⟩ = decide (((lowB x : Nat) : Int) < ((lowB y : Nat) : Int)) := by unfold ltM; rw [Bool.eq_iff_iff]; simp
  rw [hlt]
  clear hlt
  generalize lowB x = lx at *
  generalize lowB y = ly at *
  go_enter Tryz.func68, Tryz.ntmps68
  go_wp2_with fail
  go_quiet ((first | (go_at_call 69; with_reducible exact Calls.quiet_of_same (HX.out _)) | (go_at_call 69; with_reducible exact Calls.quiet_of_same (HY.out _))))
  go_wp2
  go_ret
  exact ⟨by simp, nq, rfl⟩

def toM (a : Int) : M36 := if h : a.toNat < 68719476736 then ⟨a.toNat, h⟩ else default
theorem encM_toM {a : Int} (h : 0 < a ∧ a.toNat < 2 ^ 36) : encM (toM a) = .int .i64 a := by
  have h2 : a.toNat < 68719476736 := h.2
  unfold toM encM
  rw [dif_pos h2]
  have : ((a.toNat : Nat) : Int) = a := by omega
  simp only [this]
theorem ic_toM {l : List Int} (h : ∀ a ∈ l, 0 < a ∧ a.toNat < 2 ^ 36) : ic l = (l.map toM).map encM := by
  unfold ic
  rw [List.map_map]
  exact List.map_congr_left fun a ha => (encM_toM (h a ha)).symm
def ofM (x : M36) : Int := (x.1 : Int)
theorem ofM_toM {l : List Int} (h : ∀ a ∈ l, 0 < a ∧ a.toNat < 2 ^ 36) : (l.map toM).map ofM = l := by
  rw [List.map_map]
  conv => rhs; rw [← List.map_id l]
  refine List.map_congr_left fun a ha => ?_
  have h2 : a.toNat < 68719476736 := (h a ha).2
  have h1 := (h a ha).1
  show ofM (toM a) = a
  unfold toM ofM
  rw [dif_pos h2]
  show ((a.toNat : Nat) : Int) = a
  omega
theorem map_encM (l : List M36) : l.map encM = ic (l.map ofM) := by unfold ic; rw [List.map_map]; rfl
/-- sorted and a permutation: the list in the order of its least bits -/
theorem sorted_srt {l : List Int} {d' : Array M36} (hd : DifL l) (hb : ∀ a ∈ l, 0 < a ∧ a.toNat < 2 ^ 36) (hp : Sort.PermIn 0 (l.map toM).toArray.size (l.map toM).toArray d') (hs : Sort.SortedIn ltM 0 (l.map toM).toArray.size d') :
    d'.toList.map ofM = srtL l ∧ d'.size = l.length := by
  obtain ⟨h1, _, h3⟩ := hp
  have hsz : d'.size = l.length := by rw [h1]; simp
  have h4 : d'.toList.Perm (l.map toM) := by
    have e1 : (d'.extract 0 (l.map toM).toArray.size) = d' := by rw [← h1]; simp
    have e2 : ((l.map toM).toArray.extract 0 (l.map toM).toArray.size) = (l.map toM).toArray := by simp; exact List.take_of_length_le (by simp)
    rw [e1, e2] at h3
    simpa using h3
  have h5 : (d'.toList.map ofM).Perm l := by
    have := h4.map ofM
    rwa [ofM_toM hb] at this
  have h6 : DifL (d'.toList.map ofM) := by
    unfold DifL
    exact (h5.pairwise_iff (fun {a b} h => Ne.symm h)).2 hd
  refine ⟨srtL_is hd ?_ fun x => h5.mem_iff, hsz⟩
  unfold SrtL
  unfold DifL at h6
  rw [List.pairwise_map] at h6 ⊢
  rw [List.pairwise_iff_getElem] at h6 ⊢
  intro i j hi hj hij
  have k1 := h6 i j hi hj hij
  have k2 := hs i j (Nat.zero_le _) hij (by rw [← h1]; simpa using hj)
  have hj2 : j < d'.size := by simpa using hj
  have hi2 : i < d'.size := by simpa using hi
  rw [getElem!_pos d' j hj2, getElem!_pos d' i hi2] at k2
  unfold ltM at k2
  have k3 := of_decide_eq_false k2
  have e1 : ∀ x : M36, lowI (ofM x) = lowB x.1 := fun x => by unfold lowI ofM; simp
  rw [e1, e1] at k1 ⊢
  simp only [Array.getElem_toList] at k1 ⊢
  omega
theorem srtL_tiny {l : List Int} (h : l.length ≤ 1) : srtL l = l := by
  match l, h with
  | [], _ => rfl
  | [a], _ => rfl
noncomputable def siT : TypeInfo := (Tryz.prog.info? 23).get (by kernel_rfl)
noncomputable def siE : TypeInfo := (Tryz.prog.info? 3).get (by kernel_rfl)
theorem siK (n : Nat) (h2 : 2 ≤ n) : Lib.swapperK n siE 2 = 5 := by
  have a : siE.hasPointers = false := by kernel_rfl
  have b : siE.bytes = 8 := by kernel_rfl
  have c : (n == 0) = false := by simp; omega
  have d : (n == 1) = false := by simp; omega
  simp [Lib.swapperK, a, b, c, d]
noncomputable abbrev repFn (Bs : Nat) : Value := .func (.func 68) #[] #[.pointer (some ⟨Bs, 0, none⟩)]
set_option maxHeartbeats 1600000 in
set_option maxRecDepth 100000 in
theorem sortRep_c {Bs n c : Nat} {A : Option Addr} {l : List Int} {w0 w : World} (H : Sep w0 w [Res.row (.slice A n c) 3 1 n (ic l), Res.box Bs 23 #[.slice A n c]]) (hn : n = l.length) (hd : DifL l) (hb : ∀ a ∈ l, 0 < a ∧ a.toNat < 2 ^ 36) (ht : Tab64 w0) :
    Calls Tryz.prog 67 #[.iface 23 (.slice A n c), repFn Bs] w fun e w' => e = .returned (.tuple #[]) ∧ Sep w0 w' [Res.row (.slice A n c) 3 1 n (ic (srtL l)), Res.box Bs 23 #[.slice A n c]] := by
  by_cases h1 : n ≤ 1
  · have hf : ∃ f, Tryz.prog.funcs.findIdx? (·.name == "internal/reflectlite" ++ ".Swapper$" ++ toString (Lib.swapperK n siE 2)) = some f := by
      by_cases h0 : n = 0
      · subst h0
        exact ⟨112, by kernel_rfl⟩
      · obtain rfl : n = 1 := by omega
        exact ⟨113, by kernel_rfl⟩
    obtain ⟨f, hf⟩ := hf
    have hS := Any.sort_Slice_tiny Tryz.laysGg6 23 3 siT siE (by kernel_rfl) (by kernel_rfl) (by kernel_rfl) (by kernel_rfl) 2 (fun _ => by kernel_rfl) A n c h1 f hf (.func 68) #[] #[.pointer (some ⟨Bs, 0, none⟩)] w
    refine Calls.mono (show Calls Tryz.prog 67 _ _ _ from hS) ?_
    rintro e w' ⟨rfl, os, rfl⟩
    refine ⟨rfl, ?_⟩
    rw [srtL_tiny (by omega)]
    exact H.step (Go.Lib.below_grow w.heap.size w (Nat.le_refl _) 0 os)
  · obtain ⟨g, o, c', he, _, _, hg⟩ := own_shape H.h0 (by omega)
    injection he with he1 _ he3
    subst he1 he3
    obtain ⟨rfl, _⟩ := own_blk H.h0
    have hg0 : w0.heap.size ≤ g := H.2.1 g rfl
    have hne : g ≠ Bs := fun e => H.2.2.1 (Res.box Bs 23 #[.slice (some ⟨g, 0, none⟩) n c]) (by simp) g rfl e
    have hBs : Bs < w.heap.size := Blk.lt H.h1
    have hbox : w.cell? ⟨Bs, 0, none⟩ = some (.slice (some ⟨g, 0, none⟩) n c) := H.h1.cell 0
    have hbel := H.below
    have hown := H.h0
    have hown2 : w.ownsRow 0 3 1 (.slice (some ⟨g, 0, none⟩) n c) n ((l.map toM).map encM) := by rw [← ic_toM hb]; exact hown
    obtain ⟨g', c2, he, _, _, _, _, hln, hH⟩ := Lib.holds_of_ownsRow hown2 (by intro e; cases e)
    injection he with he1 _ he3
    injection he1 with he1
    injection he1 with he1
    subst he1 he3
    have hds : (l.map toM).toArray.size = n := by simp; omega
    have hless : LessReads Tryz.prog 68 #[.pointer (some ⟨Bs, 0, none⟩)] encM ltM g 0 (l.map toM).toArray.size w := by
      intro m os dk hs i j hi hj
      have hsz : (Sort.putRow encM (Sort.ahead w m) g 0 dk).heap.size = w.heap.size := by simp
      have hb1 : Below w0.heap.size w0 (sortWorld encM w g 0 m dk os) := by
        have h1 := Lib.below_putRow (enc := encM) (q := m) (d := dk) hbel hg0
        exact h1.trans (Lib.below_grow _ _ (by rw [hsz]; exact hbel.size) 0 os)
      have hcell : ∀ t, t < n → (sortWorld encM w g 0 m dk os).cell? ⟨g, t, none⟩ = some (encM dk[t]!) := fun t ht => by
        unfold sortWorld
        rw [Sort.cell?_grow _ _ _ (by rw [hsz]; exact hg)]
        have := Sort.cell?_putRow encM (Sort.ahead w m) g 0 _ dk (Sort.holds_ahead _ _ m _ _ _ hH) hs t (by omega)
        rwa [Nat.zero_add] at this
      refine repLess_c (g := g) (n := n) (c := c) (sortWorld encM w g 0 m dk os) ?_ (hcell i (by omega)) (hcell j (by omega)) (by omega) (by omega) (tab64_on ht hb1)
      unfold sortWorld
      rw [Sort.cell?_grow _ _ _ (by rw [hsz]; exact hBs), Sort.cell?_putRow_other _ _ _ _ _ _ (.inl (fun e => hne e.symm)), Sort.cell?_ahead]
      exact hbox
    have hS := Any.sort_Slice_sorted Tryz.laysGg6 23 3 siT siE (by kernel_rfl) (by kernel_rfl) (by kernel_rfl) (by kernel_rfl) 2 (fun _ => by kernel_rfl) (by kernel_rfl) (fun _ => by kernel_rfl) encM (fun _ => rfl) ltM swo_ltM 68 #[.pointer (some ⟨Bs, 0, none⟩)]
      (enters_of Tryz.func68 (by kernel_rfl) rfl) g 0 c (l.map toM).toArray (by rw [hds]; omega) (by have := difL_len hd hb; rw [hds]; omega) 116 (by rw [siK _ (by rw [hds]; omega)]; kernel_rfl) true
      (fun args W => run_callFunc_extern Tryz.func116 (by kernel_rfl) (by kernel_rfl) (by kernel_rfl) (e := Extern.ReflectliteSwapper.swap true) (by kernel_rfl) args W) w hless hH hg
    rw [hds] at hS
    refine Calls.mono (show Calls Tryz.prog 67 _ _ _ from hS) ?_
    rintro e w' ⟨rfl, d', m, os, hP, hSo, rfl⟩
    refine ⟨rfl, ?_⟩
    obtain ⟨k1, k2⟩ := sorted_srt hd hb (by rw [hds]; exact hP) (by rw [hds]; exact hSo)
    refine H.turn ⟨rfl, rfl, rfl, by simp, fun b hb' hd => ?_⟩ ?_ fun b hb => .inl hb
    · rw [Sort.heap_grow_old _ _ (by simpa using hb')]
      have hgb : g ≠ b := fun e => hd (by rw [← e]; rfl)
      simp [Sort.putRow, Sort.mapBlock, Sort.ahead, Array.getElem?_modify, hgb]
    · have h2 := Lib.ownsRow_putRow (q := m) (k := n) (ys := d'.toList) hown2 (by rw [Array.length_toList, k2]; exact hn.symm) (Nat.le_refl _)
      rw [List.take_of_length_le (by rw [Array.length_toList, k2]; omega), map_encM, k1] at h2
      exact Lib.ownsRow_grow h2 0 os
end Go.Proofs.YtelneohlpljblaaGreatDoor

namespace Go.Proofs.YtelneohlpljblaaGreatDoor
open Go.RowKit

set_option maxRecDepth 100000 in
set_option maxHeartbeats 4000000 in
theorem impl_repair_c {v v2 v3 : Value} {r : Reg} {ps : List (List Cell)} {k : List Int} (w : World) (h : RegRd w 0 w.heap.size v r) (h2 : CellSSRd w 0 w.heap.size v2 ps) (h3 : IntsRd w 0 w.heap.size v3 k) (hn : ps.length ≤ 1048576) (hl : ∀ s ∈ ps, s.length ≤ 1048576) (hkl : k.length ≤ 1048576) (ht : Tab64 w) :
    Calls Tryz.prog 34 #[v, v2, v3] w fun e w' => ∃ v', e = .returned (.tuple #[v', .bool (repB r ps k)]) ∧ IntsIn w' w.heap.size w'.heap.size v' (repL r ps k) ∧ Below w.heap.size w w' := by
  obtain ⟨i0, hi, hz0, hz1, hz2⟩ := info_parts infoIntC
  have HRD : Hid (∀ w1, Below w.heap.size w w1 → RegRd w1 0 w1.heap.size v r) := Lib.hid fun w1 b1 => (h.keep (SameIn.of_below b1 (Nat.le_refl _))).more (Nat.le_refl _) b1.size
  have HR2 : Hid (∀ w1, Below w.heap.size w w1 → CellSSRd w1 0 w1.heap.size v2 ps) := Lib.hid fun w1 b1 => (h2.keep (SameIn.of_below b1 (Nat.le_refl _))).more (Nat.le_refl _) b1.size
  have HR3 : Hid (∀ w1, Below w.heap.size w w1 → IntsRd w1 0 w1.heap.size v3 k) := Lib.hid fun w1 b1 => ints_keep h3 b1
  have HTB : Hid (∀ w1, Below w.heap.size w w1 → Tab64 w1) := Lib.hid fun w1 b1 => tab64_on ht b1
  have HPR : Hid (∀ w1, Below w.heap.size w w1 → Calls Tryz.prog 61 #[v, v2] w1 fun e w' => e = .returned (.bool (r.valid && arePcs ps)) ∧ Below w1.heap.size w1 w') := Lib.hid fun w1 b1 =>
    impl_prob_c w1 (HRD.out w1 b1) (HR2.out w1 b1) hn hl
  obtain ⟨RB, hRB⟩ : ∃ b, b = repB r ps k := ⟨_, rfl⟩
  obtain ⟨RL, hRL⟩ : ∃ b, b = repL r ps k := ⟨_, rfl⟩
  rw [← hRB, ← hRL]
  have HB := Lib.hid hRB
  have HL := Lib.hid hRL
  obtain ⟨sr, rfl, hsr⟩ := h
  obtain ⟨A, c, rfl, _, _⟩ := hsr
  obtain ⟨vs, ⟨A2, c2, rfl, _, _⟩, _⟩ := h2
  obtain ⟨A3, c3, rfl, hm3, hr3⟩ := h3
  obtain ⟨n3, hn3⟩ : ∃ n, n = k.length := ⟨_, rfl⟩
  rw [← hn3] at hm3 hr3 hkl HR3 ⊢
  have HN3 := Lib.hid hn3
  have HRK := Lib.hid hr3
  have H0 := (Sep.start w).box 31 #[.int .i64 r.w, .slice A r.rows.length c]
  obtain ⟨bR, hbR⟩ : ∃ bR, bR = w.heap.size := ⟨_, rfl⟩
  rw [← hbR] at H0
  clear hRB hRL ht hn hl hr3 hn3
  go_enter Tryz.func34, Tryz.ntmps34
  go_upto_region 1 with fail
  rw [← hbR]
  generalize (w.alloc (.cells #[.int .i64 r.w, .slice A r.rows.length c] 31)) = W at *
  clear hbR
  have c0 : W.cell? ⟨bR, 0, none⟩ = some (.int .i64 r.w) := H0.h0.cell 0
  have c1 : W.cell? ⟨bR, 1, none⟩ = some (.slice A r.rows.length c) := H0.h0.cell 1
  have HP := Lib.hid (HPR.out W H0.below)
  go_wp2_with fail
  refine (HP.out).mono ?_
  rintro e w1 ⟨rfl, b1⟩
  have H1 := H0.step b1
  have hB1 := H1.below
  clear H0 b1 HP c0 c1 HPR
  cases hp : (r.valid && arePcs ps)
  · have h1 := rep_bad (k := k) hp
    obtain rfl : RB = false := by rw [HB.out]; exact h1.1
    obtain rfl : RL = [] := by rw [HL.out]; exact h1.2
    clear hp h1
    go_wp2
    refine bodyPost_ret (results_tmp2 rfl _ _ _) rfl ?_
    exact ⟨_, rfl, OI.nil, hB1⟩
  have HOK := Lib.hid hp
  simp only [Bool.and_eq_true] at hp
  have HV := Lib.hid (Reg.valid_iff.1 hp.1)
  have HAP := Lib.hid hp.2
  have HALL := Lib.hid (impl_all_c w1 (HRD.out w1 H1.below) (HR2.out w1 H1.below) HV.out HAP.out)
  have c0 : w1.cell? ⟨bR, 0, none⟩ = some (.int .i64 r.w) := H1.h0.cell 0
  have c1 : w1.cell? ⟨bR, 1, none⟩ = some (.slice A r.rows.length c) := H1.h0.cell 1
  clear hp hB1
  go_wp2_with fail
  refine (HALL.out).mono ?_
  rintro e w3 ⟨av, rfl, o3, b3⟩
  have H3 := H1.oiNew b3 o3
  clear c0 c1 H1 HALL b3
  obtain ⟨Aq, cq, rfl, _, _⟩ := o3.rd
  clear o3
  obtain ⟨M, hM⟩ : ∃ M, M = r.mask := ⟨_, rfl⟩
  obtain ⟨Q, hQ⟩ : ∃ Q, Q = allN r ps := ⟨_, rfl⟩
  have hQ2 : allP r ps = nl Q := by rw [hQ, nl_allN HV.out]
  rw [hQ2] at H3 ⊢
  have hM36 : M < 68719476736 := by rw [hM]; have := Reg.mask_lt HV.out; omega
  have HQA : Hid (∀ m ∈ Q, m &&& M = m ∧ 0 < m) := Lib.hid (by rw [hQ, hM]; exact allN_sub HV.out HAP.out)
  have HQL : Hid (∀ m ∈ Q, m < 2 ^ 36) := Lib.hid (by rw [hQ]; exact allN_lt HV.out)
  have HQN : Hid ((nl Q).length ≤ 1000000) := Lib.hid (by
    rw [← hQ2]
    have := allP_len HV.out (ps := ps)
    have := arePcs_on HAP.out
    omega)
  have HMSK : Hid (∀ w1, Below w.heap.size w w1 → Calls Tryz.prog 65 #[.agg #[.int .i64 r.w, .slice A r.rows.length c]] w1 fun e w' => e = .returned (.int .i64 (M : Int)) ∧ Below w1.heap.size w1 w') := Lib.hid fun w1 b1 => by
    rw [hM]; exact impl_mask_c w1 (HRD.out w1 b1) HV.out
  have HOUT : Hid (keptU Q 0 k = none → repB r ps k = false ∧ repL r ps k = []) := Lib.hid fun h => rep_out (by rw [← hQ]; exact h)
  have HNO : Hid (∀ u, keptU Q 0 k = some u → ordB Q (M - u) 0 = false → repB r ps k = false ∧ repL r ps k = []) := Lib.hid fun u h1 h2 => rep_no (u := u) (by rw [← hQ]; exact h1) (by rw [← hQ, ← hM]; exact h2)
  have HYES : Hid (∀ u, keptU Q 0 k = some u → ordB Q (M - u) 0 = true → repB r ps k = true ∧ repL r ps k = srtL (k ++ nl (ordR Q (M - u) 0))) := Lib.hid fun u h1 h2 => by
    have := rep_yes (u := u) HOK.out (by rw [← hQ]; exact h1) (by rw [← hQ, ← hM]; exact h2)
    rw [← hQ, ← hM] at this
    exact this
  obtain ⟨nq, hnq⟩ : ∃ nq, nq = (nl Q).length := ⟨_, rfl⟩
  rw [← hnq] at H3 HQN ⊢
  have HNQ := Lib.hid hnq
  clear hM hQ hQ2 hnq
  go_wp2
  go_loopw [9, 24] (fun uv iv wx => ∃ i u : Nat, i ≤ n3 ∧ iv = .int .i64 i ∧ uv = .int .i64 u ∧ Hid (keptU Q 0 (k.take i) = some u) ∧ Sep w wx [Res.row (.slice Aq nq cq) 3 1 nq (ic (nl Q)), Res.box bR 31 #[.int .i64 r.w, .slice A r.rows.length c]]) (fun _ iv _ => n3 - (intOf iv).toNat)
  case atStart => exact ⟨0, 0, Nat.zero_le _, rfl, rfl, Lib.hid rfl, H3⟩
  case round =>
    clear H3
    obtain ⟨i, u, hi3, rfl, rfl, HU, H⟩ := hrel
    have HUM : Hid (u &&& M = u) := Lib.hid (keptU_some HQA.out (Nat.zero_and _) HU.out).1
    have hu36 : u < 68719476736 := by rw [← HUM.out]; exact Nat.lt_of_le_of_lt Nat.and_le_right hM36
    have hqr : IntsRd wr 0 wr.heap.size (.slice Aq nq cq) (nl Q) := by unfold IntsRd; rw [← HNQ.out]; exact H.oi.sr.more (Nat.zero_le _) (Nat.le_refl _)
    have HQR := Lib.hid hqr
    clear hqr
    by_cases hlt : i < n3
    · have hlti : (i : Int) < (n3 : Int) := by omega
      obtain ⟨x, hx⟩ : ∃ x, k[i]? = some x := ⟨k[i]'(by rw [← HN3.out]; exact hlt), List.getElem?_eq_getElem _⟩
      obtain ⟨b, off, hA1, _, hb, hc⟩ := HRK.out.2 (by omega)
      subst hA1
      have x1 : w.cell? ⟨b, off + i, none⟩ = some (.int .i64 x) := hc i (.int .i64 x) (by simp [ic, hx])
      have y1 := (H.below.cell (p := ⟨b, off + i, none⟩) hb).trans x1
      have HX := Lib.hid hx
      obtain ⟨hb0, hhb0⟩ : ∃ hb0, hb0 = hasI (nl Q) x := ⟨_, rfl⟩
      have HHAS : Hid (Calls Tryz.prog 63 #[.slice Aq nq cq, .int .i64 x] wr fun e w' => e = .returned (.bool hb0) ∧ wr = w') := Lib.hid (by
        rw [hhb0]
        exact impl_hasI_c wr HQR.out (by rw [← HNQ.out]; have := HQN.out; omega))
      clear hc hx x1 hb
      cases hb0
      · have h1 := HOUT.out (keptU_stop HU.out HX.out (by
          rintro ⟨h1, _⟩
          have := mem_nl_iff.2 h1
          unfold hasI at hhb0
          exact of_decide_eq_false hhb0.symm this))
        obtain rfl : RB = false := by rw [HB.out]; exact h1.1
        obtain rfl : RL = [] := by rw [HL.out]; exact h1.2
        have hB := H.below
        clear h1 hhb0 H
        go_wp2_with fail
        refine (HHAS.out).mono ?_
        rintro e w5 ⟨rfl, rfl⟩
        clear HHAS y1
        go_wp2
        refine bodyPost_ret (results_tmp2 rfl _ _ _) rfl ?_
        exact ⟨_, rfl, OI.nil, hB⟩
      · have hxm := mem_nl_iff.1 (show x ∈ nl Q by unfold hasI at hhb0; exact of_decide_eq_true hhb0.symm)
        obtain ⟨m, rfl⟩ := Int.eq_ofNat_of_zero_le hxm.1
        have hmQ : m ∈ Q := by simpa using hxm.2
        have hm36 := HQL.out m hmQ
        have hand := i64_and_nat u m (by omega) (by omega)
        have HMQ := Lib.hid hmQ
        clear hxm hmQ hhb0
        by_cases hsub : u &&& m = 0
        · have hne : (bits .and .i64 (u : Int) (m : Int) != 0) = false := by rw [hand, hsub]; rfl
          have hor : bits .or .i64 (u : Int) (m : Int) = ((u ||| m : Nat) : Int) := i64_or_nat _ _ (by omega) (by omega)
          have HU2 : Hid (keptU Q 0 (k.take (i + 1)) = some (u ||| m)) := Lib.hid (by
            have := keptU_go HU.out HX.out ⟨⟨by omega, by simpa using HMQ.out⟩, by simpa using hsub⟩
            simpa using this)
          clear hsub hand
          go_wp2_with fail
          refine (HHAS.out).mono ?_
          rintro e w5 ⟨rfl, rfl⟩
          clear HHAS
          go_wp2
          go_roundw
          case rel => exact ⟨i + 1, u ||| m, by omega, by go_num, rfl, HU2, H⟩
          case measure => simp [intOf]; omega
        · have hne : (bits .and .i64 (u : Int) (m : Int) != 0) = true := by
            rw [hand]
            simp only [bne_iff_ne, ne_eq]
            omega
          have h1 := HOUT.out (keptU_stop HU.out HX.out (by
            rintro ⟨⟨_, h1⟩, h2⟩
            exact hsub (by simpa using h2)))
          obtain rfl : RB = false := by rw [HB.out]; exact h1.1
          obtain rfl : RL = [] := by rw [HL.out]; exact h1.2
          have hB := H.below
          clear h1 hsub hand H
          go_wp2_with fail
          refine (HHAS.out).mono ?_
          rintro e w5 ⟨rfl, rfl⟩
          clear HHAS y1
          go_wp2
          refine bodyPost_ret (results_tmp2 rfl _ _ _) rfl ?_
          exact ⟨_, rfl, OI.nil, hB⟩
    · obtain rfl : i = n3 := by omega
      have HU2 : Hid (keptU Q 0 k = some u) := Lib.hid (by have := HU.out; rw [HN3.out, List.take_length] at this; exact this)
      have hnot : bits .andNot .i64 (M : Int) (u : Int) = ((M - u : Nat) : Int) := andNot_sub HUM.out (by omega) (by omega)
      obtain ⟨f, hf⟩ : ∃ f, f = M - u := ⟨_, rfl⟩
      rw [← hf] at hnot
      have hf36 : f < 68719476736 := by omega
      obtain ⟨RT, hRT⟩ : ∃ RT, RT = nl (ordR Q f 0) := ⟨_, rfl⟩
      obtain ⟨OB, hOB⟩ : ∃ OB, OB = ordB Q f 0 := ⟨_, rfl⟩
      have hparts := rep_parts (by omega) HQA.out HU2.out
      rw [← hf, ← hRT] at hparts
      have HDF := Lib.hid hparts.2.1
      have HPS := Lib.hid hparts.2.2
      have HNO2 : Hid (OB = false → repB r ps k = false ∧ repL r ps k = []) := Lib.hid fun h => HNO.out u HU2.out (by rw [← hf, ← hOB, h])
      have HYES2 : Hid (OB = true → repB r ps k = true ∧ repL r ps k = srtL (k ++ RT)) := Lib.hid fun h => by
        have := HYES.out u HU2.out (by rw [← hf, ← hOB, h])
        rw [← hf, ← hRT] at this
        exact this
      have HM := Lib.hid (HMSK.out wr H.below)
      have c0 : wr.cell? ⟨bR, 0, none⟩ = some (.int .i64 r.w) := H.h1.cell 0
      have c1 : wr.cell? ⟨bR, 1, none⟩ = some (.slice A r.rows.length c) := H.h1.cell 1
      have HORD : Hid (∀ w1, Below w.heap.size w w1 → IntsRd w1 0 w1.heap.size (.slice Aq nq cq) (nl Q) → Calls Tryz.prog 64 #[.slice Aq nq cq, .int .i64 (f : Int), .int .i64 0] w1 fun e w' => ∃ v', e = .returned (.tuple #[v', .bool OB]) ∧ IntsIn w' w1.heap.size w'.heap.size v' RT ∧ Below w1.heap.size w1 w') := Lib.hid fun w1 b1 hv => by
        have := ordinal_c (free := f) (N := 0) w1 hv HQL.out (by have := HQN.out; rw [HNQ.out] at this; simpa [nl] using this) hf36 (by omega) (HTB.out w1 b1)
        rw [hOB, hRT]
        exact this
      clear hf hRT hOB hparts
      go_wp2_with fail
      refine (HM.out).mono ?_
      rintro e w5 ⟨rfl, b5⟩
      have H5 := H.step b5
      have HOR := Lib.hid (HORD.out w5 H5.below (ints_keep HQR.out b5))
      clear HM H b5 c0 c1
      go_wp2_with fail
      refine (HOR.out).mono ?_
      rintro e w6 ⟨tv, rfl, o6, b6⟩
      have H6 := H5.oiNew b6 o6
      obtain ⟨At, ct, rfl, _, hrt⟩ := o6.rd
      have HRTT := Lib.hid hrt
      clear hrt HOR H5 b6 o6
      cases OB
      · have h1 := HNO2.out rfl
        obtain rfl : RB = false := by rw [HB.out]; exact h1.1
        obtain rfl : RL = [] := by rw [HL.out]; exact h1.2
        have hB := H6.below
        clear h1 H6
        go_wp2
        refine bodyPost_ret (results_tmp2 rfl _ _ _) rfl ?_
        exact ⟨_, rfl, OI.nil, hB⟩
      · have h1 := HYES2.out rfl
        obtain rfl : RB = true := by rw [HB.out]; exact h1.1
        have HRL : Hid (RL = srtL (k ++ RT)) := Lib.hid (by rw [HL.out]; exact h1.2)
        obtain ⟨nt, hnt⟩ : ∃ nt, nt = RT.length := ⟨_, rfl⟩
        rw [← hnt] at H6 HRTT ⊢
        have HNT := Lib.hid hnt
        have hnt64 : i + nt ≤ 64 := by
          have := difL_len HDF.out HPS.out
          rw [List.length_append, ← HN3.out, ← hnt] at this
          exact this
        have HC := Lib.hid (impl_copyInts_c w6 (HR3.out w6 H6.below) (by rw [← HN3.out]; omega))
        clear h1 hnt
        go_wp2_with fail
        refine (HC.out).mono ?_
        rintro e w7 ⟨kv, rfl, o7, b7⟩
        have H7 := H6.oiNew b7 o7
        rw [← HN3.out] at H7
        have HRD7 := Lib.hid (HRTT.out.below b7 (Nat.le_refl _))
        obtain ⟨Ak, ck, rfl, _, _⟩ := o7.rd
        rw [← HN3.out] at H7
        rw [← HN3.out]
        clear HC H6 b7 o7
        go_upto_region 16 with ((at_builtin; refine wpList_app rfl _ _ 23 rfl 3 i0 _ 1 8 Tryz.underlying23 hi hz0 hz1 hz2 rfl (by decide) _ _ _ rfl H7 _ _ _ (ic RT) rfl HRD7.out ic_one (by unfold maxLen; omega) (by omega) ?_; intro v8 w8 H8; obtain ⟨A8, c8, rfl, _, _, _⟩ := Res.row_at H8.h0; clear H7))
        have H9 := (H8.drop2.drop2.drop2.box 23 #[.slice A8 (i + nt) c8]).g1
        rw [← ic_append] at H9
        obtain ⟨b14, hb14⟩ : ∃ b14, b14 = w8.heap.size := ⟨_, rfl⟩
        rw [← hb14] at H9
        have hlen : i + nt = (k ++ RT).length := by rw [List.length_append, ← HN3.out, ← HNT.out]
        rw [← hb14]
        generalize w8.alloc (.cells #[.slice A8 (i + nt) c8] 23) = W9 at *
        have HS := Lib.hid (sortRep_c H9 hlen HDF.out HPS.out (HTB.out w (Below.refl _ _)))
        have d0 : W9.cell? ⟨b14, 0, none⟩ = some (.slice A8 (i + nt) c8) := H9.h1.cell 0
        clear H8 hlen hb14
        go_wp2_with fail
        refine (HS.out).mono ?_
        rintro e w10 ⟨rfl, H10⟩
        have d1 : w10.cell? ⟨b14, 0, none⟩ = some (.slice A8 (i + nt) c8) := H10.h1.cell 0
        clear d0 H9 HS
        go_wp2
        refine bodyPost_ret (results_tmp2 rfl _ _ _) rfl ?_
        refine ⟨_, rfl, ?_, H10.below⟩
        unfold IntsIn
        have e1 : (srtL (k ++ RT)).length = i + nt := by
          have := srtL_len HDF.out (k ++ RT).length
          rw [List.take_length] at this
          rw [this, List.length_append, ← HN3.out, ← HNT.out]
        rw [HRL.out, e1]
        exact H10.oi
end Go.Proofs.YtelneohlpljblaaGreatDoor
