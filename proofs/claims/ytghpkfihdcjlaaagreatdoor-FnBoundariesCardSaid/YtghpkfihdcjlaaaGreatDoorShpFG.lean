
/-
  Shapes: the walk of the program's 'hangs' and 'IsConnectedShape'. Shapes: the walk of the program's 'hangs' and 'IsConnectedShape'.
-/
import Derived.Test.YtghpkfihdcjlaaaGreatDoorShpX
import Derived.Deep.LoopGhost
namespace Go.Proofs.YtghpkfihdcjlaaaGreatDoor
open Go.RowKit

def bc (F : List Bool) : List Value := F.map .bool
theorem bc_at {F : List Bool} {k : Nat} {f : Bool} (h : F[k]? = some f) : (bc F)[k]? = some (.bool f) := by simp [bc, h]
theorem bc_length {F : List Bool} : (bc F).length = F.length := by simp [bc]
theorem bc_set {F : List Bool} {k : Nat} {f : Bool} : (bc F).set k (.bool f) = bc (F.set k f) := by simp [bc, List.map_set]
set_option maxRecDepth 100000 in
theorem infoBool : (Tryz.prog.info? 4).map (fun i => (i.zero, i.size, i.bytes)) = some (some (.bool false), 1, 1) := by kernel_rfl
def cntT : List Bool → Nat
  | [] => 0
  | f :: F => (if f then 1 else 0) + cntT F
theorem cntT_le : ∀ F : List Bool, cntT F ≤ F.length
  | [] => Nat.le_refl _
  | f :: F => by
    have := cntT_le F
    unfold cntT
    split <;> simp <;> omega
theorem cntT_set : ∀ {F : List Bool} {k : Nat}, F[k]? = some false → cntT (F.set k true) = cntT F + 1
  | [], k, h => by simp at h
  | f :: F, 0, h => by
    simp at h
    subst h
    simp [cntT]
    omega
  | f :: F, k + 1, h => by
    have := cntT_set (F := F) (k := k) (by simpa using h)
    simp only [List.set_cons_succ, cntT, this]
    omega
theorem cntT_all : ∀ {F : List Bool}, cntT F = F.length ↔ ∀ (k : Nat), k < F.length → F[k]? = some true
  | [] => by simp [cntT]
  | f :: F => by
    have h1 := cntT_le F
    have ih := cntT_all (F := F)
    cases f
    · simp only [cntT, Bool.false_eq_true, if_false, List.length_cons]
      constructor
      · intro h; omega
      · intro h
        have := h 0 (by simp)
        simp at this
    · simp only [cntT, if_true, List.length_cons]
      constructor
      · intro h k hk
        cases k with
        | zero => simp
        | succ k => simpa using ih.1 (by omega) k (by omega)
      · intro h
        have := ih.2 (fun k hk => by simpa using h (k + 1) (by omega))
        omega
/-- marks of what was reached -/
structure Fl (s : List Cell) (a : Cell) (F : List Bool) : Prop where
  len : F.length = s.length
  first : F[0]? = some true
  reach : ∀ (i : Nat) (c : Cell), F[i]? = some true → s[i]? = some c → Hang s a c
theorem Fl.set {s : List Cell} {a b c : Cell} {F : List Bool} {i j : Nat} (h : Fl s a F) (hi : F[i]? = some true) (hb : s[i]? = some b) (hc : s[j]? = some c) (hs : sideB b c = true) : Fl s a (F.set j true) := by
  have hj : j < F.length := by rw [h.len]; exact (List.getElem?_eq_some_iff.1 hc).1
  refine ⟨by simpa using h.len, ?_, fun k d hk hd => ?_⟩
  · by_cases e : j = 0
    · subst e; simp [hj]
    · rw [List.getElem?_set_ne e]; exact h.first
  · by_cases e : j = k
    · subst e
      rw [hc] at hd
      injection hd with hd
      subst hd
      exact .step (h.reach i b hi hb) (List.mem_of_getElem? hc) hs
    · rw [List.getElem?_set_ne e] at hk
      exact h.reach k d hk hd
theorem Fl.start {s : List Cell} {a : Cell} (ha : s[0]? = some a) : Fl s a ((List.replicate s.length false).set 0 true) := by
  have hs : 0 < s.length := (List.getElem?_eq_some_iff.1 ha).1
  refine ⟨by simp, by simp [hs], fun i c hi hc => ?_⟩
  by_cases e : i = 0
  · subst e
    rw [ha] at hc
    injection hc with hc
    subst hc
    exact .base
  · rw [List.getElem?_set_ne (Ne.symm e)] at hi
    simp only [List.getElem?_replicate] at hi
    split at hi <;> simp at hi
theorem Fl.done {s : List Cell} {a : Cell} {F : List Bool} (h : Fl s a F) (hn : s.Nodup) (ha : s[0]? = some a)
    (hcl : ∀ (i j : Nat) (b c : Cell), F[i]? = some true → F[j]? = some false → s[i]? = some b → s[j]? = some c → sideB b c = false) : hangs s = decide (cntT F = s.length) := by
  refine hangs_eq ha ?_
  rw [decide_eq_true_eq, ← h.len, cntT_all]
  constructor
  · intro hall
    have hin : ∀ c, Hang s a c → ∀ j : Nat, s[j]? = some c → F[j]? = some true := by
      intro c hc
      induction hc with
      | base =>
        intro j hj
        have := (List.getElem?_inj (i := 0) (j := j) (List.getElem?_eq_some_iff.1 ha).1 hn).1 (by rw [ha, hj])
        subst this
        exact h.first
      | @step b c hb hcs hs ih =>
        intro j hj
        have hjl : j < F.length := by rw [h.len]; exact (List.getElem?_eq_some_iff.1 hj).1
        cases hf : F[j] with
        | true => rw [List.getElem?_eq_getElem hjl, hf]
        | false =>
          have hbm : b ∈ s := by
            cases hb with
            | base => exact List.mem_of_getElem? ha
            | step _ hm _ => exact hm
          obtain ⟨i, hi, e⟩ := List.getElem_of_mem hbm
          have hi2 : s[i]? = some b := by rw [List.getElem?_eq_getElem hi, e]
          have := hcl i j b c (ih i hi2) (by rw [List.getElem?_eq_getElem hjl, hf]) hi2 hj
          rw [this] at hs
          cases hs
    intro k hk
    have hks : k < s.length := by rw [← h.len]; exact hk
    exact hin _ (hall _ (List.getElem_mem hks)) k (List.getElem?_eq_getElem hks)
  · intro hall c hc
    obtain ⟨i, hi, e⟩ := List.getElem_of_mem hc
    exact h.reach i c (hall i (by rw [h.len]; exact hi)) (by rw [List.getElem?_eq_getElem hi, e])
theorem hangs_nil : hangs [] = false := rfl
end Go.Proofs.YtghpkfihdcjlaaaGreatDoor

namespace Go.Proofs.YtghpkfihdcjlaaaGreatDoor
open Go.RowKit

theorem row_atB {w : World} {e : TypeId} {b off c n : Nat} {F : List Bool} (h : w.ownsRow 0 e 1 (.slice (some ⟨b, off, none⟩) n c) n (bc F)) {k : Nat} {f : Bool} (hk : F[k]? = some f) : w.cell? ⟨b, off + k, none⟩ = some (.bool f) := own_cell h (bc_at hk)
/-- pairs that have been looked at -/
def Looked (s : List Cell) (F : List Bool) (i j : Nat) : Prop := ∀ (p q : Nat) (b c : Cell), (p < i ∨ p = i ∧ q < j) → F[p]? = some true → F[q]? = some false → s[p]? = some b → s[q]? = some c → sideB b c = false
theorem Looked.zero {s : List Cell} {F : List Bool} : Looked s F 0 0 := fun p q _ _ h => by omega
theorem Looked.row {s : List Cell} {F : List Bool} {i : Nat} (h : Looked s F i s.length) : Looked s F (i + 1) 0 := fun p q b c hp h1 h2 h3 h4 => by
  have := (List.getElem?_eq_some_iff.1 h4).1
  exact h p q b c (by omega) h1 h2 h3 h4
theorem Looked.next {s : List Cell} {F : List Bool} {i j : Nat} (h : Looked s F i j) (hn : ∀ b c : Cell, F[i]? = some true → F[j]? = some false → s[i]? = some b → s[j]? = some c → sideB b c = false) : Looked s F i (j + 1) := fun p q b c hp h1 h2 h3 h4 => by
  by_cases e : p = i ∧ q = j
  · obtain ⟨rfl, rfl⟩ := e; exact hn b c h1 h2 h3 h4
  · exact h p q b c (by omega) h1 h2 h3 h4
def Turn (s : List Cell) (F0 F : List Bool) (mo : Bool) (i j : Nat) : Prop := (mo = false → F = F0 ∧ Looked s F0 i j) ∧ (mo = true → cntT F0 < cntT F)

theorem Turn.next {s : List Cell} {F0 F : List Bool} {mo : Bool} {i j : Nat} (h : Turn s F0 F mo i j) (hn : ∀ b c : Cell, F[i]? = some true → F[j]? = some false → s[i]? = some b → s[j]? = some c → sideB b c = false) : Turn s F0 F mo i (j + 1) :=
  ⟨fun hm => by obtain ⟨rfl, h2⟩ := h.1 hm; exact ⟨rfl, h2.next hn⟩, h.2⟩
set_option maxRecDepth 100000 in
set_option maxHeartbeats 6400000 in
theorem hangs_c {v : Value} {s : List Cell} (w : World) (h : CellsRd w 0 w.heap.size v s) (hn : s.length ≤ 64) (hnd : s.Nodup) (hon : ∀ c ∈ s, On c) :
    Calls Tryz.prog 52 #[v] w fun e w' => e = .returned (.bool (hangs s)) ∧ Below w.heap.size w w' := by
  obtain ⟨i0, hi, hz0, hz1, hz2⟩ := info_parts infoBool
  obtain ⟨A, c, rfl, hm, hr⟩ := id h
  obtain ⟨R, hR⟩ : ∃ R, R = hangs s := ⟨_, rfl⟩
  rw [← hR]
  have HR := Lib.hid hR
  have HRS := Lib.hid hr
  have HND := Lib.hid hnd
  have HON := Lib.hid hon
  clear hR h hr hm hnd hon
  by_cases hs0 : s = []
  · subst hs0
    obtain rfl : R = false := HR.out
    go_enter Tryz.func52, Tryz.ntmps52
    go_wp2
    go_ret
    exact ⟨rfl, Below.refl _ _⟩
  have hl1 : 1 ≤ s.length := List.length_pos_iff.2 hs0
  obtain ⟨b, off, hA, _, hb, hc⟩ := HRS.out.2 (by omega)
  subst hA
  have HCE := Lib.hid hc
  obtain ⟨a, ha⟩ : ∃ a, s[0]? = some a := ⟨s[0], List.getElem?_eq_getElem (by omega)⟩
  have HA := Lib.hid ha
  have hz : ((s.length : Int) == 0) = false := by simp; omega
  have hmk := fun W => run_make_rowN (P := Tryz.prog) 75 4 i0 _ Tryz.underlying75 hi hz0 .i64 .i64 s.length s.length (Nat.le_refl _) (by rw [hz2]; omega) (by omega) W
  rw [hz1] at hmk
  have e0 : (madeCells (#[.bool false] : Array Value) s.length).toList = bc (List.replicate s.length false) := by rw [toList_madeCells_one]; simp [bc]
  have e1 : ((madeCells (#[.bool false] : Array Value) s.length).setIfInBounds 0 (.bool true)).toList = bc ((List.replicate s.length false).set 0 true) := by rw [Array.toList_setIfInBounds, e0, bc_set]
  have H1 := (Sep.start w).rowBox 4 ((madeCells (#[.bool false] : Array Value) s.length).setIfInBounds 0 (.bool true)) 1 s.length (by rw [fill_size, size_madeCells, Nat.mul_one]) (by unfold maxLen; omega)
  rw [e1] at H1
  have q0 : (madeCells (#[.bool false] : Array Value) s.length)[0]? = some (.bool false) := by
    rw [← Array.getElem?_toList, e0]
    exact bc_at (by rw [List.getElem?_replicate, if_pos (by omega)])
  clear hs0 ha hc e0 e1
  go_enter Tryz.func52, Tryz.ntmps52
  go_wp2
  clear q0 hmk hz
  generalize hW : w.alloc (.cells ((madeCells (#[.bool false] : Array Value) s.length).setIfInBounds 0 (.bool true)) 4) = W at *
  obtain ⟨g, hg⟩ : ∃ g, g = w.heap.size := ⟨_, rfl⟩
  rw [← hg] at H1 ⊢
  clear hW hg
  go_loopg [4, 5] (s.length + 1) (fun gk cv mv wr => ∃ (F : List Bool) (k : Nat) (mo : Bool), cv = .int .i64 k ∧ mv = .bool mo ∧ Hid (k = cntT F) ∧ k ≤ s.length ∧ Hid (Fl s a F) ∧ Hid (mo = true → s.length < gk + k) ∧ Hid (mo = false → Looked s F s.length 0) ∧ Sep w wr [Res.row (.slice (some ⟨g, 0, none⟩) s.length s.length) 4 1 s.length (bc F)])
  case atStart => exact ⟨_, 1, true, rfl, rfl, Lib.hid (by
    rw [cntT_set (by rw [List.getElem?_replicate, if_pos (by omega)])]
    have : ∀ n, cntT (List.replicate n false) = 0 := fun n => by
      induction n with
      | zero => rfl
      | succ n ih => rw [List.replicate_succ, cntT, ih]; rfl
    rw [this]), by omega, Lib.hid (Fl.start HA.out), Lib.hid (fun _ => by omega), Lib.hid (fun h => by cases h), H1⟩
  case round =>
    clear H1
    obtain ⟨F0, k0, mo0, rfl, rfl, HK0, hk0, HFL0, HG, HCL, H⟩ := hrel
    cases mo0
    · have hRe : R = decide (k0 = s.length) := by
        rw [HR.out, HFL0.out.done HND.out HA.out (fun p q b c h1 h2 h3 h4 => HCL.out rfl p q b c (.inl (List.getElem?_eq_some_iff.1 h3).1) h1 h2 h3 h4), ← HK0.out]
      have HRE := Lib.hid hRe
      have hbel := H.below
      clear hRe H HCL HG
      by_cases he : k0 = s.length
      · have e1 : ((k0 : Int) == (s.length : Int)) = true := by simp; omega
        obtain rfl : R = true := by rw [HRE.out]; exact decide_eq_true he
        clear he
        go_wp2
        go_ret
        exact ⟨rfl, hbel⟩
      · have e1 : ((k0 : Int) == (s.length : Int)) = false := by simp; omega
        obtain rfl : R = false := by rw [HRE.out]; exact decide_eq_false he
        clear he
        go_wp2
        go_ret
        exact ⟨rfl, hbel⟩
    · obtain ⟨wo, hwo⟩ : ∃ wo : World, wo = wr := ⟨_, rfl⟩
      subst hwo
      go_wp2
      go_loopw [4, 5, 19] (fun cv mv iv wr => ∃ (i : Nat) (F : List Bool) (k : Nat) (mo : Bool), i ≤ s.length ∧ iv = .int .i64 i ∧ cv = .int .i64 k ∧ mv = .bool mo ∧ Hid (k = cntT F) ∧ k ≤ s.length ∧ Hid (Fl s a F) ∧ Hid (Turn s F0 F mo i 0) ∧ Sep w wr [Res.row (.slice (some ⟨g, 0, none⟩) s.length s.length) 4 1 s.length (bc F)]) (fun _ _ iv _ => s.length - (intOf iv).toNat)
      case atStart => exact ⟨0, F0, k0, false, Nat.zero_le _, rfl, rfl, rfl, HK0, hk0, HFL0, Lib.hid ⟨(fun _ => ⟨rfl, Looked.zero⟩), (fun h => by cases h)⟩, H⟩
      case round =>
        clear H
        obtain ⟨i, F, k, mo, hin, rfl, rfl, rfl, HK, hk, HFL, HT, H⟩ := hrel
        by_cases hli : i < s.length
        · obtain ⟨bi, hbi⟩ : ∃ bi, s[i]? = some bi := ⟨s[i], List.getElem?_eq_getElem hli⟩
          have HBI := Lib.hid hbi
          have ON1 := Lib.hid (HON.out bi (List.mem_of_getElem? hbi))
          obtain ⟨wp, hwp⟩ : ∃ wp : World, wp = wr := ⟨_, rfl⟩
          subst hwp
          clear hbi
          go_wp2
          go_loopw [4, 5, 24] (fun cv mv jv wr => ∃ (j : Nat) (F : List Bool) (k : Nat) (mo : Bool), j ≤ s.length ∧ jv = .int .i64 j ∧ cv = .int .i64 k ∧ mv = .bool mo ∧ Hid (k = cntT F) ∧ k ≤ s.length ∧ Hid (Fl s a F) ∧ Hid (Turn s F0 F mo i j) ∧ Sep w wr [Res.row (.slice (some ⟨g, 0, none⟩) s.length s.length) 4 1 s.length (bc F)]) (fun _ _ jv _ => s.length - (intOf jv).toNat)
          case atStart => exact ⟨0, F, k, mo, Nat.zero_le _, rfl, rfl, rfl, HK, hk, HFL, HT, H⟩
          case round =>
            clear H HK hk HFL HT
            obtain ⟨j, F, k, mo, hjn, rfl, rfl, rfl, HK, hk, HFL, HT, H⟩ := hrel
            by_cases hlj : j < s.length
            · obtain ⟨cj, hcj⟩ : ∃ cj, s[j]? = some cj := ⟨s[j], List.getElem?_eq_getElem hlj⟩
              have HCJ := Lib.hid hcj
              have ON2 := Lib.hid (HON.out cj (List.mem_of_getElem? hcj))
              obtain ⟨fi, hfi⟩ : ∃ f, F[i]? = some f := ⟨F[i]'(by rw [HFL.out.len]; exact hli), List.getElem?_eq_getElem _⟩
              obtain ⟨fj, hfj⟩ : ∃ f, F[j]? = some f := ⟨F[j]'(by rw [HFL.out.len]; exact hlj), List.getElem?_eq_getElem _⟩
              have HFI := Lib.hid hfi
              have HFJ := Lib.hid hfj
              have hgw : g < wr.heap.size := by obtain ⟨_, _, hB, _⟩ := own_blk H.h0; exact hB.lt
              have hbw := H.below
              have hbr : b < wr.heap.size := by have := hbw.size; omega
              have x1 := row_atB H.h0 hfi
              have x2 := row_atB H.h0 hfj
              rw [Nat.zero_add] at x1 x2
              have l1 := Later.cell x1 hgw
              have l2 := Later.cell x2 hgw
              have l3 := Later.cell ((hbw.cell (p := ⟨b, off + i * 2, none⟩) hb).trans (HCE.out _ _ (cc_at HBI.out).1)) hbr
              have l4 := Later.cell ((hbw.cell (p := ⟨b, off + i * 2 + 1, none⟩) hb).trans (by rw [Nat.add_assoc]; exact HCE.out _ _ (cc_at HBI.out).2)) hbr
              have l5 := Later.cell ((hbw.cell (p := ⟨b, off + j * 2, none⟩) hb).trans (HCE.out _ _ (cc_at hcj).1)) hbr
              have l6 := Later.cell ((hbw.cell (p := ⟨b, off + j * 2 + 1, none⟩) hb).trans (by rw [Nat.add_assoc]; exact HCE.out _ _ (cc_at hcj).2)) hbr
              clear hcj hfi hfj x1 x2 hbw
              cases fi
              ·
                have ht2 : Turn s F0 F mo i (j + 1) := HT.out.next (fun _ _ h1 _ _ _ => by rw [HFI.out] at h1; cases h1)
                have HT2 := Lib.hid ht2
                clear ht2
                go_wp2_with fail
                refine wp_region_later (by kernel_rfl) (by kernel_rfl) ?_
                repeat (go_big_quiet_step (fail))
                refine wpQuiet_nil ?_
                intro w3 hw3
                obtain ⟨u3, hu3⟩ := hw3
                subst hu3
                have H3 := H.later u3
                clear l1 l2 l3 l4 l5 l6 H
                generalize u3.w = w3 at *
                go_wp2
                go_roundw
                case rel => exact ⟨j + 1, F, k, mo, by omega, by go_num, rfl, rfl, HK, hk, HFL, HT2, H3⟩
                case measure => simp [intOf]; omega
              cases fj
              rotate_left
              ·
                have ht2 : Turn s F0 F mo i (j + 1) := HT.out.next (fun _ _ _ h2 _ _ => by rw [HFJ.out] at h2; cases h2)
                have HT2 := Lib.hid ht2
                clear ht2
                go_wp2_with fail
                refine wp_region_later (by kernel_rfl) (by kernel_rfl) ?_
                repeat (go_big_quiet_step (fail))
                refine wpQuiet_nil ?_
                intro w3 hw3
                obtain ⟨u3, hu3⟩ := hw3
                subst hu3
                have H3 := H.later u3
                clear l1 l2 l3 l4 l5 l6 H
                generalize u3.w = w3 at *
                go_wp2
                go_roundw
                case rel => exact ⟨j + 1, F, k, mo, by omega, by go_num, rfl, rfl, HK, hk, HFL, HT2, H3⟩
                case measure => simp [intOf]; omega
              cases hnb : sideB bi cj
              ·
                have HNQ : Hid (∀ w : World, Calls Tryz.prog 72 #[.agg #[.int .i64 bi.x, .int .i64 bi.y], .agg #[.int .i64 cj.x, .int .i64 cj.y]] w fun e w' => e = .returned (.bool false) ∧ Below w.heap.size w w') := Lib.hid fun w => by
                  have := beside_c bi cj w ON1.out ON2.out
                  rw [hnb] at this
                  exact this
                have HNB := Lib.hid hnb
                clear hnb
                have ht2 : Turn s F0 F mo i (j + 1) := HT.out.next (fun b' c' _ _ h3 h4 => by rw [HBI.out] at h3; rw [HCJ.out] at h4; injection h3 with h3; injection h4 with h4; subst h3; subst h4; exact HNB.out)
                have HT2 := Lib.hid ht2
                clear ht2
                go_wp2_with fail
                refine wp_region_later (by kernel_rfl) (by kernel_rfl) ?_
                repeat (go_big_quiet_step ((go_at_call 72; exact Later.call (HNQ.out _))))
                refine wpQuiet_nil ?_
                intro w3 hw3
                obtain ⟨u3, hu3⟩ := hw3
                subst hu3
                have H3 := H.later u3
                clear l1 l2 l3 l4 l5 l6 H
                generalize u3.w = w3 at *
                go_wp2
                go_roundw
                case rel => exact ⟨j + 1, F, k, mo, by omega, by go_num, rfl, rfl, HK, hk, HFL, HT2, H3⟩
                case measure => simp [intOf]; omega
              ·
                have HNQ : Hid (∀ w : World, Calls Tryz.prog 72 #[.agg #[.int .i64 bi.x, .int .i64 bi.y], .agg #[.int .i64 cj.x, .int .i64 cj.y]] w fun e w' => e = .returned (.bool true) ∧ Below w.heap.size w w') := Lib.hid fun w => by
                  have := beside_c bi cj w ON1.out ON2.out
                  rw [hnb] at this
                  exact this
                have hfl2 := HFL.out.set HFI.out HBI.out HCJ.out hnb
                have HFL2 := Lib.hid hfl2
                have hk2 : k + 1 = cntT (F.set j true) := by rw [cntT_set HFJ.out, HK.out]
                have HK2 := Lib.hid hk2
                have hks : k + 1 ≤ s.length := by rw [hk2, ← hfl2.len]; exact cntT_le _
                have ht2 : Turn s F0 (F.set j true) true i (j + 1) := ⟨(fun h => by cases h), fun _ => by
                  rw [← hk2, HK.out]
                  cases hmo : mo
                  · rw [(HT.out.1 hmo).1]; omega
                  · have := HT.out.2 hmo; omega⟩
                have HT2 := Lib.hid ht2
                clear hfl2 hk2 ht2 hnb
                go_wp2_with fail
                refine wp_region_later (by kernel_rfl) (by kernel_rfl) ?_
                repeat (go_big_quiet_step ((go_at_call 72; exact Later.call (HNQ.out _))))
                refine wpQuiet_nil ?_
                intro w3 hw3
                obtain ⟨u3, hu3⟩ := hw3
                subst hu3
                have H3 := H.later u3
                clear l1 l2 l3 l4 l5 l6 H
                generalize u3.w = w3 at *
                have x2 := row_atB H3.h0 HFJ.out
                have g2 := own_free H3.h0 j
                have H4 := H3.setRow (j := j) (by rw [bc_length, HFL.out.len]; exact hlj) (.bool true)
                rw [bc_set] at H4
                rw [Nat.zero_add] at x2 g2 H4
                clear HNQ H3
                go_wp2
                clear x2 g2
                go_roundw
                case rel => exact ⟨j + 1, _, k + 1, true, by omega, by go_num, by go_num, rfl, HK2, hks, HFL2, HT2, H4⟩
                case measure => simp [intOf]; omega
            · obtain rfl : j = s.length := by omega
              have HT2 : Hid (Turn s F0 F mo (i + 1) 0) := Lib.hid ⟨fun h => ⟨(HT.out.1 h).1, (HT.out.1 h).2.row⟩, HT.out.2⟩
              go_wp2
              go_roundw
              case rel => exact ⟨i + 1, F, k, mo, by omega, by go_num, rfl, rfl, HK, hk, HFL, HT2, H⟩
              case measure => simp [intOf]; omega
        · obtain rfl : i = s.length := by omega
          have hgk : s.length < gk + k0 := HG.out (by first | rfl | trivial)
          have hg1 : Hid (mo = true → s.length < (gk - 1) + k) := Lib.hid fun h => by
            have := HT.out.2 h
            rw [← HK0.out, ← HK.out] at this
            omega
          have hcl2 : Hid (mo = false → Looked s F s.length 0) := Lib.hid fun h => by
            obtain ⟨h1, h2⟩ := HT.out.1 h
            rw [h1]; exact h2
          clear HG HCL
          go_wp2
          go_roundg (gk - 1)
          case rel => exact ⟨F, k, mo, rfl, rfl, HK, hk, HFL, hg1, hcl2, H⟩
          case measure => omega

set_option maxRecDepth 100000 in
set_option maxHeartbeats 800000 in
theorem impl_conn_c {v : Value} {s : List Cell} (w : World) (h : CellsRd w 0 w.heap.size v s) (hn : s.length ≤ 1048576) :
    Calls Tryz.prog 25 #[v] w fun e w' => e = .returned (.bool (connS s)) ∧ Below w.heap.size w w' := by
  have HS0 := Lib.hid (impl_isShape_c w h hn)
  have HH : Hid (isShape s = true → ∀ w1, Below w.heap.size w w1 → Calls Tryz.prog 52 #[v] w1 fun e w' => e = .returned (.bool (hangs s)) ∧ Below w1.heap.size w1 w') := Lib.hid fun hs w1 hb =>
    hangs_c w1 ((h.keep (SameIn.of_below hb (Nat.le_refl _))).more (Nat.le_refl _) hb.size) (by have := shp_len hs; omega) (shp_nodup hs) (fun c hc => shp_on hs hc)
  obtain ⟨A, c, rfl, _, _⟩ := id h
  obtain ⟨R, hR⟩ : ∃ R, R = connS s := ⟨_, rfl⟩
  rw [← hR]
  have HR := Lib.hid hR
  clear hR h
  go_enter Tryz.func25, Tryz.ntmps25
  go_wp2_with fail
  refine (HS0.out).mono ?_
  rintro e w1 ⟨rfl, b1⟩
  clear HS0
  cases hsh : isShape s
  · obtain rfl : R = false := by rw [HR.out, connS, hsh, Bool.false_and]
    clear hsh
    go_wp2
    go_ret
    exact ⟨rfl, b1⟩
  · obtain rfl : R = hangs s := by rw [HR.out, connS, hsh, Bool.true_and]
    have HC := Lib.hid (HH.out hsh w1 b1)
    clear hsh HH
    go_wp2_with fail
    refine (HC.out).mono ?_
    rintro e w2 ⟨rfl, b2⟩
    have hb2 := b1.trans (b2.mono b1.size)
    go_wp2
    go_ret
    exact ⟨rfl, hb2⟩
end Go.Proofs.YtghpkfihdcjlaaaGreatDoor
