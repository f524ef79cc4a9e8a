
/-
  Shapes: the walk of the program's 'hangs' and 'IsConnectedShape'. Shapes: the walk of the program's 'hangs' and 'IsConnectedShape'.
-/
import Derived.Test.YtjkppigjajknaaaGreatDoorShpX
import Derived.Deep.LoopGhost
namespace Go.Proofs.YtjkppigjajknaaaGreatDoor
open Go.RowKit

def bc (F : List Bool) : List Value := F.map .bool
theorem bc_at {F : List Bool} {k : Nat} {f : Bool} (h : F[k]? = some f) : (bc F)[k]? = some (.bool f) := by simp [bc, h]
theorem bc_length {F : List Bool} : (bc F).length = F.length := by simp [bc]
theorem bc_set {F : List Bool} {k : Nat} {f : Bool} : (bc F).set k (.bool f) = bc (F.set k f) := by simp [bc, List.map_set]
set_option maxRecDepth 100000 in
theorem infoBool : (Tryz.prog.info? 4).map (fun i => (i.zero, i.size, i.bytes)) = some (some (.bool false), 1, 1) := by kernel_rfl
def cntT : List Bool → Nat
  | [] => 0
  | f :: F => (if f then 1 else 0) + cntT F
theorem cntT_le : ∀ F : List Bool, cntT F ≤ F.length
  | [] => Nat.le_refl _
  | f :: F => by
    have := cntT_le F
    unfold cntT
    split <;> simp <;> omega
theorem cntT_set : ∀ {F : List Bool} {k : Nat}, F[k]? = some false → cntT (F.set k true) = cntT F + 1
  | [], k, h => by simp at h
  | f :: F, 0, h => by
    simp at h
    subst h
    simp [cntT]
    omega
  | f :: F, k + 1, h => by
    have := cntT_set (F := F) (k := k) (by simpa using h)
    simp only [List.set_cons_succ, cntT, this]
    omega
theorem cntT_all : ∀ {F : List Bool}, cntT F = F.length ↔ ∀ (k : Nat), k < F.length → F[k]? = some true
  | [] => by simp [cntT]
  | f :: F => by
    have h1 := cntT_le F
    have ih := cntT_all (F := F)
    cases f
    · simp only [cntT, Bool.false_eq_true, if_false, List.length_cons]
      constructor
      · intro h; omega
      · intro h
        have := h 0 (by simp)
        simp at this
    · simp only [cntT, if_true, List.length_cons]
      constructor
      · intro h k hk
        cases k with
        | zero => simp
        | succ k => simpa using ih.1 (by omega) k (by omega)
      · intro h
        have := ih.2 (fun k hk => by simpa using h (k + 1) (by omega))
        omega
/-- marks of what was reached -/
structure Fl (s : List Cell) (a : Cell) (F : List Bool) : Prop where
  len : F.length = s.length
  first : F[0]? = some true
  reach : ∀ (i : Nat) (c : Cell), F[i]? = some true → s[i]? = some c → Hang s a c
theorem Fl.set {s : List Cell} {a b c : Cell} {F : List Bool} {i j : Nat} (h : Fl s a F) (hi : F[i]? = some true) (hb : s[i]? = some b) (hc : s[j]? = some c) (hs : sideB b c = true) : Fl s a (F.set j true) := by
  have hj : j < F.length := by rw [h.len]; exact (List.getElem?_eq_some_iff.1 hc).1
  refine ⟨by simpa using h.len, ?_, fun k d hk hd => ?_⟩
  · by_cases e : j = 0
    · subst e; simp [hj]
    · rw [List.getElem?_set_ne e]; exact h.first
  · by_cases e : j = k
    · subst e
      rw [hc] at hd
      injection hd with hd
      subst hd
      exact .step (h.reach i b hi hb) (List.mem_of_getElem? hc) hs
    · rw [List.getElem?_set_ne e] at hk
      exact h.reach k d hk hd
theorem Fl.start {s : List Cell} {a : Cell} (ha : s[0]? = some a) : Fl s a ((List.replicate s.length false).set 0 true) := by
  have hs : 0 < s.length := (List.getElem?_eq_some_iff.1 ha).1
  refine ⟨by simp, by simp [hs], fun i c hi hc => ?_⟩
  by_cases e : i = 0
  · subst e
    rw [ha] at hc
    injection hc with hc
    subst hc
    exact .base
  · rw [List.getElem?_set_ne (Ne.symm e)] at hi
    simp only [List.getElem?_replicate] at hi
    split at hi <;> simp at hi
theorem Fl.done {s : List Cell} {a : Cell} {F : List Bool} (h : Fl s a F) (hn : s.Nodup) (ha : s[0]? = some a)
    (hcl : ∀ (i j : Nat) (b c : Cell), F[i]? = some true → F[j]? = some false → s[i]? = some b → s[j]? = some c → sideB b c = false) : hangs s = decide (cntT F = s.length) := by
  refine hangs_eq ha ?_
  rw [decide_eq_true_eq, ← h.len, cntT_all]
  constructor
  · intro hall
    have hin : ∀ c, Hang s a c → ∀ j : Nat, s[j]? = some c → F[j]? = some true := by
      intro c hc
      induction hc with
      | base =>
        intro j hj
        have := (List.getElem?_inj (i := 0) (j := j) (List.getElem?_eq_some_iff.1 ha).1 hn).1 (by rw [ha, hj])
        subst this
        exact h.first
      | @step b c hb hcs hs ih =>
        intro j hj
        have hjl : j < F.length := by rw [h.len]; exact (List.getElem?_eq_some_iff.1 hj).1
        cases hf : F[j] with
        | true => rw [List.getElem?_eq_getElem hjl, hf]
        | false =>
          have hbm : b ∈ s := by
            cases hb with
            | base => exact List.mem_of_getElem? ha
            | step _ hm _ => exact hm
          obtain ⟨i, hi, e⟩ := List.getElem_of_mem hbm
          have hi2 : s[i]? = some b := by rw [List.getElem?_eq_getElem hi, e]
          have := hcl i j b c (ih i hi2) (by rw [List.getElem?_eq_getElem hjl, hf]) hi2 hj
          rw [this] at hs
          cases hs
    intro k hk
    have hks : k < s.length := by rw [← h.len]; exact hk
    exact hin _ (hall _ (List.getElem_mem hks)) k (List.getElem?_eq_getElem hks)
  · intro hall c hc
    obtain ⟨i, hi, e⟩ := List.getElem_of_mem hc
    exact h.reach i c (hall i (by rw [h.len]; exact hi)) (by rw [List.getElem?_eq_getElem hi, e])
theorem hangs_nil : hangs [] = false := rfl
end Go.Proofs.YtjkppigjajknaaaGreatDoor

namespace Go.Proofs.YtjkppigjajknaaaGreatDoor
open Go.RowKit

theorem row_atB {w : World} {e : TypeId} {b off c n : Nat} {F : List Bool} (h : w.ownsRow 0 e 1 (.slice (some ⟨b, off, none⟩) n c) n (bc F)) {k : Nat} {f : Bool} (hk : F[k]? = some f) : w.cell? ⟨b, off + k, none⟩ = some (.bool f) := own_cell h (bc_at hk)
/-- pairs that have been looked at -/
def Looked (s : List Cell) (F : List Bool) (i j : Nat) : Prop := ∀ (p q : Nat) (b c : Cell), (p < i ∨ p = i ∧ q < j) → F[p]? = some true → F[q]? = some false → s[p]? = some b → s[q]? = some c → sideB b c = false
theorem Looked.zero {s : List Cell} {F : List Bool} : Looked s F 0 0 := fun p q _ _ h => by omega
theorem Looked.row {s : List Cell} {F : List Bool} {i : Nat} (h : Looked s F i s.length) : Looked s F (i + 1) 0 := fun p q b c hp h1 h2 h3 h4 => by
  have := (List.getElem?_eq_some_iff.1 h4).1
  exact h p q b c (by omega) h1 h2 h3 h4
theorem Looked.next {s : List Cell} {F : List Bool} {i j : Nat} (h : Looked s F i j) (hn : ∀ b c : Cell, F[i]? = some true → F[j]? = some false → s[i]? = some b → s[j]? = some c → sideB b c = false) : Looked s F i (j + 1) := fun p q b c hp h1 h2 h3 h4 => by
  by_cases e : p = i ∧ q = j
  · obtain ⟨rfl, rfl⟩ := e; exact hn b c h1 h2 h3 h4
  · exact h p q b c (by omega) h1 h2 h3 h4
def Turn (s : List Cell) (F0 F : List Bool) (mo : Bool) (i j : Nat) : Prop := (mo = false → F = F0 ∧ Looked s F0 i j) ∧ (mo = true → cntT F0 < cntT F)

theorem Turn.next {s : List Cell} {F0 F : List Bool} {mo : Bool} {i j : Nat} (h : Turn s F0 F mo i j) (hn : ∀ b c : Cell, F[i]? = some true → F[j]? = some false → s[i]? = some b → s[j]? = some c → sideB b c = false) : Turn s F0 F mo i (j + 1) :=
  ⟨fun hm => by obtain ⟨rfl, h2⟩ := h.1 hm; exact ⟨rfl, h2.next hn⟩, h.2⟩
end Go.Proofs.YtjkppigjajknaaaGreatDoor
