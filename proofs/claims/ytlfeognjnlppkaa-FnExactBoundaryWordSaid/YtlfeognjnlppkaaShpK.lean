
/-
  Holes: what the reference counts, in plain Lean.
-/
import Derived.Test.YtlfeognjnlppkaaShpJ
namespace Go.Proofs.Ytlfeognjnlppkaa

def frB (s : List Cell) (c : Cell) : Bool := inR c.x 0 (wdOf s - 1) && inR c.y 0 (htOf s - 1) && !decide (c ∈ corner s)
theorem frB_iff {s : List Cell} {c : Cell} : frB s c = true ↔ (0 ≤ c.x ∧ c.x ≤ wdOf s - 1) ∧ (0 ≤ c.y ∧ c.y ≤ htOf s - 1) ∧ ¬ c ∈ corner s := by
  unfold frB
  rw [Bool.and_eq_true, Bool.and_eq_true, inR_iff, inR_iff]
  simp [and_assoc]
theorem frO_iff {s : List Cell} {c : Cell} : frO s c = true ↔ (-1 ≤ c.x ∧ c.x ≤ wdOf s) ∧ (-1 ≤ c.y ∧ c.y ≤ htOf s) ∧ ¬ c ∈ corner s := by
  unfold frO
  rw [Bool.and_eq_true, Bool.and_eq_true, inR_iff, inR_iff]
  simp [and_assoc]
theorem frB_O {s : List Cell} {c : Cell} (h : frB s c = true) : frO s c = true := by
  rw [frB_iff] at h
  rw [frO_iff]
  exact ⟨by omega, by omega, h.2.2⟩
theorem not_corner {s : List Cell} {c : Cell} (h : c.x < 0 ∨ c.y < 0 ∨ wdOf s ≤ c.x ∨ htOf s ≤ c.y) : ¬ c ∈ corner s := fun hm => by
  have h1 := corner_ge hm
  have h2 := corner_lt hm
  omega
theorem nb_x {c : Cell} : Adj c ⟨c.x + 1, c.y⟩ := ⟨0, by omega, rfl⟩
theorem nb_y {c : Cell} : Adj c ⟨c.x, c.y + 1⟩ := ⟨1, by omega, rfl⟩
/-- the frame hangs together -/
theorem ring_top {s : List Cell} (h : isShape s = true) : ∀ k : Nat, (k : Int) ≤ wdOf s + 1 → OutC s ⟨-1 + (k : Int), -1⟩
  | 0, _ => Rch.base
  | k + 1, hk => by
    have hs := shp_size h
    have hm := shp_min h
    have := ring_top h k (by omega)
    have e : (⟨-1 + ((k + 1 : Nat) : Int), -1⟩ : Cell) = ⟨(⟨-1 + (k : Int), -1⟩ : Cell).x + 1, (⟨-1 + (k : Int), -1⟩ : Cell).y⟩ := by simp; omega
    rw [e]
    refine .step this nb_x ?_
    rw [frO_iff]
    refine ⟨?_, ?_, not_corner (.inr (.inl ?_))⟩ <;> simp <;> omega
theorem ring_left {s : List Cell} (h : isShape s = true) : ∀ k : Nat, (k : Int) ≤ htOf s + 1 → OutC s ⟨-1, -1 + (k : Int)⟩
  | 0, _ => Rch.base
  | k + 1, hk => by
    have hs := shp_size h
    have hm := shp_min h
    have := ring_left h k (by omega)
    have e : (⟨-1, -1 + ((k + 1 : Nat) : Int)⟩ : Cell) = ⟨(⟨-1, -1 + (k : Int)⟩ : Cell).x, (⟨-1, -1 + (k : Int)⟩ : Cell).y + 1⟩ := by simp; omega
    rw [e]
    refine .step this nb_y ?_
    rw [frO_iff]
    refine ⟨?_, ?_, not_corner (.inl ?_)⟩ <;> simp <;> omega
theorem ring_right {s : List Cell} (h : isShape s = true) : ∀ k : Nat, (k : Int) ≤ htOf s + 1 → OutC s ⟨wdOf s, -1 + (k : Int)⟩
  | 0, _ => by
    have hs := shp_size h
    have hm := shp_min h
    have := ring_top h (wdOf s + 1).toNat (by omega)
    have e : (⟨-1 + (((wdOf s + 1).toNat : Nat) : Int), -1⟩ : Cell) = ⟨wdOf s, -1 + ((0 : Nat) : Int)⟩ := by simp; omega
    rwa [e] at this
  | k + 1, hk => by
    have hs := shp_size h
    have hm := shp_min h
    have := ring_right h k (by omega)
    have e : (⟨wdOf s, -1 + ((k + 1 : Nat) : Int)⟩ : Cell) = ⟨(⟨wdOf s, -1 + (k : Int)⟩ : Cell).x, (⟨wdOf s, -1 + (k : Int)⟩ : Cell).y + 1⟩ := by simp; omega
    rw [e]
    refine .step this nb_y ?_
    rw [frO_iff]
    refine ⟨?_, ?_, not_corner (.inr (.inr (.inl ?_)))⟩ <;> simp <;> omega
theorem ring_bot {s : List Cell} (h : isShape s = true) : ∀ k : Nat, (k : Int) ≤ wdOf s + 1 → OutC s ⟨-1 + (k : Int), htOf s⟩
  | 0, _ => by
    have hs := shp_size h
    have hm := shp_min h
    have := ring_left h (htOf s + 1).toNat (by omega)
    have e : (⟨-1, -1 + (((htOf s + 1).toNat : Nat) : Int)⟩ : Cell) = ⟨-1 + ((0 : Nat) : Int), htOf s⟩ := by simp; omega
    rwa [e] at this
  | k + 1, hk => by
    have hs := shp_size h
    have hm := shp_min h
    have := ring_bot h k (by omega)
    have e : (⟨-1 + ((k + 1 : Nat) : Int), htOf s⟩ : Cell) = ⟨(⟨-1 + (k : Int), htOf s⟩ : Cell).x + 1, (⟨-1 + (k : Int), htOf s⟩ : Cell).y⟩ := by simp; omega
    rw [e]
    refine .step this nb_x ?_
    rw [frO_iff]
    refine ⟨?_, ?_, not_corner (.inr (.inr (.inr ?_)))⟩ <;> simp <;> omega
theorem ring_out {s : List Cell} (h : isShape s = true) {c : Cell} (hf : frO s c = true) (hn : frB s c = false) : OutC s c := by
  rw [frO_iff] at hf
  obtain ⟨h1, h2, h3⟩ := hf
  have h4 : ¬ frB s c = true := by rw [hn]; exact Bool.false_ne_true
  rw [frB_iff] at h4
  have h5 : ¬ ((0 ≤ c.x ∧ c.x ≤ wdOf s - 1) ∧ (0 ≤ c.y ∧ c.y ≤ htOf s - 1)) := fun hh => h4 ⟨hh.1, hh.2, h3⟩
  have hk : c.y = -1 ∨ c.x = -1 ∨ c.x = wdOf s ∨ c.y = htOf s := by omega
  obtain ⟨x, y⟩ := c
  simp only at *
  rcases hk with rfl | rfl | rfl | rfl
  · have := ring_top h (x + 1).toNat (by omega)
    rwa [show -1 + (((x + 1).toNat : Nat) : Int) = x by omega] at this
  · have := ring_left h (y + 1).toNat (by omega)
    rwa [show -1 + (((y + 1).toNat : Nat) : Int) = y by omega] at this
  · have := ring_right h (y + 1).toNat (by omega)
    rwa [show -1 + (((y + 1).toNat : Nat) : Int) = y by omega] at this
  · have := ring_bot h (x + 1).toNat (by omega)
    rwa [show -1 + (((x + 1).toNat : Nat) : Int) = x by omega] at this

/-- the first place of a hole, in the order of places -/
def rootS (s : List Cell) (q : Cell) : Prop := frB s q = true ∧ ¬ OutC s q ∧ ∀ p, befB p q = true → frB s p = true → ¬ Rch (frB s) p q
noncomputable def holesN (s : List Cell) : Nat := cardP (rootS s)
/-- what has been seen when a place comes up; the roots so far -/
structure HInv (s : List Cell) (S L : List Cell) (at_ : Cell) : Prop where
  nodup : S.Nodup
  out : ∀ c, OutC s c → c ∈ S
  sub : ∀ c ∈ S, frO s c = true
  why : ∀ c ∈ S, OutC s c ∨ ∃ r ∈ L, Rch (frB s) r c
  closed : ∀ b c, b ∈ S → Adj b c → frB s c = true → c ∈ S
  scan : ∀ q, befB q at_ = true → frB s q = true → q ∈ S
  lnodup : L.Nodup
  roots : ∀ q, q ∈ L ↔ rootS s q ∧ befB q at_ = true
  lsub : ∀ q ∈ L, q ∈ S
section
variable {s S L T : List Cell} {a b r : Cell}
theorem HInv.move (h : HInv s S L a) (hb : ∀ q, frB s q = true → (befB q b = true ↔ befB q a = true)) : HInv s S L b :=
  ⟨h.nodup, h.out, h.sub, h.why, h.closed, fun q hq hf => h.scan q ((hb q hf).1 hq) hf, h.lnodup, fun q => by
    rw [h.roots]
    constructor
    · rintro ⟨h1, h2⟩; exact ⟨h1, (hb q h1.1).2 h2⟩
    · rintro ⟨h1, h2⟩; exact ⟨h1, (hb q h1.1).1 h2⟩, h.lsub⟩
theorem bef_step {q : Cell} {x y : Int} : befB q ⟨x + 1, y⟩ = true ↔ befB q ⟨x, y⟩ = true ∨ q = ⟨x, y⟩ := by
  obtain ⟨u, v⟩ := q
  simp only [befB, Bool.or_eq_true, Bool.and_eq_true, decide_eq_true_eq, Cell.mk.injEq]
  omega
/-- what has been seen is no new root -/
theorem HInv.old (h : HInv s S L a) {q : Cell} (hq : rootS s q) (hm : q ∈ S) (hb : ∀ r, befB r a = true → befB r q = true) : False := by
  rcases h.why q hm with h1 | ⟨r, hr, h2⟩
  · exact hq.2.1 h1
  · have h3 := (h.roots r).1 hr
    exact hq.2.2 r (hb r h3.2) h3.1.1 h2
theorem HInv.skip {x y : Int} (h : HInv s S L ⟨x, y⟩) (hs : frB s ⟨x, y⟩ = true → (⟨x, y⟩ : Cell) ∈ S) : HInv s S L ⟨x + 1, y⟩ :=
  ⟨h.nodup, h.out, h.sub, h.why, h.closed, fun q hq hf => by
    rcases bef_step.1 hq with h1 | rfl
    · exact h.scan q h1 hf
    · exact hs hf, h.lnodup, fun q => by
    rw [h.roots]
    constructor
    · rintro ⟨h1, h2⟩; exact ⟨h1, bef_step.2 (.inl h2)⟩
    · rintro ⟨h1, h2⟩
      refine ⟨h1, ?_⟩
      rcases bef_step.1 h2 with h3 | rfl
      · exact h3
      · exact absurd (hs h1.1) fun hm => h.old h1 hm (fun _ hr => hr), h.lsub⟩
theorem HInv.root {x y : Int} (h : HInv s S L ⟨x, y⟩) (hf : frB s ⟨x, y⟩ = true) (hn : ¬ (⟨x, y⟩ : Cell) ∈ S) : rootS s ⟨x, y⟩ :=
  ⟨hf, fun ho => hn (h.out _ ho), fun p hp hpf hr => hn (hr.into (B := (· ∈ S)) h.closed (h.scan p hp hpf))⟩
/-- a hole has been flooded -/
theorem HInv.add {x y : Int} (h : HInv s S L ⟨x, y⟩) (hf : frB s ⟨x, y⟩ = true) (hn : ¬ (⟨x, y⟩ : Cell) ∈ S) {i d : Nat} (hT : Fld (frB s) (· ∈ S) ⟨x, y⟩ T i d) (hi : T.length ≤ i) : HInv s (S ++ T) (L ++ [⟨x, y⟩]) ⟨x + 1, y⟩ := by
  have hend := hT.end_ hi h.closed
  have hroot := h.root hf hn
  refine ⟨List.nodup_append.2 ⟨h.nodup, hT.nodup, fun p hp q hq e => (hT.reach q hq).2.1 (e ▸ hp)⟩, fun c hc => List.mem_append.2 (.inl (h.out c hc)), fun c hc => ?_, fun c hc => ?_, fun b c hb hadj hfc => ?_, fun q hq hfq => ?_, ?_, fun q => ?_, fun q hq => ?_⟩
  · rcases List.mem_append.1 hc with hc | hc
    · exact h.sub c hc
    · exact frB_O (hT.reach c hc).2.2
  · rcases List.mem_append.1 hc with hc | hc
    · rcases h.why c hc with h1 | ⟨r, hr, h1⟩
      · exact .inl h1
      · exact .inr ⟨r, List.mem_append.2 (.inl hr), h1⟩
    · exact .inr ⟨⟨x, y⟩, by simp, (hT.reach c hc).1⟩
  · rcases List.mem_append.1 hb with hb | hb
    · exact List.mem_append.2 (.inl (h.closed b c hb hadj hfc))
    · exact List.mem_append.2 (.inr ((hend c).2 (.step ((hend b).1 hb) hadj hfc)))
  · rcases bef_step.1 hq with h1 | rfl
    · exact List.mem_append.2 (.inl (h.scan q h1 hfq))
    · exact List.mem_append.2 (.inr hT.root)
  · refine List.nodup_append.2 ⟨h.lnodup, by simp, fun p hp q hq e => ?_⟩
    simp at hq
    subst hq
    subst e
    exact hn (h.lsub _ hp)
  · rw [List.mem_append, h.roots, List.mem_singleton]
    constructor
    · rintro (⟨h1, h2⟩ | rfl)
      · exact ⟨h1, bef_step.2 (.inl h2)⟩
      · exact ⟨hroot, bef_step.2 (.inr rfl)⟩
    · rintro ⟨h1, h2⟩
      rcases bef_step.1 h2 with h3 | rfl
      · exact .inl ⟨h1, h3⟩
      · exact .inr rfl
  · rcases List.mem_append.1 hq with hq | hq
    · exact List.mem_append.2 (.inl (h.lsub q hq))
    · simp at hq
      subst hq
      exact List.mem_append.2 (.inr hT.root)
theorem HInv.row {x y : Int} (h : HInv s S L ⟨x, y⟩) (hx : wdOf s ≤ x) : HInv s S L ⟨0, y + 1⟩ := h.move fun q hf => by
  rw [frB_iff] at hf
  obtain ⟨u, v⟩ := q
  simp only [befB, Bool.or_eq_true, Bool.and_eq_true, decide_eq_true_eq] at *
  omega
theorem HInv.start {i d : Nat} (hT : Fld (frO s) (fun _ => False) ⟨-1, -1⟩ T i d) (hi : T.length ≤ i) : HInv s T [] ⟨0, 0⟩ := by
  have hend := hT.end_ hi (fun _ _ h => h.elim)
  have hno : ∀ q, befB q ⟨0, 0⟩ = true → frB s q = true → False := fun q hq hf => by
    rw [frB_iff] at hf
    simp only [befB, Bool.or_eq_true, Bool.and_eq_true, decide_eq_true_eq] at hq
    omega
  exact ⟨hT.nodup, fun c hc => (hend c).2 hc, fun c hc => (hT.reach c hc).2.2, fun c hc => .inl ((hend c).1 hc), fun b c hb hadj hf => (hend c).2 (.step ((hend b).1 hb) hadj (frB_O hf)), fun q hq hf => (hno q hq hf).elim, by simp,
    fun q => ⟨fun h => by simp at h, fun h => (hno q h.2 h.1.1).elim⟩, fun q hq => by simp at hq⟩
theorem HInv.last {y : Int} (h : HInv s S L ⟨0, y⟩) (hy : htOf s ≤ y) : holesN s = L.length := by
  refine cardP_eq h.lnodup fun q => ?_
  rw [h.roots]
  constructor
  · exact fun hh => hh.1
  · intro hq
    refine ⟨hq, ?_⟩
    have := frB_iff.1 hq.1
    simp only [befB, Bool.or_eq_true, Bool.and_eq_true, decide_eq_true_eq]
    omega
theorem HInv.len (h : HInv s S L a) (hs : isShape s = true) : S.length ≤ 100 := Nat.le_trans (nodup_len h.nodup fun c hc => frO_grid hs c (h.sub c hc)) (by rw [gridL_len]; exact Nat.le_refl _)
theorem HInv.flen (h : HInv s S L a) (hs : isShape s = true) {i d : Nat} (hT : Fld (frB s) (· ∈ S) r T i d) : S.length + T.length ≤ 100 := by
  have := nodup_len (l := S ++ T) (G := gridL (-1) (-1) 10 10) (List.nodup_append.2 ⟨h.nodup, hT.nodup, fun p hp q hq e => (hT.reach q hq).2.1 (e ▸ hp)⟩) (fun c hc => by
    rcases List.mem_append.1 hc with hc | hc
    · exact frO_grid hs c (h.sub c hc)
    · exact frO_grid hs c (frB_O (hT.reach c hc).2.2))
  rw [gridL_len, List.length_append] at this
  exact this
theorem HInv.llen (h : HInv s S L a) (hs : isShape s = true) : L.length ≤ 100 := Nat.le_trans (nodup_len h.lnodup h.lsub) (h.len hs)
/-- a neighbour that is no cell and was not seen lies in the box -/
theorem HInv.nb (h : HInv s S L a) (hs : isShape s = true) {i d : Nat} (hT : Fld (frB s) (· ∈ S) r T i d) {b c : Cell} (hb : b ∈ T) (hadj : Adj b c) (hc : ¬ c ∈ corner s) (hS : ¬ c ∈ S) : frB s c = true := by
  have hbf := frB_iff.1 (hT.reach b hb).2.2
  have hn := hadj.near
  have hfo : frO s c = true := frO_iff.2 ⟨by omega, by omega, hc⟩
  cases hfb : frB s c with
  | true => rfl
  | false => exact absurd (h.out c (ring_out hs hfo hfb)) hS
end
end Go.Proofs.Ytlfeognjnlppkaa
