
/-
  A way of cells by sides from left to right, or a way of blanks by sides and corners from top to bottom: just one of both. No program in sight.
-/
import Derived.Test.YtjmeplchabehfaaKinds
namespace Go.Proofs.Ytjmeplchabehfaa

/-- does the step from a to b cross the line behind row y, left of the middle of column x? -/
def crossL (a b : Cell) (x y : Int) : Bool := decide (((a.y = y ∧ b.y = y + 1) ∨ (a.y = y + 1 ∧ b.y = y)) ∧ a.x + b.x < 2 * x + 1)
def kingB (a b : Cell) : Prop := -1 ≤ a.x - b.x ∧ a.x - b.x ≤ 1 ∧ -1 ≤ a.y - b.y ∧ a.y - b.y ≤ 1
def kings : List Cell → Prop
  | a :: b :: l => kingB a b ∧ kings (b :: l)
  | _ => True
def crossN : List Cell → Int → Int → Bool
  | a :: b :: l, x, y => (crossL a b x y) ^^ (crossN (b :: l) x y)
  | _, _, _ => false
def lastOf : List Cell → Cell
  | [] => ⟨0, 0⟩
  | [a] => a
  | _ :: b :: l => lastOf (b :: l)

theorem crossN_side {x y : Int} : ∀ {Q : List Cell}, kings Q → (∀ q ∈ Q, ¬ (q.x = x ∧ q.y = y) ∧ ¬ (q.x = x + 1 ∧ q.y = y)) → crossN Q x y = crossN Q (x + 1) y
  | [], _, _ => rfl
  | [_], _, _ => rfl
  | a :: b :: l, hk, hq => by
    have ih := crossN_side (Q := b :: l) hk.2 fun q hq' => hq q (List.mem_cons_of_mem _ hq')
    have h1 := hq a (by simp)
    have h2 := hq b (by simp)
    have hk1 := hk.1
    unfold kingB at hk1
    have e : crossL a b x y = crossL a b (x + 1) y := by
      unfold crossL
      rw [Bool.eq_iff_iff]
      simp only [decide_eq_true_eq]
      omega
    simp only [crossN, ih, e]
theorem dec_xor {p1 p2 p3 p4 : Prop} [Decidable p1] [Decidable p2] [Decidable p3] [Decidable p4] (h : (p1 ↔ p2) ↔ (p3 ↔ p4)) : (decide p1 ^^ decide p2) = (decide p3 ^^ decide p4) := by
  by_cases h1 : p1 <;> by_cases h2 : p2 <;> by_cases h3 : p3 <;> by_cases h4 : p4 <;> simp_all
theorem dec_xor1 {p1 p3 p4 : Prop} [Decidable p1] [Decidable p3] [Decidable p4] (h : p1 ↔ ¬ (p3 ↔ p4)) : decide p1 = (decide p3 ^^ decide p4) := by
  by_cases h1 : p1 <;> by_cases h3 : p3 <;> by_cases h4 : p4 <;> simp_all
theorem xor_mid (a b c : Bool) : ((a ^^ b) ^^ (b ^^ c)) = (a ^^ c) := by cases a <;> cases b <;> cases c <;> rfl
theorem xor_four (a b c d e f g : Bool) (h1 : (a ^^ b) = (e ^^ f)) (h2 : (c ^^ d) = (f ^^ g)) : ((a ^^ c) ^^ (b ^^ d)) = (e ^^ g) := by
  cases a <;> cases b <;> cases c <;> cases d <;> cases e <;> cases f <;> cases g <;> simp_all
theorem crossN_down {x y : Int} : ∀ {Q : List Cell}, kings Q → (∀ q ∈ Q, ¬ (q.x = x ∧ q.y = y) ∧ ¬ (q.x = x ∧ q.y = y + 1)) → Q ≠ [] →
    (crossN Q x y ^^ crossN Q x (y + 1)) = (decide ((Q.headD ⟨0, 0⟩).y = y + 1 ∧ (Q.headD ⟨0, 0⟩).x < x) ^^ decide ((lastOf Q).y = y + 1 ∧ (lastOf Q).x < x))
  | [], _, _, h => absurd rfl h
  | [_], _, _, _ => (Bool.xor_self _).symm
  | a :: b :: l, hk, hq, _ => by
    have ih := crossN_down (Q := b :: l) hk.2 (fun q hq' => hq q (List.mem_cons_of_mem _ hq')) (by simp)
    have h1 := hq a (by simp)
    have h2 := hq b (by simp)
    have hk1 := hk.1
    unfold kingB at hk1
    have e : (crossL a b x y ^^ crossL a b x (y + 1)) = (decide (a.y = y + 1 ∧ a.x < x) ^^ decide (b.y = y + 1 ∧ b.x < x)) := by
      exact dec_xor (by omega)
    exact xor_four _ _ _ _ _ _ _ e ih
theorem crossN_left {y : Int} : ∀ {Q : List Cell}, kings Q → (∀ q ∈ Q, 0 ≤ q.x ∧ ¬ (q.x = 0 ∧ q.y = y)) → crossN Q 0 y = false
  | [], _, _ => rfl
  | [_], _, _ => rfl
  | a :: b :: l, hk, hq => by
    have ih := crossN_left (Q := b :: l) hk.2 fun q hq' => hq q (List.mem_cons_of_mem _ hq')
    have h1 := hq a (by simp)
    have h2 := hq b (by simp)
    have e : crossL a b 0 y = false := by unfold crossL; rw [decide_eq_false_iff_not]; omega
    simp only [crossN, ih, e]; rfl
theorem crossN_right {x y : Int} : ∀ {Q : List Cell}, kings Q → (∀ q ∈ Q, q.x ≤ x ∧ ¬ (q.x = x ∧ q.y = y)) → Q ≠ [] → crossN Q x y = (decide ((Q.headD ⟨0, 0⟩).y ≤ y) ^^ decide ((lastOf Q).y ≤ y))
  | [], _, _, h => absurd rfl h
  | [_], _, _, _ => (Bool.xor_self _).symm
  | a :: b :: l, hk, hq, _ => by
    have ih := crossN_right (Q := b :: l) hk.2 (fun q hq' => hq q (List.mem_cons_of_mem _ hq')) (by simp)
    have h1 := hq a (by simp)
    have h2 := hq b (by simp)
    have hk1 := hk.1
    unfold kingB at hk1
    have e : crossL a b x y = (decide (a.y ≤ y) ^^ decide (b.y ≤ y)) := by
      exact dec_xor1 (by omega)
    simp only [crossN, ih, e, lastOf, List.headD_cons]
    exact xor_mid _ _ _

/-- a way by sides over places that the other way leaves out: the crossings stay odd or even -/
def sideB (a b : Cell) : Prop := (a.y = b.y ∧ (a.x = b.x + 1 ∨ b.x = a.x + 1)) ∨ (a.x = b.x ∧ (a.y = b.y + 1 ∨ b.y = a.y + 1))
theorem cross_step {Q : List Cell} {h : Int} (hk : kings Q) (hne : Q ≠ []) (h0 : (Q.headD ⟨0, 0⟩).y = 0) (hl : (lastOf Q).y = h) {a b : Cell} (ha : ∀ q ∈ Q, q ≠ a) (hb : ∀ q ∈ Q, q ≠ b) (ha1 : 0 ≤ a.y ∧ a.y < h) (hb1 : 0 ≤ b.y ∧ b.y < h) (hs : sideB a b) :
    crossN Q a.x a.y = crossN Q b.x b.y := by
  have na : ∀ q ∈ Q, ¬ (q.x = a.x ∧ q.y = a.y) := fun q hq e => ha q hq (by cases q; cases a; simp_all)
  have nb : ∀ q ∈ Q, ¬ (q.x = b.x ∧ q.y = b.y) := fun q hq e => hb q hq (by cases q; cases b; simp_all)
  have down : ∀ {x y : Int}, (∀ q ∈ Q, ¬ (q.x = x ∧ q.y = y) ∧ ¬ (q.x = x ∧ q.y = y + 1)) → 0 ≤ y → y + 1 < h → crossN Q x y = crossN Q x (y + 1) := by
    intro x y hq h1 h2
    have hd := crossN_down hk hq hne
    rw [decide_eq_false (by omega : ¬ ((Q.headD ⟨0, 0⟩).y = y + 1 ∧ (Q.headD ⟨0, 0⟩).x < x)), decide_eq_false (by omega : ¬ ((lastOf Q).y = y + 1 ∧ (lastOf Q).x < x))] at hd
    revert hd
    cases crossN Q x y <;> cases crossN Q x (y + 1) <;> simp
  rcases hs with ⟨e, e' | e'⟩ | ⟨e, e' | e'⟩
  · rw [e, e']
    exact (crossN_side hk fun q hq => ⟨by have := nb q hq; simpa using this, by have := na q hq; rw [e, e'] at this; exact this⟩).symm
  · rw [← e, e']
    exact crossN_side hk fun q hq => ⟨na q hq, by have := nb q hq; rw [← e, e'] at this; exact this⟩
  · rw [e, e']
    exact (down (fun q hq => ⟨nb q hq, by have := na q hq; rw [e, e'] at this; exact this⟩) hb1.1 (by omega)).symm
  · rw [← e, e']
    exact down (fun q hq => ⟨na q hq, by have := nb q hq; rw [← e, e'] at this; exact this⟩) ha1.1 (by omega)
def sidesP : List Cell → Prop
  | a :: b :: l => sideB a b ∧ sidesP (b :: l)
  | _ => True
theorem cross_way {Q : List Cell} {h : Int} (hk : kings Q) (hne : Q ≠ []) (h0 : (Q.headD ⟨0, 0⟩).y = 0) (hl : (lastOf Q).y = h) :
    ∀ {P : List Cell}, sidesP P → (∀ p ∈ P, (∀ q ∈ Q, q ≠ p) ∧ 0 ≤ p.y ∧ p.y < h) → P ≠ [] → crossN Q (P.headD ⟨0, 0⟩).x (P.headD ⟨0, 0⟩).y = crossN Q (lastOf P).x (lastOf P).y
  | [], _, _, h => absurd rfl h
  | [_], _, _, _ => rfl
  | a :: b :: l, hs, hp, _ => by
    have ih := cross_way hk hne h0 hl (P := b :: l) hs.2 (fun p hp' => hp p (List.mem_cons_of_mem _ hp')) (by simp)
    have h1 := hp a (by simp)
    have h2 := hp b (by simp)
    have := cross_step hk hne h0 hl h1.1 h2.1 h1.2 h2.2 hs.1
    simp only [List.headD_cons, lastOf] at ih ⊢
    rw [this, ih]
theorem lastOf_snoc : ∀ (l : List Cell) (a : Cell), lastOf (l ++ [a]) = a
  | [], _ => rfl
  | [_], _ => rfl
  | _ :: b :: l, a => by
    have := lastOf_snoc (b :: l) a
    simpa [lastOf] using this
theorem kings_snoc : ∀ {l : List Cell} {a : Cell}, kings l → l ≠ [] → kingB (lastOf l) a → kings (l ++ [a])
  | [], _, _, h, _ => absurd rfl h
  | [_], _, _, _, hk => ⟨hk, trivial⟩
  | _ :: b :: l, _, h, _, hk => ⟨h.1, kings_snoc (l := b :: l) h.2 (by simp) hk⟩
/-- not both ways -/
theorem hex_one {w h : Int} {P Q : List Cell} (hP : P ≠ []) (hsP : sidesP P) (hQ : Q ≠ []) (hkQ : kings Q) (hp : ∀ p ∈ P, 0 ≤ p.y ∧ p.y < h) (hq : ∀ q ∈ Q, 0 ≤ q.x ∧ q.x < w ∧ q.y < h) (hd : ∀ p ∈ P, ∀ q ∈ Q, q ≠ p)
    (p0 : (P.headD ⟨0, 0⟩).x = 0) (p1 : (lastOf P).x = w - 1) (q0 : (Q.headD ⟨0, 0⟩).y = 0) (q1 : (lastOf Q).y = h - 1) : False := by
  have lastmem : ∀ {l : List Cell}, l ≠ [] → lastOf l ∈ l := by
    intro l
    induction l with
    | nil => intro h; exact absurd rfl h
    | cons a l ih =>
      intro _
      cases l with
      | nil => simp [lastOf]
      | cons b l => exact List.mem_cons_of_mem _ (ih (by simp))
  have headmem : ∀ {l : List Cell}, l ≠ [] → l.headD ⟨0, 0⟩ ∈ l := by
    intro l hl
    cases l with
    | nil => exact absurd rfl hl
    | cons a l => simp
  have hk2 : kings (Q ++ [⟨(lastOf Q).x, h⟩]) := kings_snoc hkQ hQ ⟨by simp, by simp, by simp only; omega, by simp only; omega⟩
  have hne : Q ++ [(⟨(lastOf Q).x, h⟩ : Cell)] ≠ [] := by simp
  have h0 : ((Q ++ [(⟨(lastOf Q).x, h⟩ : Cell)]).headD ⟨0, 0⟩).y = 0 := by
    cases Q with
    | nil => exact absurd rfl hQ
    | cons a l => simpa using q0
  have hl : (lastOf (Q ++ [(⟨(lastOf Q).x, h⟩ : Cell)])).y = h := by rw [lastOf_snoc]
  have hmem : ∀ q ∈ Q ++ [(⟨(lastOf Q).x, h⟩ : Cell)], 0 ≤ q.x ∧ q.x < w ∧ (q ∈ Q ∨ q.y = h) := by
    intro q hq'
    rcases List.mem_append.1 hq' with hm | hm
    · exact ⟨(hq q hm).1, (hq q hm).2.1, .inl hm⟩
    · simp at hm
      subst hm
      have := hq _ (lastmem hQ)
      exact ⟨this.1, this.2.1, .inr rfl⟩
  have hway := cross_way hk2 hne h0 hl (P := P) hsP (fun p hp' => ⟨fun q hq' e => by
    rcases (hmem q hq').2.2 with hm | hm
    · exact hd p hp' q hm e
    · have := hp p hp'; rw [e] at hm; omega, hp p hp'⟩) hP
  have hl1 := crossN_left (y := (P.headD ⟨0, 0⟩).y) hk2 (fun q hq' => ⟨(hmem q hq').1, fun e => by
    rcases (hmem q hq').2.2 with hm | hm
    · exact hd _ (headmem hP) q hm (by have e1 := e.1; have e2 := e.2; generalize P.headD ⟨0, 0⟩ = p at *; cases q; cases p; simp_all)
    · have := hp _ (headmem hP); omega⟩)
  have hr1 := crossN_right (x := w - 1) (y := (lastOf P).y) hk2 (fun q hq' => ⟨by have := (hmem q hq').2.1; omega, fun e => by
    rcases (hmem q hq').2.2 with hm | hm
    · exact hd _ (lastmem hP) q hm (by have e1 := e.1; have e2 := e.2; generalize lastOf P = p at *; cases q; cases p; simp_all)
    · have := hp _ (lastmem hP); omega⟩) hne
  rw [p0, p1, hl1, hr1, h0, hl] at hway
  have hb := hp _ (lastmem hP)
  rw [decide_eq_true hb.1, decide_eq_false (by omega)] at hway
  cases hway

/-- places of a square of four: a (reached from the left), b (reached from the top), c (a cell) -/
theorem four_all : ∀ (pa pb pc qa qb qc ra rb rc sa sb sc : Bool),
    ((pa && pb) || (qa && qb) || (ra && rb) || (sa && sb) || (pb && pc) || (qb && qc) || (rb && rc) || (sb && sc) ||
     (pa && qc && !qa) || (qa && pc && !pa) || (ra && sc && !sa) || (sa && rc && !ra) || (pa && rc && !ra) || (ra && pc && !pa) || (qa && sc && !sa) || (sa && qc && !qa) ||
     ((pb || qb || rb || sb) && !(((pc || pa) || pb) && ((qc || qa) || qb) && ((rc || ra) || rb) && ((sc || sa) || sb)))) = false →
    ((((pa && qb) || (pb && qa)) ^^ ((ra && sb) || (rb && sa))) ^^ (((pa && rb) || (pb && ra)) ^^ ((qa && sb) || (qb && sa)))) = false := by
  decide +kernel
theorem imp2 {a b : Bool} (h : a = true → ¬ b = true) : (a && b) = false := by cases a <;> cases b <;> simp_all
theorem imp3 {a b c : Bool} (h : a = true → b = true → c = true) : (a && b && !c) = false := by cases a <;> cases b <;> cases c <;> simp_all
theorem imp4 {a b c d e : Bool} (h : a = true → b = true ∧ c = true ∧ d = true ∧ e = true) : (a && !(b && c && d && e)) = false := by cases a <;> simp_all
theorem four_even (pa pb pc qa qb qc ra rb rc sa sb sc : Bool) (h1 : pa → ¬ pb) (h2 : qa → ¬ qb) (h3 : ra → ¬ rb) (h4 : sa → ¬ sb) (h5 : pb → ¬ pc) (h6 : qb → ¬ qc) (h7 : rb → ¬ rc) (h8 : sb → ¬ sc)
    (k1 : pa → qc → qa) (k2 : qa → pc → pa) (k3 : ra → sc → sa) (k4 : sa → rc → ra) (k5 : pa → rc → ra) (k6 : ra → pc → pa) (k7 : qa → sc → sa) (k8 : sa → qc → qa)
    (k9 : (pb || qb || rb || sb) → ((pc || pa) || pb) ∧ ((qc || qa) || qb) ∧ ((rc || ra) || rb) ∧ ((sc || sa) || sb)) :
    ((((pa && qb) || (pb && qa)) ^^ ((ra && sb) || (rb && sa))) ^^ (((pa && rb) || (pb && ra)) ^^ ((qa && sb) || (qb && sa)))) = false := by
  refine four_all pa pb pc qa qb qc ra rb rc sa sb sc ?_
  rw [imp2 h1, imp2 h2, imp2 h3, imp2 h4, imp2 h5, imp2 h6, imp2 h7, imp2 h8, imp3 k1, imp3 k2, imp3 k3, imp3 k4, imp3 k5, imp3 k6, imp3 k7, imp3 k8, imp4 k9]
  rfl

section
variable (A B C : Nat → Nat → Bool)
def hexV (y : Nat) : Nat → Bool
  | 0 => false
  | n + 1 => hexV y n ^^ ((A n y && B (n + 1) y) || (B n y && A (n + 1) y))
def hexU (y n : Nat) : Bool := (A n y && B n (y + 1)) || (B n y && A n (y + 1))
end
/-- column 0 stands for the left edge -/
structure HexTwo (w h : Nat) (A B C : Nat → Nat → Bool) : Prop where
  edge : ∀ y, A 0 y = true ∧ B 0 y = false ∧ C 0 y = true
  ab : ∀ i y, i ≤ w → y < h → A i y = true → ¬ B i y = true
  bc : ∀ i y, i ≤ w → y < h → B i y = true → ¬ C i y = true
  right : ∀ i y, i + 1 ≤ w → y < h → (A i y = true → C (i + 1) y = true → A (i + 1) y = true) ∧ (A (i + 1) y = true → C i y = true → A i y = true)
  down : ∀ i y, i ≤ w → y + 1 < h → (A i y = true → C i (y + 1) = true → A i (y + 1) = true) ∧ (A i (y + 1) = true → C i y = true → A i y = true)
  square : ∀ i y, i + 1 ≤ w → y + 1 < h → (B i y || B (i + 1) y || B i (y + 1) || B (i + 1) (y + 1)) = true →
    ((C i y || A i y) || B i y) = true ∧ ((C (i + 1) y || A (i + 1) y) || B (i + 1) y) = true ∧ ((C i (y + 1) || A i (y + 1)) || B i (y + 1)) = true ∧ ((C (i + 1) (y + 1) || A (i + 1) (y + 1)) || B (i + 1) (y + 1)) = true
  top : ∀ i, i ≤ w → C i 0 = false → B i 0 = true
  last : ∀ y, y < h → A w y = false
  bottom : ∀ i, i ≤ w → B i (h - 1) = false
theorem xor_move (v v' d d' u0 u1 u2 : Bool) (h : (v ^^ v') = (u0 ^^ u1)) (hd : ((d ^^ d') ^^ (u1 ^^ u2)) = false) : ((v ^^ d) ^^ (v' ^^ d')) = (u0 ^^ u2) := by
  cases v <;> cases v' <;> cases d <;> cases d' <;> cases u0 <;> cases u1 <;> cases u2 <;> simp_all
theorem hex_two {w h : Nat} {A B C : Nat → Nat → Bool} (hh : 0 < h) (H : HexTwo w h A B C) : False := by
  have step : ∀ y, y + 1 < h → ∀ n, n ≤ w → (hexV A B y n ^^ hexV A B (y + 1) n) = (hexU A B y 0 ^^ hexU A B y n) := by
    intro y hy n
    induction n with
    | zero => intro _; simp [hexV]
    | succ n ih =>
      intro hn
      refine xor_move _ _ _ _ _ _ _ (ih (by omega)) ?_
      exact four_even (A n y) (B n y) (C n y) (A (n + 1) y) (B (n + 1) y) (C (n + 1) y) (A n (y + 1)) (B n (y + 1)) (C n (y + 1)) (A (n + 1) (y + 1)) (B (n + 1) (y + 1)) (C (n + 1) (y + 1))
        (H.ab _ _ (by omega) (by omega)) (H.ab _ _ (by omega) (by omega)) (H.ab _ _ (by omega) (by omega)) (H.ab _ _ (by omega) (by omega))
        (H.bc _ _ (by omega) (by omega)) (H.bc _ _ (by omega) (by omega)) (H.bc _ _ (by omega) (by omega)) (H.bc _ _ (by omega) (by omega))
        (H.right _ _ (by omega) (by omega)).1 (H.right _ _ (by omega) (by omega)).2 (H.right _ _ (by omega) (by omega)).1 (H.right _ _ (by omega) (by omega)).2
        (H.down _ _ (by omega) (by omega)).1 (H.down _ _ (by omega) (by omega)).2 (H.down _ _ (by omega) (by omega)).1 (H.down _ _ (by omega) (by omega)).2
        (H.square _ _ (by omega) (by omega))
  have row : ∀ y, y + 1 < h → hexV A B y w = hexV A B (y + 1) w := by
    intro y hy
    have := step y hy w (Nat.le_refl _)
    have e0 : hexU A B y 0 = false := by simp [hexU, H.edge]
    have e1 : hexU A B y w = false := by simp [hexU, H.last y (by omega), H.last (y + 1) hy]
    rw [e0, e1] at this
    revert this
    cases hexV A B y w <;> cases hexV A B (y + 1) w <;> simp
  have top : ∀ n, n ≤ w → hexV A B 0 n = (true ^^ A n 0) := by
    intro n
    induction n with
    | zero => intro _; simp [hexV, H.edge]
    | succ n ih =>
      intro hn
      rw [hexV, ih (by omega)]
      have h1 := H.ab n 0 (by omega) hh
      have h2 := H.ab (n + 1) 0 hn hh
      have h3 := H.right n 0 hn hh
      have h4 := H.top n (by omega)
      have h5 := H.top (n + 1) hn
      revert h1 h2 h3 h4 h5
      cases A n 0 <;> cases B n 0 <;> cases C n 0 <;> cases A (n + 1) 0 <;> cases B (n + 1) 0 <;> cases C (n + 1) 0 <;> simp
  have all : ∀ y, y < h → hexV A B y w = true := by
    intro y
    induction y with
    | zero => intro _; rw [top w (Nat.le_refl _), H.last 0 hh]; rfl
    | succ y ih => intro hy; rw [← row y hy]; exact ih (by omega)
  have bot : ∀ n, n ≤ w → hexV A B (h - 1) n = false := by
    intro n
    induction n with
    | zero => intro _; rfl
    | succ n ih => intro hn; rw [hexV, ih (by omega), H.bottom n (by omega), H.bottom (n + 1) hn]; simp
  have := all (h - 1) (by omega)
  rw [bot w (Nat.le_refl _)] at this
  cases this
end Go.Proofs.Ytjmeplchabehfaa
