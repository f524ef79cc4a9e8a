
/-
  The walks of what compares tiles, lists of shapes and regions; the kinds of these.
-/
import Derived.Test.YtlfeognjnlppkaaDoorEqW
import Derived.Test.YtlfeognjnlppkaaDoorRegData
namespace Go.Proofs.YtlfeognjnlppkaaDoor
open Go.RowKit

section
variable {α : Type} {f g h i : α → Value} {l : List α} {k : Nat}
variable {w : World} {lo hi n : Nat} {A : Option Addr}
theorem Rd.at4 (hd : Rd w lo hi 4 A n (fl4 f g h i l)) (hk : k < n) : ∃ b off a, A = some ⟨b, off, none⟩ ∧ lo ≤ b ∧ b < hi ∧ l[k]? = some a ∧ w.cell? ⟨b, off + k * 4, none⟩ = some (f a) ∧ w.cell? ⟨b, off + k * 4 + 1, none⟩ = some (g a) ∧
    w.cell? ⟨b, off + k * 4 + 2, none⟩ = some (h a) ∧ w.cell? ⟨b, off + k * 4 + 3, none⟩ = some (i a) := by
  obtain ⟨b, off, e, h1, h2, hc⟩ := hd.2 (by omega)
  have hl : k < l.length := by have := hd.1; rw [fl4_length] at this; omega
  have q := fl4_at (f := f) (g := g) (h := h) (i := i) (List.getElem?_eq_getElem hl)
  exact ⟨b, off, l[k], e, h1, h2, List.getElem?_eq_getElem hl, hc _ _ q.1, by rw [Nat.add_assoc]; exact hc _ _ q.2.1, by rw [Nat.add_assoc]; exact hc _ _ q.2.2.1, by rw [Nat.add_assoc]; exact hc _ _ q.2.2.2⟩
end

def wv (c : Wg) : Value := .agg #[.int .i64 c.top, .int .i64 c.right, .int .i64 c.bottom, .int .i64 c.left]
set_option maxRecDepth 100000 in
theorem wangUnder : Tryd.prog.underlying 43 = some (.struct (Tryd.prog.fieldsOf 43)) := by kernel_rfl
set_option maxRecDepth 100000 in
theorem wangStood : Tryd.prog.stoodInHeld 43 = false := by kernel_rfl
set_option maxRecDepth 100000 in
theorem wangFields : (Tryd.prog.fieldsOf 43).toList.map (fun f => (f.name == "_", f.type, f.offset)) = [(false, 3, 0), (false, 3, 1), (false, 3, 2), (false, 3, 3)] := by kernel_rfl
set_option maxRecDepth 100000 in
theorem run_equalIn_wang (w : World) (d : Nat) (a b : Wg) : (Op.equalIn (d + 2) 43 (wv a) (wv b)).run Tryd.prog w = .ok (a.top == b.top && a.right == b.right && a.bottom == b.bottom && a.left == b.left) w := by
  unfold wv
  rw [run_equalIn_struct w (d + 1) _ _ _ wangUnder wangStood]
  have h := wangFields
  match hf : (Tryd.prog.fieldsOf 43).toList with
  | [f0, f1, f2, f3] =>
    rw [hf] at h
    simp at h
    obtain ⟨⟨n0, t0, o0⟩, ⟨n1, t1, o1⟩, ⟨n2, t2, o2⟩, n3, t3, o3⟩ := h
    have hu : Tryd.prog.underlying 3 = some (.int .i64) := Tryd.underlying3
    have hs : (sizeOf 3).run Tryd.prog w = .ok 1 w := by kernel_rfl
    simp only [Op.eqFields, t0, o0, t1, o1, t2, o2, t3, o3]
    simp [go_sem, n0, n1, n2, n3]
    by_cases h1 : a.top = b.top <;> by_cases h2 : a.right = b.right <;> by_cases h3 : a.bottom = b.bottom <;> by_cases h4 : a.left = b.left <;> simp [h1, h2, h3, h4]
  | [] => rw [hf] at h; simp at h
  | [_] => rw [hf] at h; simp at h
  | [_, _] => rw [hf] at h; simp at h
  | [_, _, _] => rw [hf] at h; simp at h
  | _ :: _ :: _ :: _ :: _ :: _ => rw [hf] at h; simp at h
theorem Wg.ext {a b : Wg} (h1 : a.top = b.top) (h2 : a.right = b.right) (h3 : a.bottom = b.bottom) (h4 : a.left = b.left) : a = b := by
  cases a; cases b; simp at h1 h2 h3 h4; subst h1; subst h2; subst h3; subst h4; rfl
set_option maxRecDepth 100000 in
theorem run_equal_wang (w : World) (a b : Wg) : (Op.equal 43 (wv a) (wv b)).run Tryd.prog w = .ok (same a b) w := by
  unfold Op.equal Op.maxDepth
  rw [run_equalIn_wang w 9998 a b]
  congr 1
  by_cases h : a = b
  · rw [same_t h]; subst h; simp
  · rw [same_f h]
    by_cases h1 : a.top = b.top <;> by_cases h2 : a.right = b.right <;> by_cases h3 : a.bottom = b.bottom <;> by_cases h4 : a.left = b.left
    all_goals first
      | exact absurd (Wg.ext h1 h2 h3 h4) h
      | simp [h1, h2, h3, h4]

theorem same_reg {a b : Reg} : same a b = (decide (a.w = b.w) && same a.rows b.rows) := by
  by_cases h : a = b
  · rw [same_t h]; subst h; rw [same_t rfl]; simp
  · rw [same_f h]
    by_cases h1 : a.w = b.w
    · have : ¬ a.rows = b.rows := fun h2 => h (by cases a; cases b; simp at h1 h2; subst h1; subst h2; rfl)
      rw [same_f this, Bool.and_false]
    · simp [h1]
end Go.Proofs.YtlfeognjnlppkaaDoor
