
/-
  The walks of what compares tiles, lists of shapes and regions; the kinds of these.
-/
import Derived.Test.YtjmeplchabehfaaEqW
import Derived.Test.YtjmeplchabehfaaRegData
namespace Go.Proofs.Ytjmeplchabehfaa
open Go.RowKit

section
variable {α : Type} {f g h i : α → Value} {l : List α} {k : Nat}
variable {w : World} {lo hi n : Nat} {A : Option Addr}
theorem Rd.at4 (hd : Rd w lo hi 4 A n (fl4 f g h i l)) (hk : k < n) : ∃ b off a, A = some ⟨b, off, none⟩ ∧ lo ≤ b ∧ b < hi ∧ l[k]? = some a ∧ w.cell? ⟨b, off + k * 4, none⟩ = some (f a) ∧ w.cell? ⟨b, off + k * 4 + 1, none⟩ = some (g a) ∧
    w.cell? ⟨b, off + k * 4 + 2, none⟩ = some (h a) ∧ w.cell? ⟨b, off + k * 4 + 3, none⟩ = some (i a) := by
  obtain ⟨b, off, e, h1, h2, hc⟩ := hd.2 (by omega)
  have hl : k < l.length := by have := hd.1; rw [fl4_length] at this; omega
  have q := fl4_at (f := f) (g := g) (h := h) (i := i) (List.getElem?_eq_getElem hl)
  exact ⟨b, off, l[k], e, h1, h2, List.getElem?_eq_getElem hl, hc _ _ q.1, by rw [Nat.add_assoc]; exact hc _ _ q.2.1, by rw [Nat.add_assoc]; exact hc _ _ q.2.2.1, by rw [Nat.add_assoc]; exact hc _ _ q.2.2.2⟩
end

def wv (c : Wg) : Value := .agg #[.int .i64 c.top, .int .i64 c.right, .int .i64 c.bottom, .int .i64 c.left]
set_option maxRecDepth 100000 in
theorem wangUnder : Try.prog.underlying 78 = some (.struct (Try.prog.fieldsOf 78)) := by kernel_rfl
set_option maxRecDepth 100000 in
theorem wangStood : Try.prog.stoodInHeld 78 = false := by kernel_rfl
set_option maxRecDepth 100000 in
theorem wangFields : (Try.prog.fieldsOf 78).toList.map (fun f => (f.name == "_", f.type, f.offset)) = [(false, 3, 0), (false, 3, 1), (false, 3, 2), (false, 3, 3)] := by kernel_rfl
set_option maxRecDepth 100000 in
theorem run_equalIn_wang (w : World) (d : Nat) (a b : Wg) : (Op.equalIn (d + 2) 78 (wv a) (wv b)).run Try.prog w = .ok (a.top == b.top && a.right == b.right && a.bottom == b.bottom && a.left == b.left) w := by
  unfold wv
  rw [run_equalIn_struct w (d + 1) _ _ _ wangUnder wangStood]
  have h := wangFields
  match hf : (Try.prog.fieldsOf 78).toList with
  | [f0, f1, f2, f3] =>
    rw [hf] at h
    simp at h
    obtain ⟨⟨n0, t0, o0⟩, ⟨n1, t1, o1⟩, ⟨n2, t2, o2⟩, n3, t3, o3⟩ := h
    have hu : Try.prog.underlying 3 = some (.int .i64) := Try.underlying3
    have hs : (sizeOf 3).run Try.prog w = .ok 1 w := by kernel_rfl
    simp only [Op.eqFields, t0, o0, t1, o1, t2, o2, t3, o3]
    simp [go_sem, n0, n1, n2, n3]
    by_cases h1 : a.top = b.top <;> by_cases h2 : a.right = b.right <;> by_cases h3 : a.bottom = b.bottom <;> by_cases h4 : a.left = b.left <;> simp [h1, h2, h3, h4]
  | [] => rw [hf] at h; simp at h
  | [_] => rw [hf] at h; simp at h
  | [_, _] => rw [hf] at h; simp at h
  | [_, _, _] => rw [hf] at h; simp at h
  | _ :: _ :: _ :: _ :: _ :: _ => rw [hf] at h; simp at h
theorem Wg.ext {a b : Wg} (h1 : a.top = b.top) (h2 : a.right = b.right) (h3 : a.bottom = b.bottom) (h4 : a.left = b.left) : a = b := by
  cases a; cases b; simp at h1 h2 h3 h4; subst h1; subst h2; subst h3; subst h4; rfl
set_option maxRecDepth 100000 in
theorem run_equal_wang (w : World) (a b : Wg) : (Op.equal 78 (wv a) (wv b)).run Try.prog w = .ok (same a b) w := by
  unfold Op.equal Op.maxDepth
  rw [run_equalIn_wang w 9998 a b]
  congr 1
  by_cases h : a = b
  · rw [same_t h]; subst h; simp
  · rw [same_f h]
    by_cases h1 : a.top = b.top <;> by_cases h2 : a.right = b.right <;> by_cases h3 : a.bottom = b.bottom <;> by_cases h4 : a.left = b.left
    all_goals first
      | exact absurd (Wg.ext h1 h2 h3 h4) h
      | simp [h1, h2, h3, h4]

set_option maxRecDepth 100000 in
set_option maxHeartbeats 1600000 in
theorem spec_eqWangs_c {v v' : Value} {a b : List Wg} (w : World) (h : WangsRd w 0 w.heap.size v a) (h' : WangsRd w 0 w.heap.size v' b) :
    Calls Try.prog 51 #[v, v'] w fun e w' => e = .returned (.bool (same a b)) ∧ Below w.heap.size w w' := by
  obtain ⟨A, c, rfl, hm, hr⟩ := h
  obtain ⟨A', c', rfl, hm', hr'⟩ := h'
  obtain ⟨R, hR⟩ : ∃ R, R = same a b := ⟨_, rfl⟩
  rw [← hR]
  unfold maxLen at hm hm'
  by_cases hl : a.length = b.length
  rotate_left
  · have hRe : R = false := by rw [hR]; exact same_far hl
    subst hRe
    have e1 : ((a.length : Int) == (b.length : Int)) = false := by simp; omega
    clear hR hr hr'
    go_enter Try.func51, Try.ntmps51
    go_wp2
    go_ret
    exact ⟨rfl, Below.refl _ _⟩
  have HR := Lib.hid hR
  have HL := Lib.hid hl
  rw [← hl] at hr' ⊢
  clear hl hR
  go_enter Try.func51, Try.ntmps51
  go_wp2
  go_loopw [5] (fun i wr => ∃ k : Nat, k ≤ a.length ∧ i = .int .i64 k ∧ Hid (∀ (j : Nat) (x y : _), j < k → a[j]? = some x → b[j]? = some y → x = y) ∧ Below w.heap.size w wr) (fun i _ => a.length - (intOf i).toNat)
  case atStart => exact ⟨0, Nat.zero_le _, rfl, Lib.hid (fun j _ _ h => absurd h (by omega)), Below.refl _ _⟩
  case round =>
    obtain ⟨k, hk, rfl, HK, hbel⟩ := hrel
    by_cases hlt : k < a.length
    · obtain ⟨bb, off, x, rfl, _, hb, hla, q1, q2, q3, q4⟩ := (hr.below hbel (Nat.le_refl _)).at4 hlt
      obtain ⟨bb', off', y, rfl, _, hb', hla', q1', q2', q3', q4'⟩ := (hr'.below hbel (Nat.le_refl _)).at4 hlt
      by_cases hxy : x = y
      · subst hxy
        have heq : ∀ n, (Op.equal 78 (.agg #[.int .i64 x.top, .int .i64 x.right, .int .i64 x.bottom, .int .i64 x.left]) (.agg #[.int .i64 x.top, .int .i64 x.right, .int .i64 x.bottom, .int .i64 x.left])).run Try.prog (wr.drewN n) = .ok true (wr.drewN n) := fun n => by have := run_equal_wang (wr.drewN n) x x; rw [same_t rfl] at this; exact this
        have hk2 := alike_succ HK.out hla hla'
        have HK2 := Lib.hid hk2
        clear hr hr' hla hla' hk2
        go_wp2_with fail
        go_quiet (fail)
        clear heq q1 q2 q1' q2' q3 q4 q3' q4'
        have hbel2 := below_drewN hbel nq
        generalize wr.drewN nq = w2 at *
        go_wp2
        go_roundw
        case rel => exact ⟨k + 1, by omega, by go_num, HK2, hbel2⟩
        case measure => simp [intOf]; omega
      · have hRe : R = false := by rw [HR.out]; exact same_at hla hla' hxy
        subst hRe
        have hne : ∀ n, (Op.equal 78 (.agg #[.int .i64 x.top, .int .i64 x.right, .int .i64 x.bottom, .int .i64 x.left]) (.agg #[.int .i64 y.top, .int .i64 y.right, .int .i64 y.bottom, .int .i64 y.left])).run Try.prog (wr.drewN n) = .ok false (wr.drewN n) := fun n => by have := run_equal_wang (wr.drewN n) x y; rw [same_f hxy] at this; exact this
        have HXY := Lib.hid hxy
        clear hr hr' hla hla' hxy
        go_wp2_with fail
        refine wp_region_quiet_lit (by kernel_rfl) (by kernel_rfl) ?_
        repeat (go_big_quiet_step (fail))
        go_big_quiet_want
        go_big_quiet_op
        refine ⟨.bool true, fun aa => ?_, ?_⟩
        · by_cases h1 : x.top = y.top
          · by_cases h2 : x.right = y.right
            · by_cases h3 : x.bottom = y.bottom
              · have h4 : ¬ x.left = y.left := fun h4 => HXY.out (Wg.ext h1 h2 h3 h4)
                simp [h1, h2, h3, h4]
              · simp [h1, h2, h3]
            · simp [h1, h2]
          · simp [h1]
        go_big_quiet_on
        refine wpQuiet_nil ?_
        intro _ hwq'
        obtain ⟨nq, hwq''⟩ := hwq'
        subst hwq''
        clear hne q1 q2 q1' q2' q3 q4 q3' q4'
        have hbel2 := below_drewN hbel nq
        generalize wr.drewN nq = w2 at *
        go_wp2
        go_ret
        exact ⟨rfl, hbel2⟩
    · obtain rfl : k = a.length := by omega
      have hRe : R = true := by rw [HR.out]; exact same_all HL.out HK.out
      subst hRe
      go_wp2
      go_ret
      exact ⟨rfl, hbel⟩

/-- a list of shapes: its cells are slices -/
def SlotsRd (w : World) (lo hi : Nat) (vs : List Value) (l : List (List Cell)) : Prop := vs.length = l.length ∧ ∀ (i : Nat) (u : List Cell), l[i]? = some u → ∃ x, vs[i]? = some x ∧ CellsRd w lo hi x u
def CellSSRd (w : World) (lo hi : Nat) (v : Value) (l : List (List Cell)) : Prop := ∃ vs : List Value, SR w lo hi 1 v l.length vs ∧ SlotsRd w lo hi vs l
section
variable {w w' : World} {lo hi lo' hi' : Nat} {v : Value} {vs : List Value} {l : List (List Cell)}
theorem SlotsRd.keep (h : SlotsRd w lo hi vs l) (hs : SameIn lo hi w w') : SlotsRd w' lo hi vs l := ⟨h.1, fun i u hu => by obtain ⟨x, h1, h2⟩ := h.2 i u hu; exact ⟨x, h1, h2.keep hs⟩⟩
theorem SlotsRd.more (h : SlotsRd w lo hi vs l) (h1 : lo' ≤ lo) (h2 : hi ≤ hi') : SlotsRd w lo' hi' vs l := ⟨h.1, fun i u hu => by obtain ⟨x, h3, h4⟩ := h.2 i u hu; exact ⟨x, h3, h4.more h1 h2⟩⟩
theorem CellSSRd.keep (h : CellSSRd w lo hi v l) (hs : SameIn lo hi w w') : CellSSRd w' lo hi v l := by
  obtain ⟨vs, h1, h2⟩ := h
  exact ⟨vs, h1.keep hs, h2.keep hs⟩
theorem CellSSRd.more (h : CellSSRd w lo hi v l) (h1 : lo' ≤ lo) (h2 : hi ≤ hi') : CellSSRd w lo' hi' v l := by
  obtain ⟨vs, h3, h4⟩ := h
  exact ⟨vs, h3.more h1 h2, h4.more h1 h2⟩
/-- an element of a list of shapes -/
theorem Rd.slot {A : Option Addr} {n k : Nat} (hr : Rd w lo hi 1 A n vs) (hs : SlotsRd w lo hi vs l) (hn : n = l.length) (hk : k < n) : ∃ b off u x, A = some ⟨b, off, none⟩ ∧ lo ≤ b ∧ b < hi ∧ l[k]? = some u ∧ w.cell? ⟨b, off + k, none⟩ = some x ∧ CellsRd w lo hi x u := by
  obtain ⟨b, off, e, h1, h2, hc⟩ := hr.2 (by omega)
  have hl : k < l.length := by omega
  obtain ⟨x, hx, hx2⟩ := hs.2 k l[k] (List.getElem?_eq_getElem hl)
  exact ⟨b, off, l[k], x, e, h1, h2, List.getElem?_eq_getElem hl, hc k x hx, hx2⟩
end

set_option maxRecDepth 100000 in
set_option maxHeartbeats 1600000 in
theorem spec_eqPieces_c {v v' : Value} {a b : List (List Cell)} (w : World) (h : CellSSRd w 0 w.heap.size v a) (h' : CellSSRd w 0 w.heap.size v' b) :
    Calls Try.prog 49 #[v, v'] w fun e w' => e = .returned (.bool (same a b)) ∧ Below w.heap.size w w' := by
  obtain ⟨vs, h, hvs⟩ := h
  obtain ⟨vs', h', hvs'⟩ := h'
  obtain ⟨A, c, rfl, hm, hr⟩ := h
  obtain ⟨A', c', rfl, hm', hr'⟩ := h'
  obtain ⟨R, hR⟩ : ∃ R, R = same a b := ⟨_, rfl⟩
  rw [← hR]
  unfold maxLen at hm hm'
  by_cases hl : a.length = b.length
  rotate_left
  · have hRe : R = false := by rw [hR]; exact same_far hl
    subst hRe
    have e1 : ((a.length : Int) == (b.length : Int)) = false := by simp; omega
    clear hR hr hr'
    go_enter Try.func49, Try.ntmps49
    go_wp2
    go_ret
    exact ⟨rfl, Below.refl _ _⟩
  have HR := Lib.hid hR
  have HL := Lib.hid hl
  rw [← hl] at hr' ⊢
  clear hl hR
  go_enter Try.func49, Try.ntmps49
  go_wp2
  go_loopw [5] (fun i wr => ∃ k : Nat, k ≤ a.length ∧ i = .int .i64 k ∧ Hid (∀ (j : Nat) (x y : _), j < k → a[j]? = some x → b[j]? = some y → x = y) ∧ Below w.heap.size w wr) (fun i _ => a.length - (intOf i).toNat)
  case atStart => exact ⟨0, Nat.zero_le _, rfl, Lib.hid (fun j _ _ h => absurd h (by omega)), Below.refl _ _⟩
  case round =>
    obtain ⟨k, hk, rfl, HK, hbel⟩ := hrel
    by_cases hlt : k < a.length
    · obtain ⟨bb, off, x, vx, rfl, _, hb, hla, q1, hx⟩ := (hr.below hbel (Nat.le_refl _)).slot (hvs.keep (SameIn.of_below hbel (Nat.le_refl _))) rfl hlt
      obtain ⟨bb', off', y, vy, rfl, _, hb', hla', q1', hy⟩ := (hr'.below hbel (Nat.le_refl _)).slot (hvs'.keep (SameIn.of_below hbel (Nat.le_refl _))) HL.out hlt
      have HLA := Lib.hid hla
      have HLA' := Lib.hid hla'
      replace hx := hx.more (Nat.le_refl _) hbel.size
      replace hy := hy.more (Nat.le_refl _) hbel.size
      clear hr hr' hla hla' hvs hvs'
      go_wp2_with fail
      go_still_tail 8, (by kernel_rfl)
      change wpList _ _ _ _ _ wr.drew
      have hbel2 := below_drew hbel
      clear q1 q1'
      go_wp2_with fail
      refine (spec_eqShapes_c (a := x) (b := y) wr.drew hx hy).mono ?_
      rintro e w2 ⟨rfl, b2⟩
      have hbel3 := hbel2.trans (b2.mono hbel2.size)
      clear hbel2 b2 hx hy
      by_cases hxy : x = y
      · subst hxy
        rw [same_t rfl]
        have hk2 := alike_succ HK.out HLA.out HLA'.out
        have HK2 := Lib.hid hk2
        clear hk2
        go_wp2
        go_roundw
        case rel => exact ⟨k + 1, by omega, by go_num, HK2, hbel3⟩
        case measure => simp [intOf]; omega
      · have hRe : R = false := by rw [HR.out]; exact same_at HLA.out HLA'.out hxy
        subst hRe
        rw [same_f hxy]
        clear hxy
        go_wp2
        go_ret
        exact ⟨rfl, hbel3⟩
    · obtain rfl : k = a.length := by omega
      have hRe : R = true := by rw [HR.out]; exact same_all HL.out HK.out
      subst hRe
      go_wp2
      go_ret
      exact ⟨rfl, hbel⟩

theorem same_reg {a b : Reg} : same a b = (decide (a.w = b.w) && same a.rows b.rows) := by
  by_cases h : a = b
  · rw [same_t h]; subst h; rw [same_t rfl]; simp
  · rw [same_f h]
    by_cases h1 : a.w = b.w
    · have : ¬ a.rows = b.rows := fun h2 => h (by cases a; cases b; simp at h1 h2; subst h1; subst h2; rfl)
      rw [same_f this, Bool.and_false]
    · simp [h1]
set_option maxRecDepth 100000 in
set_option maxHeartbeats 1600000 in
theorem impl_eqReg_c {v v' : Value} {a b : Reg} (w : World) (h : RegRd w 0 w.heap.size v a) (h' : RegRd w 0 w.heap.size v' b) :
    Calls Try.prog 55 #[v, v'] w fun e w' => e = .returned (.bool (same a b)) ∧ Below w.heap.size w w' := by
  obtain ⟨s, rfl, hs⟩ := h
  obtain ⟨s', rfl, hs'⟩ := h'
  have H := ((Sep.start w).box 31 #[.int .i64 a.w, s]).box 31 #[.int .i64 b.w, s']
  simp only [World.size_alloc] at H
  obtain ⟨R, hR⟩ : ∃ R, R = same a.rows b.rows := ⟨_, rfl⟩
  have HR := Lib.hid hR
  rw [same_reg, ← hR]
  clear hR
  have c0 : ((w.alloc (.cells #[.int .i64 a.w, s] 31)).alloc (.cells #[.int .i64 b.w, s'] 31)).cell? ⟨w.heap.size, 0, none⟩ = some (.int .i64 a.w) := H.h1.cell 0
  have c1 : ((w.alloc (.cells #[.int .i64 a.w, s] 31)).alloc (.cells #[.int .i64 b.w, s'] 31)).cell? ⟨w.heap.size, 1, none⟩ = some s := H.h1.cell 1
  have d0 : ((w.alloc (.cells #[.int .i64 a.w, s] 31)).alloc (.cells #[.int .i64 b.w, s'] 31)).cell? ⟨w.heap.size + 1, 0, none⟩ = some (.int .i64 b.w) := H.h0.cell 0
  have d1 : ((w.alloc (.cells #[.int .i64 a.w, s] 31)).alloc (.cells #[.int .i64 b.w, s'] 31)).cell? ⟨w.heap.size + 1, 1, none⟩ = some s' := H.h0.cell 1
  by_cases hw : a.w = b.w
  · rw [decide_eq_true hw, Bool.true_and]
    have e1 : (a.w == b.w) = true := by simpa using hw
    clear hw
    go_enter Try.func55, Try.ntmps55
    go_wp2_with fail
    clear c0 c1 d0 d1
    generalize (w.alloc (.cells #[.int .i64 a.w, s] 31)).alloc (.cells #[.int .i64 b.w, s'] 31) = W at *
    refine (impl_sameInts_c (a := a.rows) (b := b.rows) W ((hs.keep (SameIn.of_below H.below (Nat.le_refl _))).more (Nat.le_refl _) H.size) ((hs'.keep (SameIn.of_below H.below (Nat.le_refl _))).more (Nat.le_refl _) H.size)).mono ?_
    rintro e w2 ⟨rfl, b2⟩
    rw [← HR.out]
    have H2 := H.step b2
    go_wp2
    go_ret
    exact ⟨rfl, H2.below⟩
  · rw [decide_eq_false hw, Bool.false_and]
    have e1 : (a.w == b.w) = false := by simpa using hw
    clear hw
    go_enter Try.func55, Try.ntmps55
    go_wp2
    go_ret
    exact ⟨rfl, H.below⟩
end Go.Proofs.Ytjmeplchabehfaa
