
/-
  A shape in its corner, and turned: the program's walks. The orientations of a shape, and congruence: the program's walks.
-/
import Derived.Test.YtghpkfihdcjlaaaGreatDoorSortX
import Derived.Test.YtghpkfihdcjlaaaGreatDoorPutSD
import Derived.Test.YtghpkfihdcjlaaaGreatDoorPutX
namespace Go.Proofs.YtghpkfihdcjlaaaGreatDoor
open Go.RowKit

theorem min_same {f : Cell → Int} {a b : List Cell} (ha : 1 ≤ a.length) (hb : 1 ≤ b.length) (h : ∀ c, c ∈ a ↔ c ∈ b) : mnTo f a a.length = mnTo f b b.length := by
  obtain ⟨c, hc, e1⟩ := mnTo_mem (f := f) (l := a) a.length ha (Nat.le_refl _)
  obtain ⟨d, hd, e2⟩ := mnTo_mem (f := f) (l := b) b.length hb (Nat.le_refl _)
  obtain ⟨j, hj⟩ := List.getElem?_of_mem ((h c).1 hc)
  obtain ⟨i, hi⟩ := List.getElem?_of_mem ((h d).2 hd)
  have h1 := mnTo_le (f := f) (l := b) b.length (Nat.le_refl _) j c (List.getElem?_eq_some_iff.1 hj).1 hj
  have h2 := mnTo_le (f := f) (l := a) a.length (Nat.le_refl _) i d (List.getElem?_eq_some_iff.1 hi).1 hi
  omega
theorem srt_shift {s : List Cell} {x y : Int} (h : Srt s) : Srt (shift s x y) := by
  unfold Srt shift
  rw [List.pairwise_map]
  refine h.imp fun {a b} hab => ?_
  rw [bef_iff] at hab ⊢
  simp only
  omega
theorem sortC_move {s : List Cell} {x y : Int} : sortC (moveS s (-x) (-y)) = shift (sortC s) x y := by
  refine sortC_is (srt_shift srt_sortC) fun c => ?_
  rw [mem_shift, mem_sortC]
  unfold moveS
  rw [List.mem_map]
  constructor
  · intro h
    refine ⟨_, h, ?_⟩
    obtain ⟨cx, cy⟩ := c
    simp only [Cell.mk.injEq]
    omega
  · rintro ⟨a, ha, rfl⟩
    obtain ⟨ax, ay⟩ := a
    simp only
    rw [show ax + -x + x = ax by omega, show ay + -y + y = ay by omega]
    exact ha
theorem corner_sort {s : List Cell} (h : 1 ≤ s.length) : sortC (moveS s (-(minX s)) (-(minY s))) = corner (sortC s) := by
  rw [sortC_move]
  unfold corner minX minY
  rw [min_same (f := (·.x)) h (sortC_pos h) fun c => mem_sortC.symm, min_same (f := (·.y)) h (sortC_pos h) fun c => mem_sortC.symm]
/-- the least so far; that of none is the first -/
def mn1 (f : Cell → Int) (s : List Cell) (k : Nat) : Int := mnTo f s (if k = 0 then 1 else k)
theorem mn1_next {f : Cell → Int} {s : List Cell} {k : Nat} {d : Cell} (h : s[k]? = some d) : mn1 f s (k + 1) = if f d < mn1 f s k then f d else mn1 f s k := by
  unfold mn1
  rw [if_neg (by omega)]
  by_cases h0 : k = 0
  · subst h0
    rw [if_pos rfl, mnTo_first h, if_neg (by omega)]
  · rw [if_neg h0, mnTo_next h h0]

set_option maxRecDepth 100000 in
set_option maxHeartbeats 3200000 in
theorem impl_corner_c {v : Value} {s : List Cell} (w : World) (h : CellsRd w 0 w.heap.size v s) (h1 : 1 ≤ s.length) (h12 : s.length ≤ 12) (hsm : ∀ c ∈ s, Sml 50 c) :
    Calls Tryz.prog 37 #[v] w fun e w' => ∃ v', e = .returned v' ∧ CellsIn w' w.heap.size w'.heap.size v' (corner (sortC s)) ∧ Below w.heap.size w w' := by
  have HM : Hid (∀ (x y : Int) w1, Below w.heap.size w w1 → (-100 ≤ x ∧ x ≤ 100) → (-100 ≤ y ∧ y ≤ 100) → Calls Tryz.prog 62 #[v, .int .i64 x, .int .i64 y] w1 fun e w' => ∃ v', e = .returned v' ∧ CellsIn w' w1.heap.size w'.heap.size v' (moveS s x y) ∧ Below w1.heap.size w1 w') := Lib.hid fun x y w1 b1 hx hy =>
    impl_moved_c x y w1 ((h.keep (SameIn.of_below b1 (Nat.le_refl _))).more (Nat.le_refl _) b1.size) (by omega) (fun c hc => by
      obtain ⟨⟨q1, q2⟩, q3, q4⟩ := hsm c hc
      exact ⟨⟨by omega, by omega⟩, ⟨by omega, by omega⟩⟩) hx hy
  obtain ⟨A, c, rfl, hm, hr⟩ := h
  obtain ⟨b, off, hA, _, hb, hc⟩ := hr.2 (by omega)
  subst hA
  have HCE := Lib.hid hc
  have HS := Lib.hid hsm
  obtain ⟨d0, hd0⟩ : ∃ d, s[0]? = some d := ⟨s[0], List.getElem?_eq_getElem h1⟩
  have q1 := hc 0 _ (cc_at hd0).1
  have q2 := hc 1 _ (cc_at hd0).2
  rw [Nat.add_zero] at q1
  have HMX : Hid (d0.x = mn1 (·.x) s 0) := Lib.hid (by unfold mn1; rw [if_pos rfl, mnTo_first hd0])
  have HMY : Hid (d0.y = mn1 (·.y) s 0) := Lib.hid (by unfold mn1; rw [if_pos rfl, mnTo_first hd0])
  have HMin : Hid ((-50 ≤ minX s ∧ minX s ≤ 50) ∧ (-50 ≤ minY s ∧ minY s ≤ 50)) := Lib.hid (sml_min hsm h1)
  clear hr hc hsm hd0
  go_enter Tryz.func37, Tryz.ntmps37
  go_wp2_with fail
  go_quiet (fail)
  have hb0 := below_drewN (Below.refl w.heap.size w) nq
  generalize w.drewN nq = w0 at *
  clear q1 q2
  go_wp2
  go_loopw [3, 4, 17] (fun xv yv kv wx => ∃ (k : Nat) (X Y : Int), k ≤ s.length ∧ kv = .int .i64 k ∧ xv = .int .i64 X ∧ yv = .int .i64 Y ∧ Hid (X = mn1 (·.x) s k) ∧ Hid (Y = mn1 (·.y) s k) ∧ Below w.heap.size w wx) (fun _ _ kv _ => s.length - (intOf kv).toNat)
  case atStart => exact ⟨0, _, _, Nat.zero_le _, rfl, rfl, rfl, HMX, HMY, hb0⟩
  case round =>
    clear HMX HMY hb0
    obtain ⟨k, X, Y, hk, rfl, rfl, rfl, HX, HY, hbel⟩ := hrel
    by_cases hlt : k < s.length
    · obtain ⟨d, hd⟩ : ∃ d, s[k]? = some d := ⟨s[k], List.getElem?_eq_getElem hlt⟩
      have x1 := (hbel.cell (p := ⟨b, off + k * 2, none⟩) hb).trans (HCE.out _ _ (cc_at hd).1)
      have x2 : wr.cell? ⟨b, off + k * 2 + 1, none⟩ = some (.int .i64 d.y) := (hbel.cell (p := ⟨b, off + k * 2 + 1, none⟩) hb).trans (by rw [Nat.add_assoc]; exact HCE.out _ _ (cc_at hd).2)
      have HLA := Lib.hid hd
      have H1 := (Sep.start w).step hbel |>.box 46 #[.int .i64 d.x, .int .i64 d.y]
      obtain ⟨g, hg⟩ : ∃ g, g = wr.heap.size := ⟨_, rfl⟩
      clear hd
      go_upto_region 5 with fail
      rw [← hg] at H1 ⊢
      generalize wr.alloc (.cells #[.int .i64 d.x, .int .i64 d.y] 46) = W at *
      clear hg x1 x2
      have c0 : W.cell? ⟨g, 0, none⟩ = some (.int .i64 d.x) := H1.h0.cell 0
      have c1 : W.cell? ⟨g, 1, none⟩ = some (.int .i64 d.y) := H1.h0.cell 1
      have HB2 := H1.below
      clear H1 hbel
      have EX : Hid (mn1 (·.x) s (k + 1) = min X d.x) := Lib.hid (by rw [mn1_next HLA.out, ← HX.out]; split <;> omega)
      have EY : Hid (mn1 (·.y) s (k + 1) = min Y d.y) := Lib.hid (by rw [mn1_next HLA.out, ← HY.out]; split <;> omega)
      clear HX HY
      go_wp2_with fail
      go_quiet (fail)
      clear c0 c1
      have HB3 := below_drewN HB2 nq
      generalize W.drewN nq = w5 at *
      go_wp2
      go_roundw
      case rel => exact ⟨k + 1, _, _, by omega, by go_num, rfl, rfl, Lib.hid EX.out.symm, Lib.hid EY.out.symm, HB3⟩
      case measure => simp [intOf]; omega
    · obtain rfl : k = s.length := by omega
      have e1 : minX s = mn1 (·.x) s s.length := by unfold minX mn1; rw [if_neg (by omega)]
      have e2 : minY s = mn1 (·.y) s s.length := by unfold minY mn1; rw [if_neg (by omega)]
      obtain ⟨⟨m1, m2⟩, m3, m4⟩ := HMin.out
      rw [e1] at m1 m2
      rw [e2] at m3 m4
      rw [← HX.out] at m1 m2
      rw [← HY.out] at m3 m4
      have y1 : IntKind.i64.wrap (-X) = -X := IntWalk.i64_in _ (by omega)
      have y2 : IntKind.i64.wrap (-Y) = -Y := IntWalk.i64_in _ (by omega)
      have HC1 := Lib.hid (HM.out (-X) (-Y) wr hbel (by omega) (by omega))
      have HE : Hid (sortC (moveS s (-X) (-Y)) = corner (sortC s)) := Lib.hid (by rw [HX.out, HY.out, ← e1, ← e2]; exact corner_sort h1)
      clear e1 e2
      go_wp2_with fail
      refine (HC1.out).mono ?_
      rintro e w1 ⟨v1, rfl, o1, b1⟩
      have hb1 := hbel.trans (b1.mono hbel.size)
      have HSO := Lib.hid (impl_sort_c w1 (o1.rd.more (Nat.zero_le _) (Nat.le_refl _)) (by rw [moveS_len]; exact h1) (by rw [moveS_len]; exact h12))
      obtain ⟨A1, c1, rfl, _, _⟩ := o1.rd
      clear o1 b1 hbel HC1
      go_wp2_with fail
      refine (HSO.out).mono ?_
      rintro e w2 ⟨v2, rfl, o2, b2⟩
      have hb2 := hb1.trans (b2.mono hb1.size)
      have HO : Hid (CellsIn w2 w.heap.size w2.heap.size v2 (corner (sortC s))) := Lib.hid (by rw [← HE.out]; exact OI.base o2 hb1.size (Nat.le_refl _))
      go_wp2
      go_ret
      exact ⟨_, rfl, HO.out, hb2⟩
end Go.Proofs.YtghpkfihdcjlaaaGreatDoor

namespace Go.Proofs.YtghpkfihdcjlaaaGreatDoor
open Go.RowKit

theorem shp_sml5 {s : List Cell} (h : isShape s = true) : ∀ c ∈ s, Sml 50 c := fun c hc => by
  obtain ⟨⟨h1, h2⟩, h3, h4⟩ := shp_on h hc
  exact ⟨⟨by omega, by omega⟩, ⟨by omega, by omega⟩⟩
end Go.Proofs.YtghpkfihdcjlaaaGreatDoor
