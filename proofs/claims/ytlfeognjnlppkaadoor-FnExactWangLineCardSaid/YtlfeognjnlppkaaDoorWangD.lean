
/-
  Wang tiles: fills that fit around; the search for them in plain Lean; the walks of both tests.
-/
import Derived.Test.YtlfeognjnlppkaaDoorWangC
namespace Go.Proofs.YtlfeognjnlppkaaDoor
open Go.RowKit

def rowOk (l : List Wg) (w : Nat) (f : List Nat) (y : Nat) : Bool := decide ((tileAt l (f.getD (y * w + w - 1) 0)).right = (tileAt l (f.getD (y * w) 0)).left)
def colOk (l : List Wg) (w h : Nat) (f : List Nat) (x : Nat) : Bool := decide ((tileAt l (f.getD ((h - 1) * w + x) 0)).bottom = (tileAt l (f.getD x 0)).top)
def closesW (l : List Wg) (w h : Nat) (f : List Nat) : Bool := (List.range h).all (rowOk l w f) && (List.range w).all (colOk l w h f)
theorem closes_row {l : List Wg} {w h y : Nat} {f : List Nat} (hy : y < h) (ho : rowOk l w f y = false) : closesW l w h f = false := by
  unfold closesW
  have : (List.range h).all (rowOk l w f) = false := by
    rw [List.all_eq_false]
    exact ⟨y, List.mem_range.2 hy, by simp [ho]⟩
  rw [this, Bool.false_and]
theorem closes_col {l : List Wg} {w h x : Nat} {f : List Nat} (hx : x < w) (ho : colOk l w h f x = false) : closesW l w h f = false := by
  unfold closesW
  have : (List.range w).all (colOk l w h f) = false := by
    rw [List.all_eq_false]
    exact ⟨x, List.mem_range.2 hx, by simp [ho]⟩
  rw [this, Bool.and_false]
theorem closes_yes {l : List Wg} {w h : Nat} {f : List Nat} (h1 : ∀ y, y < h → rowOk l w f y = true) (h2 : ∀ x, x < w → colOk l w h f x = true) : closesW l w h f = true := by
  unfold closesW
  rw [Bool.and_eq_true, List.all_eq_true, List.all_eq_true]
  exact ⟨fun y hy => h1 y (List.mem_range.1 hy), fun x hx => h2 x (List.mem_range.1 hx)⟩
theorem below_succ {P : Nat → Prop} {k : Nat} (h : ∀ j, j < k → P j) (hk : P k) : ∀ j, j < k + 1 → P j := fun j hj => by
  by_cases e : j = k
  · subst e; exact hk
  · exact h j (by omega)

set_option maxRecDepth 100000 in
set_option maxHeartbeats 3200000 in
theorem impl_closes_c {v vf : Value} {l : List Wg} {f : List Nat} (wd h : Nat) (w : World) (hl0 : WangsRd w 0 w.heap.size v l) (hf : IntsRd w 0 w.heap.size vf (fc f)) (hin : inT l f) (hl1 : 1 ≤ l.length) (hl : l.length ≤ 6) (hw1 : 1 ≤ wd) (hw4 : wd ≤ 4) (hh1 : 1 ≤ h) (hh4 : h ≤ 4) (hfl : f.length = wd * h) :
    Calls Tryd.prog 71 #[v, .int .i64 wd, .int .i64 h, vf] w fun e w' => e = .returned (.bool (closesW l wd h f)) ∧ Below w.heap.size w w' := by
  obtain ⟨A, c, rfl, hmm, hr⟩ := hl0
  obtain ⟨A', c', rfl, hm', hr'⟩ := hf
  rw [fc_length] at hm' hr' ⊢
  obtain ⟨R, hR⟩ : ∃ R, R = closesW l wd h f := ⟨_, rfl⟩
  rw [← hR]
  have HR := Lib.hid hR
  obtain ⟨n, hn⟩ : ∃ n, n = f.length := ⟨_, rfl⟩
  rw [← hn] at hm' hr' ⊢
  have HN := Lib.hid hn
  have hn16 : n ≤ 16 := by rw [hn, hfl]; exact Nat.le_trans (Nat.mul_le_mul hw4 hh4) (by decide)
  have hn1 : 0 < n := by rw [hn, hfl]; exact Nat.mul_pos hw1 hh1
  clear hR hn hmm hm'
  obtain ⟨b, off, hA, hb, htile⟩ := hr.shapeT (by omega)
  subst hA
  obtain ⟨bq, oq, hAq, hbq, hcell⟩ := hr'.shapeF hn1
  subst hAq
  have HTL := Lib.hid htile
  have HCL := Lib.hid hcell
  clear htile hcell
  clear hr hr'
  go_enter Tryd.func71, Tryd.ntmps71
  go_wp2
  go_loopw [12] (fun i wr => ∃ y : Nat, y ≤ h ∧ i = .int .i64 y ∧ Hid (∀ j, j < y → rowOk l wd f j = true) ∧ Below w.heap.size w wr) (fun i _ => h - (intOf i).toNat)
  case atStart => exact ⟨0, Nat.zero_le _, rfl, Lib.hid (fun j hj => absurd hj (by omega)), Below.refl _ _⟩
  case round =>
    obtain ⟨y, hyh, rfl, HY, hbel⟩ := hrel
    by_cases hlt : y < h
    · have hyw : (y + 1) * wd ≤ h * wd := Nat.mul_le_mul_right wd hlt
      have hyw2 : (y + 1) * wd = y * wd + wd := Nat.succ_mul y wd
      have hwh : h * wd = wd * h := Nat.mul_comm h wd
      obtain ⟨i0, hi0⟩ : ∃ i0, i0 = y * wd := ⟨_, rfl⟩
      obtain ⟨i1, hi1⟩ : ∃ i1, i1 = y * wd + wd - 1 := ⟨_, rfl⟩
      obtain ⟨s, hs⟩ : ∃ s, s = y * wd + wd := ⟨_, rfl⟩
      have b0 : i0 < n := by rw [HN.out, hfl]; omega
      have b1 : i1 < n := by rw [HN.out, hfl]; omega
      have e1 : (y : Int) * (wd : Int) = (i0 : Int) := by rw [hi0]; exact (Int.natCast_mul y wd).symm
      have e2 : (i0 : Int) + (wd : Int) = (s : Int) := by omega
      have e3 : (s : Int) - 1 = (i1 : Int) := by omega
      have e4 : IntKind.i64.wrap ((y : Int) * (wd : Int)) = (i0 : Int) := by rw [e1]; exact IntWalk.i64_in _ (by omega)
      have e5 : IntKind.i64.wrap ((i0 : Int) + (wd : Int)) = (s : Int) := by rw [e2]; exact IntWalk.i64_in _ (by omega)
      have e6 : IntKind.i64.wrap ((s : Int) - 1) = (i1 : Int) := by rw [e3]; exact IntWalk.i64_in _ (by omega)
      obtain ⟨x, hx, x1⟩ := HCL.out i1 b1
      obtain ⟨z, hz, z1⟩ := HCL.out i0 b0
      have hxl : x < l.length := hin x (List.mem_of_getElem? hx)
      have hzl : z < l.length := hin z (List.mem_of_getElem? hz)
      obtain ⟨tx, htx, a1, a2, a3, a4⟩ := HTL.out x hxl
      obtain ⟨tz, htz, t1, t2, t3, t4⟩ := HTL.out z hzl
      have hro : rowOk l wd f y = decide (tx.right = tz.left) := by
        unfold rowOk
        rw [getD_of (by rw [← hi1]; exact hx), getD_of (by rw [← hi0]; exact hz), tileAt_of htx, tileAt_of htz]
      have HRO := Lib.hid hro
      replace x1 := (hbel.cell (p := ⟨bq, oq + i1, none⟩) hbq).trans x1
      replace z1 := (hbel.cell (p := ⟨bq, oq + i0, none⟩) hbq).trans z1
      replace a2 := (hbel.cell (p := ⟨b, off + x * 4 + 1, none⟩) hb).trans a2
      replace t4 := (hbel.cell (p := ⟨b, off + z * 4 + 3, none⟩) hb).trans t4
      clear hyw hyw2 hwh hi0 hi1 hs hx hz htx htz hro a1 a3 a4 t1 t2 t3
      by_cases hco : tx.right = tz.left
      · have f0 : (tx.right != tz.left) = false := by simpa using hco
        have hk2 := below_succ (P := fun j => rowOk l wd f j = true) HY.out (by rw [HRO.out]; exact decide_eq_true hco)
        have HY2 := Lib.hid hk2
        clear hco hk2
        go_wp2_with fail
        go_quiet (fail)
        have hbel2 := below_drewN hbel nq
        generalize wr.drewN nq = w2 at *
        clear e1 e2 e3 e4 e5 e6
        go_wp2
        go_roundw
        case rel => exact ⟨y + 1, by omega, by go_num, HY2, hbel2⟩
        case measure => simp [intOf]; omega
      · have f0 : (tx.right != tz.left) = true := by simpa using hco
        obtain rfl : R = false := by rw [HR.out]; exact closes_row hlt (by rw [HRO.out]; exact decide_eq_false hco)
        clear hco
        go_wp2_with fail
        go_quiet (fail)
        have hbel2 := below_drewN hbel nq
        go_wp2
        go_ret
        exact ⟨rfl, hbel2⟩
    · obtain rfl : y = h := by omega
      go_wp2
      obtain ⟨wo, hwo⟩ : ∃ wo : World, wo = wr := ⟨_, rfl⟩
      subst hwo
      obtain ⟨h', hh'⟩ : ∃ h', h' = y := ⟨_, rfl⟩
      go_loopw [41] (fun i wx => ∃ x : Nat, x ≤ wd ∧ i = .int .i64 x ∧ Hid (∀ j, j < x → colOk l wd y f j = true) ∧ Below w.heap.size w wx) (fun i _ => wd - (intOf i).toNat)
      case atStart => exact ⟨0, Nat.zero_le _, rfl, Lib.hid (fun j hj => absurd hj (by omega)), hbel⟩
      case round =>
        clear hbel
        obtain ⟨x, hxw, rfl, HX, hbel⟩ := hrel
        by_cases hlt2 : x < wd
        · have hyw : (y - 1 + 1) * wd = (y - 1) * wd + wd := Nat.succ_mul (y - 1) wd
          have hwh : y * wd = wd * y := Nat.mul_comm y wd
          have hy1 : y - 1 + 1 = y := by omega
          rw [hy1] at hyw
          obtain ⟨p, hp⟩ : ∃ p, p = y - 1 := ⟨_, rfl⟩
          obtain ⟨i0, hi0⟩ : ∃ i0, i0 = p * wd := ⟨_, rfl⟩
          obtain ⟨i1, hi1⟩ : ∃ i1, i1 = i0 + x := ⟨_, rfl⟩
          have hi0' : i0 = (y - 1) * wd := by rw [hi0, hp]
          have b0 : x < n := by rw [HN.out, hfl]; omega
          have b1 : i1 < n := by rw [HN.out, hfl]; omega
          have e1 : (y : Int) - 1 = (p : Int) := by omega
          have e2 : (p : Int) * (wd : Int) = (i0 : Int) := by rw [hi0]; exact (Int.natCast_mul p wd).symm
          have e3 : (i0 : Int) + (x : Int) = (i1 : Int) := by omega
          have e4 : IntKind.i64.wrap ((y : Int) - 1) = (p : Int) := by rw [e1]; exact IntWalk.i64_in _ (by omega)
          have e5 : IntKind.i64.wrap ((p : Int) * (wd : Int)) = (i0 : Int) := by rw [e2]; exact IntWalk.i64_in _ (by omega)
          have e6 : IntKind.i64.wrap ((i0 : Int) + (x : Int)) = (i1 : Int) := by rw [e3]; exact IntWalk.i64_in _ (by omega)
          obtain ⟨u, hu, u1⟩ := HCL.out i1 b1
          obtain ⟨z, hz, z1⟩ := HCL.out x b0
          have hul : u < l.length := hin u (List.mem_of_getElem? hu)
          have hzl : z < l.length := hin z (List.mem_of_getElem? hz)
          obtain ⟨tu, htu, a1, a2, a3, a4⟩ := HTL.out u hul
          obtain ⟨tz, htz, t1, t2, t3, t4⟩ := HTL.out z hzl
          have hro : colOk l wd y f x = decide (tu.bottom = tz.top) := by
            unfold colOk
            rw [getD_of (by rw [← hi0', ← hi1]; exact hu), getD_of hz, tileAt_of htu, tileAt_of htz]
          have HRO := Lib.hid hro
          replace u1 := (hbel.cell (p := ⟨bq, oq + i1, none⟩) hbq).trans u1
          replace z1 := (hbel.cell (p := ⟨bq, oq + x, none⟩) hbq).trans z1
          replace a3 := (hbel.cell (p := ⟨b, off + u * 4 + 2, none⟩) hb).trans a3
          replace t1 := (hbel.cell (p := ⟨b, off + z * 4, none⟩) hb).trans t1
          clear hyw hwh hi0 hi0' hi1 hp hy1 hu hz htu htz hro a1 a2 a4 t2 t3 t4
          by_cases hco : tu.bottom = tz.top
          · have f0 : (tu.bottom != tz.top) = false := by simpa using hco
            have hk2 := below_succ (P := fun j => colOk l wd y f j = true) HX.out (by rw [HRO.out]; exact decide_eq_true hco)
            have HX2 := Lib.hid hk2
            clear hco hk2
            go_wp2_with fail
            go_quiet (fail)
            have hbel2 := below_drewN hbel nq
            generalize wr.drewN nq = w2 at *
            clear e1 e2 e3 e4 e5 e6
            go_wp2
            go_roundw
            case rel => exact ⟨x + 1, by omega, by go_num, HX2, hbel2⟩
            case measure => simp [intOf]; omega
          · have f0 : (tu.bottom != tz.top) = true := by simpa using hco
            obtain rfl : R = false := by rw [HR.out]; exact closes_col hlt2 (by rw [HRO.out]; exact decide_eq_false hco)
            clear hco
            go_wp2_with fail
            go_quiet (fail)
            have hbel2 := below_drewN hbel nq
            go_wp2
            go_ret
            exact ⟨rfl, hbel2⟩
        · obtain rfl : x = wd := by omega
          obtain rfl : R = true := by rw [HR.out]; exact closes_yes HY.out HX.out
          go_wp2
          go_ret
          exact ⟨rfl, hbel⟩
end Go.Proofs.YtlfeognjnlppkaaDoor
