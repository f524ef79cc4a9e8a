
/-
  Wang tiles: the walk of the reference's test of a fill that was laid by fitting tiles.
-/
import Derived.Test.YtlfeognjnlppkaaDoorWangD
import Derived.Test.YtlfeognjnlppkaaDoorLater
namespace Go.Proofs.YtlfeognjnlppkaaDoor
open Go.RowKit

/-- laid tile by tile, each fitting -/
def laidOk (l : List Wg) (w : Nat) (f : List Nat) : Prop := ∀ (k x : Nat), f[k]? = some x → fitsW l w (f.take k) x = true
theorem laidOk.nil {l : List Wg} {w : Nat} : laidOk l w [] := fun k x h => by simp at h
theorem laidOk.snoc {l : List Wg} {w t : Nat} {f : List Nat} (h : laidOk l w f) (ht : fitsW l w f t = true) : laidOk l w (f ++ [t]) := by
  intro k x hx
  by_cases hk : k < f.length
  · rw [List.getElem?_append_left hk] at hx
    rw [List.take_append_of_le_length (by omega)]
    exact h k x hx
  · have e : k = f.length := by
      have := (List.getElem?_eq_some_iff.1 hx).1
      simp at this
      omega
    subst e
    simp at hx
    subst hx
    rw [List.take_left]
    exact ht
theorem inT.snoc {l : List Wg} {t : Nat} {f : List Nat} (h : inT l f) (ht : t < l.length) : inT l (f ++ [t]) := by
  intro x hx
  rcases List.mem_append.1 hx with hx | hx
  · exact h x hx
  · simp at hx; subst hx; exact ht
theorem inT.take {l : List Wg} {f : List Nat} (h : inT l f) (k : Nat) : inT l (f.take k) := fun x hx => h x (List.mem_of_mem_take hx)

set_option maxRecDepth 100000 in
theorem l18Sides_c (a b : Int) (w : World) (h : 1 ≤ a ∧ a ≤ 4 ∧ 1 ≤ b ∧ b ≤ 4) : Calls Tryd.prog 63 #[.int .i64 a, .int .i64 b] w fun e w' => e = .returned (.bool true) ∧ w = w' := by
  have h1 : inW a 1 4 = true := inW_iff.2 ⟨h.1, h.2.1⟩
  have h2 : inW b 1 4 = true := inW_iff.2 ⟨h.2.2.1, h.2.2.2⟩
  clear h
  go_enter Tryd.func63, Tryd.ntmps63
  go_wp2_with (go_at_call 36; refine (l1In_w _ _ _ _).mono ?_; rintro e w' ⟨rfl, rfl⟩)
  go_ret
  exact ⟨rfl, rfl⟩
theorem Later.wangs {W : World} {u : Later W} {v : Value} {r : List Wg} (h : WangsRd W 0 W.heap.size v r) : WangsRd u.w 0 u.w.heap.size v r := (h.keep (SameIn.of_below u.h (Nat.le_refl _))).more (Nat.le_refl _) u.h.size
/-- the head of a fill -/
theorem fill_take {w : World} {lo hi n c b off k : Nat} {f : List Nat} (h : Rd w lo hi 1 (some ⟨b, off, none⟩) n (ic (fc f))) (hk : k ≤ n) (hm : n ≤ maxLen) : IntsRd w lo hi (.slice (some ⟨b, off, none⟩) k c) (fc (f.take k)) := by
  have hl : f.length = n := by have := h.1; rw [ic_length, fc_length] at this; omega
  have hkl : (fc (f.take k)).length = k := by rw [fc_length, List.length_take]; omega
  refine ⟨_, c, by rw [hkl], by rw [hkl]; omega, by rw [ic_length, hkl]; omega, fun h0 => ?_⟩
  obtain ⟨b', off', e, h1, h2, h3⟩ := h.2 (by omega)
  refine ⟨b', off', e, h1, h2, fun j u hu => h3 j u ?_⟩
  have hj : j < k := by have := (List.getElem?_eq_some_iff.1 hu).1; rw [ic_length, hkl] at this; exact this
  simp only [ic, fc, List.map_take, List.getElem?_take, if_pos hj] at hu
  simpa [ic, fc] using hu

set_option maxRecDepth 100000 in
set_option maxHeartbeats 3200000 in
theorem spec_wangFill_c {vf v : Value} {l : List Wg} {f : List Nat} (wd h : Nat) (w : World) (hl0 : WangsRd w 0 w.heap.size v l) (hf : IntsRd w 0 w.heap.size vf (fc f)) (hcap : ∃ A c, vf = .slice A f.length c ∧ f.length ≤ c) (hA : areW l = true) (hin : inT l f) (hla : laidOk l wd f) (hl1 : 1 ≤ l.length) (hl : l.length ≤ 6) (hw1 : 1 ≤ wd) (hw4 : wd ≤ 4) (hh1 : 1 ≤ h) (hh4 : h ≤ 4) (hfl : f.length = wd * h) :
    Calls Tryd.prog 82 #[v, .int .i64 wd, .int .i64 h, vf] w fun e w' => e = .returned (.bool true) ∧ Below w.heap.size w w' := by
  obtain ⟨A, c, rfl, hmm, hr⟩ := id hl0
  obtain ⟨A', c', rfl, hm', hr'⟩ := id hf
  obtain ⟨A2, c2, he, hcc⟩ := hcap
  injection he with he1 he2 he3
  subst he1 he3
  clear hmm he2
  rw [fc_length] at hm' hr' hf ⊢
  obtain ⟨n, hn⟩ : ∃ n, n = f.length := ⟨_, rfl⟩
  rw [← hn] at hm' hr' hf hcc ⊢
  have HN := Lib.hid hn
  have hn16 : n ≤ 16 := by rw [hn, hfl]; exact Nat.le_trans (Nat.mul_le_mul hw4 hh4) (by decide)
  have hn1 : 0 < n := by rw [hn, hfl]; exact Nat.mul_pos hw1 hh1
  have hmul : (wd : Int) * (h : Int) = (n : Int) := by rw [hn, hfl]; exact (Int.natCast_mul wd h).symm
  have hmul2 : IntKind.i64.wrap ((wd : Int) * (h : Int)) = (n : Int) := by rw [hmul]; exact IntWalk.i64_in _ (by omega)
  clear hn
  obtain ⟨b, off, hAq, hb, htile⟩ := hr.shapeT (by omega)
  subst hAq
  obtain ⟨bq, oq, hAq, hbq, hcell⟩ := hr'.shapeF hn1
  subst hAq
  have HTL := Lib.hid htile
  have HCL := Lib.hid hcell
  have HR := Lib.hid hr'
  have HF := Lib.hid hla
  clear htile hcell hr hr' hla
  go_enter Tryd.func82, Tryd.ntmps82
  go_wp2_with fail
  refine (spec_areW_c (l := l) w hl0).mono ?_
  rintro e w1 ⟨rfl, b1⟩
  rw [hA]
  go_wp2_with fail
  refine (l18Sides_c wd h w1 (by omega)).mono ?_
  rintro e w' ⟨rfl, rfl⟩
  go_wp2
  clear hmul hmul2
  go_loopw [9] (fun i wr => ∃ k : Nat, k ≤ n ∧ i = .int .i64 k ∧ Below w.heap.size w wr) (fun i _ => n - (intOf i).toNat)
  case atStart => exact ⟨0, Nat.zero_le _, rfl, b1⟩
  case round =>
    clear b1
    obtain ⟨k, hk, rfl, hbel⟩ := hrel
    by_cases hlt : k < n
    · obtain ⟨x, hx, x1⟩ := HCL.out k hlt
      have hxl : x < l.length := hin x (List.mem_of_getElem? hx)
      replace x1 := (hbel.cell (p := ⟨bq, oq + k, none⟩) hbq).trans x1
      have l1 := Later.cell x1 (Nat.lt_of_lt_of_le hbq hbel.size)
      have hdx : inW (x : Int) 0 ((l.length : Int) - 1) = true := inW_iff.2 ⟨by omega, by omega⟩
      have hft : fitsW l wd (f.take k) x = true := HF.out k x hx
      have hcall : ∀ u : Later wr, Calls Tryd.prog 75 #[.slice (some ⟨b, off, none⟩) l.length c, .int .i64 wd, .slice (some ⟨bq, oq, none⟩) k c', .int .i64 x] u.w fun e w' => e = .returned (.bool true) ∧ Below u.w.heap.size u.w w' := by
        intro u
        have hbu := hbel.trans (u.h.mono hbel.size)
        have := spec_fits_c (f := f.take k) wd x u.w ((hl0.keep (SameIn.of_below hbu (Nat.le_refl _))).more (Nat.le_refl _) hbu.size) (((fill_take (c := c') HR.out (by omega) hm').keep (SameIn.of_below hbu (Nat.le_refl _))).more (Nat.le_refl _) hbu.size) (hin.take k) hxl hl hw1 hw4 (by rw [List.length_take]; omega)
        rw [hft] at this
        exact this
      have HCALL := Lib.hid hcall
      have hkc : k ≤ c' := by omega
      clear hcall hx hft
      go_wp2_with fail
      refine wp_region_later (by kernel_rfl) (by kernel_rfl) ?_
      repeat (go_big_quiet_step ((first
        | (go_at_call 36; exact Later.same (l1In_w _ _ _ _))
        | (go_at_call 75; exact Later.call (HCALL.out _)))))
      refine wpQuiet_nil ?_
      intro w3 hw3
      obtain ⟨u3, hu3⟩ := hw3
      subst hu3
      have hb3 := hbel.trans (u3.h.mono hbel.size)
      clear l1 x1
      generalize u3.w = w3 at *
      go_wp2
      go_roundw
      case rel => exact ⟨k + 1, by omega, by go_num, hb3⟩
      case measure => simp [intOf]; omega
    · obtain rfl : k = n := by omega
      go_wp2
      go_ret
      exact ⟨rfl, hbel⟩
set_option maxRecDepth 100000 in
set_option maxHeartbeats 3200000 in
theorem spec_periodic_c {v vf : Value} {l : List Wg} {f : List Nat} (wd h : Nat) (w : World) (hl0 : WangsRd w 0 w.heap.size v l) (hf : IntsRd w 0 w.heap.size vf (fc f)) (hcap : ∃ A c, vf = .slice A f.length c ∧ f.length ≤ c) (hA : areW l = true) (hin : inT l f) (hla : laidOk l wd f) (hl1 : 1 ≤ l.length) (hl : l.length ≤ 6) (hw1 : 1 ≤ wd) (hw4 : wd ≤ 4) (hh1 : 1 ≤ h) (hh4 : h ≤ 4) (hfl : f.length = wd * h) :
    Calls Tryd.prog 76 #[v, .int .i64 wd, .int .i64 h, vf] w fun e w' => e = .returned (.bool (closesW l wd h f)) ∧ Below w.heap.size w w' := by
  have HL := Lib.hid hl0
  have HFF := Lib.hid hf
  have HLA := Lib.hid hla
  have HCAP := Lib.hid hcap
  clear hcap hla
  obtain ⟨A, c, rfl, hmm, hr⟩ := hl0
  obtain ⟨A', c', rfl, hm', hr'⟩ := hf
  rw [fc_length] at hm' hr' ⊢
  obtain ⟨R, hR⟩ : ∃ R, R = closesW l wd h f := ⟨_, rfl⟩
  rw [← hR]
  have HR := Lib.hid hR
  obtain ⟨n, hn⟩ : ∃ n, n = f.length := ⟨_, rfl⟩
  rw [← hn] at hm' hr' ⊢
  have HN := Lib.hid hn
  have hn16 : n ≤ 16 := by rw [hn, hfl]; exact Nat.le_trans (Nat.mul_le_mul hw4 hh4) (by decide)
  have hn1 : 0 < n := by rw [hn, hfl]; exact Nat.mul_pos hw1 hh1
  clear hR hn hmm hm'
  obtain ⟨b, off, hA, hb, htile⟩ := hr.shapeT (by omega)
  subst hA
  obtain ⟨bq, oq, hAq, hbq, hcell⟩ := hr'.shapeF hn1
  subst hAq
  have HTL := Lib.hid htile
  have HCL := Lib.hid hcell
  clear htile hcell
  have hf2 : IntsRd w 0 w.heap.size (.slice (some ⟨bq, oq, none⟩) n c') (fc f) := by have := HFF.out; rw [fc_length, ← HN.out] at this; exact this
  have hcap2 : ∃ A c, (Value.slice (some ⟨bq, oq, none⟩) n c') = .slice A f.length c ∧ f.length ≤ c := by
    obtain ⟨A2, c2, he, hcc⟩ := HCAP.out
    injection he with _ _ he3
    subst he3
    exact ⟨_, _, by rw [HN.out], hcc⟩
  have HFILL := Lib.hid (spec_wangFill_c wd h w HL.out hf2 hcap2 hA hin HLA.out hl1 hl hw1 hw4 hh1 hh4 hfl)
  clear hr hr' hf2 hcap2 HL HFF HLA HCAP hA
  go_enter Tryd.func76, Tryd.ntmps76
  go_wp2_with fail
  refine (HFILL.out).mono ?_
  rintro e w1 ⟨rfl, b1⟩
  go_wp2
  go_loopw [9] (fun i wr => ∃ y : Nat, y ≤ h ∧ i = .int .i64 y ∧ Hid (∀ j, j < y → rowOk l wd f j = true) ∧ Below w.heap.size w wr) (fun i _ => h - (intOf i).toNat)
  case atStart => exact ⟨0, Nat.zero_le _, rfl, Lib.hid (fun j hj => absurd hj (by omega)), b1⟩
  case round =>
    obtain ⟨y, hyh, rfl, HY, hbel⟩ := hrel
    by_cases hlt : y < h
    · have hyw : (y + 1) * wd ≤ h * wd := Nat.mul_le_mul_right wd hlt
      have hyw2 : (y + 1) * wd = y * wd + wd := Nat.succ_mul y wd
      have hwh : h * wd = wd * h := Nat.mul_comm h wd
      obtain ⟨i0, hi0⟩ : ∃ i0, i0 = y * wd := ⟨_, rfl⟩
      obtain ⟨i1, hi1⟩ : ∃ i1, i1 = y * wd + wd - 1 := ⟨_, rfl⟩
      obtain ⟨s, hs⟩ : ∃ s, s = y * wd + wd := ⟨_, rfl⟩
      have b0 : i0 < n := by rw [HN.out, hfl]; omega
      have b1 : i1 < n := by rw [HN.out, hfl]; omega
      have e1 : (y : Int) * (wd : Int) = (i0 : Int) := by rw [hi0]; exact (Int.natCast_mul y wd).symm
      have e2 : (i0 : Int) + (wd : Int) = (s : Int) := by omega
      have e3 : (s : Int) - 1 = (i1 : Int) := by omega
      have e4 : IntKind.i64.wrap ((y : Int) * (wd : Int)) = (i0 : Int) := by rw [e1]; exact IntWalk.i64_in _ (by omega)
      have e5 : IntKind.i64.wrap ((i0 : Int) + (wd : Int)) = (s : Int) := by rw [e2]; exact IntWalk.i64_in _ (by omega)
      have e6 : IntKind.i64.wrap ((s : Int) - 1) = (i1 : Int) := by rw [e3]; exact IntWalk.i64_in _ (by omega)
      obtain ⟨x, hx, x1⟩ := HCL.out i1 b1
      obtain ⟨z, hz, z1⟩ := HCL.out i0 b0
      have hxl : x < l.length := hin x (List.mem_of_getElem? hx)
      have hzl : z < l.length := hin z (List.mem_of_getElem? hz)
      obtain ⟨tx, htx, a1, a2, a3, a4⟩ := HTL.out x hxl
      obtain ⟨tz, htz, t1, t2, t3, t4⟩ := HTL.out z hzl
      have hro : rowOk l wd f y = decide (tx.right = tz.left) := by
        unfold rowOk
        rw [getD_of (by rw [← hi1]; exact hx), getD_of (by rw [← hi0]; exact hz), tileAt_of htx, tileAt_of htz]
      have HRO := Lib.hid hro
      replace x1 := (hbel.cell (p := ⟨bq, oq + i1, none⟩) hbq).trans x1
      replace z1 := (hbel.cell (p := ⟨bq, oq + i0, none⟩) hbq).trans z1
      replace a2 := (hbel.cell (p := ⟨b, off + x * 4 + 1, none⟩) hb).trans a2
      replace t4 := (hbel.cell (p := ⟨b, off + z * 4 + 3, none⟩) hb).trans t4
      clear hyw hyw2 hwh hi0 hi1 hs hx hz htx htz hro a1 a3 a4 t1 t2 t3
      by_cases hco : tx.right = tz.left
      · have f0 : (tx.right != tz.left) = false := by simpa using hco
        have hk2 := below_succ (P := fun j => rowOk l wd f j = true) HY.out (by rw [HRO.out]; exact decide_eq_true hco)
        have HY2 := Lib.hid hk2
        clear hco hk2
        go_wp2_with fail
        go_quiet (fail)
        have hbel2 := below_drewN hbel nq
        generalize wr.drewN nq = w2 at *
        clear e1 e2 e3 e4 e5 e6
        go_wp2
        go_roundw
        case rel => exact ⟨y + 1, by omega, by go_num, HY2, hbel2⟩
        case measure => simp [intOf]; omega
      · have f0 : (tx.right != tz.left) = true := by simpa using hco
        obtain rfl : R = false := by rw [HR.out]; exact closes_row hlt (by rw [HRO.out]; exact decide_eq_false hco)
        clear hco
        go_wp2_with fail
        go_quiet (fail)
        have hbel2 := below_drewN hbel nq
        go_wp2
        go_ret
        exact ⟨rfl, hbel2⟩
    · obtain rfl : y = h := by omega
      go_wp2
      obtain ⟨wo, hwo⟩ : ∃ wo : World, wo = wr := ⟨_, rfl⟩
      subst hwo
      obtain ⟨h', hh'⟩ : ∃ h', h' = y := ⟨_, rfl⟩
      go_loopw [10] (fun i wx => ∃ x : Nat, x ≤ wd ∧ i = .int .i64 x ∧ Hid (∀ j, j < x → colOk l wd y f j = true) ∧ Below w.heap.size w wx) (fun i _ => wd - (intOf i).toNat)
      case atStart => exact ⟨0, Nat.zero_le _, rfl, Lib.hid (fun j hj => absurd hj (by omega)), hbel⟩
      case round =>
        clear hbel
        obtain ⟨x, hxw, rfl, HX, hbel⟩ := hrel
        by_cases hlt2 : x < wd
        · have hyw : (y - 1 + 1) * wd = (y - 1) * wd + wd := Nat.succ_mul (y - 1) wd
          have hwh : y * wd = wd * y := Nat.mul_comm y wd
          have hy1 : y - 1 + 1 = y := by omega
          rw [hy1] at hyw
          obtain ⟨p, hp⟩ : ∃ p, p = y - 1 := ⟨_, rfl⟩
          obtain ⟨i0, hi0⟩ : ∃ i0, i0 = p * wd := ⟨_, rfl⟩
          obtain ⟨i1, hi1⟩ : ∃ i1, i1 = i0 + x := ⟨_, rfl⟩
          have hi0' : i0 = (y - 1) * wd := by rw [hi0, hp]
          have b0 : x < n := by rw [HN.out, hfl]; omega
          have b1 : i1 < n := by rw [HN.out, hfl]; omega
          have e1 : (y : Int) - 1 = (p : Int) := by omega
          have e2 : (p : Int) * (wd : Int) = (i0 : Int) := by rw [hi0]; exact (Int.natCast_mul p wd).symm
          have e3 : (i0 : Int) + (x : Int) = (i1 : Int) := by omega
          have e4 : IntKind.i64.wrap ((y : Int) - 1) = (p : Int) := by rw [e1]; exact IntWalk.i64_in _ (by omega)
          have e5 : IntKind.i64.wrap ((p : Int) * (wd : Int)) = (i0 : Int) := by rw [e2]; exact IntWalk.i64_in _ (by omega)
          have e6 : IntKind.i64.wrap ((i0 : Int) + (x : Int)) = (i1 : Int) := by rw [e3]; exact IntWalk.i64_in _ (by omega)
          obtain ⟨u, hu, u1⟩ := HCL.out i1 b1
          obtain ⟨z, hz, z1⟩ := HCL.out x b0
          have hul : u < l.length := hin u (List.mem_of_getElem? hu)
          have hzl : z < l.length := hin z (List.mem_of_getElem? hz)
          obtain ⟨tu, htu, a1, a2, a3, a4⟩ := HTL.out u hul
          obtain ⟨tz, htz, t1, t2, t3, t4⟩ := HTL.out z hzl
          have hro : colOk l wd y f x = decide (tu.bottom = tz.top) := by
            unfold colOk
            rw [getD_of (by rw [← hi0', ← hi1]; exact hu), getD_of hz, tileAt_of htu, tileAt_of htz]
          have HRO := Lib.hid hro
          replace u1 := (hbel.cell (p := ⟨bq, oq + i1, none⟩) hbq).trans u1
          replace z1 := (hbel.cell (p := ⟨bq, oq + x, none⟩) hbq).trans z1
          replace a3 := (hbel.cell (p := ⟨b, off + u * 4 + 2, none⟩) hb).trans a3
          replace t1 := (hbel.cell (p := ⟨b, off + z * 4, none⟩) hb).trans t1
          clear hyw hwh hi0 hi0' hi1 hp hy1 hu hz htu htz hro a1 a2 a4 t2 t3 t4
          by_cases hco : tu.bottom = tz.top
          · have f0 : (tu.bottom != tz.top) = false := by simpa using hco
            have hk2 := below_succ (P := fun j => colOk l wd y f j = true) HX.out (by rw [HRO.out]; exact decide_eq_true hco)
            have HX2 := Lib.hid hk2
            clear hco hk2
            go_wp2_with fail
            go_quiet (fail)
            have hbel2 := below_drewN hbel nq
            generalize wr.drewN nq = w2 at *
            clear e1 e2 e3 e4 e5 e6
            go_wp2
            go_roundw
            case rel => exact ⟨x + 1, by omega, by go_num, HX2, hbel2⟩
            case measure => simp [intOf]; omega
          · have f0 : (tu.bottom != tz.top) = true := by simpa using hco
            obtain rfl : R = false := by rw [HR.out]; exact closes_col hlt2 (by rw [HRO.out]; exact decide_eq_false hco)
            clear hco
            go_wp2_with fail
            go_quiet (fail)
            have hbel2 := below_drewN hbel nq
            go_wp2
            go_ret
            exact ⟨rfl, hbel2⟩
        · obtain rfl : x = wd := by omega
          obtain rfl : R = true := by rw [HR.out]; exact closes_yes HY.out HX.out
          go_wp2
          go_ret
          exact ⟨rfl, hbel⟩
end Go.Proofs.YtlfeognjnlppkaaDoor
