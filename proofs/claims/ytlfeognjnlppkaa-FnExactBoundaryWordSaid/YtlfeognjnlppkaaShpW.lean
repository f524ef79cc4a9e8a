
/-
  Shapes: the border word: the walk of the program.
-/
import Derived.Test.YtlfeognjnlppkaaShpU
import Derived.Test.YtlfeognjnlppkaaShpS
import Derived.Test.YtlfeognjnlppkaaShpO
import Derived.Test.YtlfeognjnlppkaaLater
import Derived.Deep.CutRange
import Derived.Lib.SlBytesConst
import Derived.Deep.DeepCutAuto
namespace Go.Proofs.Ytlfeognjnlppkaa
open Go.RowKit

set_option maxRecDepth 100000 in
theorem infoU8 : (Try.prog.info? 5).map (fun i => (i.zero, i.size, i.bytes)) = some (some (.int .u8 0), 1, 1) := by kernel_rfl
def uc (l : List UInt8) : List Value := l.map fun b => .int .u8 (b.toNat : Int)
theorem uc_append {l m : List UInt8} : uc (l ++ m) = uc l ++ uc m := by simp [uc]
theorem uc_length {l : List UInt8} : (uc l).length = l.length := by simp [uc]
theorem dirU_B {d : Nat} (hd : d < 4) : ((dirU d).toNat : Int) = dirB d := by
  have h4 : d = 0 ∨ d = 1 ∨ d = 2 ∨ d = 3 := by omega
  rcases h4 with rfl | rfl | rfl | rfl <;> rfl
set_option maxRecDepth 100000 in
set_option maxHeartbeats 6400000 in
theorem impl_bord_c {v : Value} {s : List Cell} (w : World) (h : CellsRd w 0 w.heap.size v s) (hn : s.length ≤ 1048576) :
    Calls Try.prog 8 #[v] w fun e w' => e = .returned (.tuple #[.string (wstr (bordW s)), .bool (bordOk s)]) ∧ Below w.heap.size w w' := by
  obtain ⟨A, c, rfl, hm, hr⟩ := id h
  have HS : Hid (CellsRd w 0 w.heap.size (.slice A s.length c) s) := Lib.hid h
  have keep : ∀ w1, Below w.heap.size w w1 → CellsRd w1 0 w1.heap.size (.slice A s.length c) s := fun w1 hb => (h.keep (SameIn.of_below hb (Nat.le_refl _))).more (Nat.le_refl _) hb.size
  have HC := Lib.hid (impl_conn_c w h hn)
  have HZ : Hid (∀ w1, Below w.heap.size w w1 → Calls Try.prog 26 #[.slice A s.length c] w1 fun e w' => e = .returned (.int .i64 (holesZ s)) ∧ Below w1.heap.size w1 w') := Lib.hid fun w1 hb => impl_holes_c w1 (keep w1 hb) hn
  have HP : Hid (isShape s = true → ∀ w1, Below w.heap.size w w1 → Calls Try.prog 27 #[.slice A s.length c] w1 fun e w' => e = .returned (.bool (pinS s)) ∧ Below w1.heap.size w1 w') := Lib.hid fun hs w1 hb => impl_pin_c w1 (keep w1 hb) (shp_len hs).2 (fun c hc => shp_on hs hc)
  obtain ⟨i0, hi, hz0, hz1, hz2⟩ := info_parts infoU8
  obtain ⟨R, hR⟩ : ∃ R, R = bordW s := ⟨_, rfl⟩
  obtain ⟨B, hB⟩ : ∃ B, B = bordOk s := ⟨_, rfl⟩
  rw [← hR, ← hB]
  have HR := Lib.hid hR
  have HB := Lib.hid hB
  have HRS := Lib.hid hr
  clear h hr hR hB keep hm
  go_enter Try.func8, Try.ntmps8
  go_wp2_with fail
  refine (HC.out).mono ?_
  rintro e w1 ⟨rfl, b1⟩
  clear HC
  cases hcn : connS s
  · have hb0 : bordOk s = false := by unfold bordOk; rw [hcn]; rfl
    obtain rfl : B = false := HB.out.trans hb0
    obtain rfl : R = [] := HR.out.trans (bordW_no hb0)
    clear hb0 hcn
    go_wp2
    go_ret2
    exact ⟨rfl, b1⟩
  have hsh : isShape s = true := by unfold connS at hcn; exact (Bool.and_eq_true _ _ ▸ hcn).1
  have HSH := Lib.hid hsh
  have HCN := Lib.hid hcn
  clear hcn hsh
  go_wp2_with fail
  refine (HZ.out _ b1).mono ?_
  rintro e w2 ⟨rfl, b2⟩
  have b3 := b1.trans (b2.mono b1.size)
  clear b1 b2 HZ
  by_cases hz : holesZ s = 0
  rotate_left
  · have hb0 : bordOk s = false := by unfold bordOk; rw [decide_eq_false hz, Bool.and_false]; rfl
    obtain rfl : B = false := HB.out.trans hb0
    obtain rfl : R = [] := HR.out.trans (bordW_no hb0)
    have z1 : decide (0 < holesZ s) = true := decide_eq_true (by
      have := hz
      unfold holesZ at this ⊢
      rw [HSH.out] at this ⊢
      simp only [if_true] at this ⊢
      omega)
    clear hb0 hz
    go_wp2
    go_ret2
    exact ⟨rfl, b3⟩
  rw [hz]
  go_wp2_with fail
  refine (HP.out HSH.out _ b3).mono ?_
  rintro e w4 ⟨rfl, b4⟩
  have b5 := b3.trans (b4.mono b3.size)
  clear b3 b4 HP
  cases hp : pinS s
  rotate_left
  · have hb0 : bordOk s = false := by unfold bordOk; rw [hp]; simp
    obtain rfl : B = false := HB.out.trans hb0
    obtain rfl : R = [] := HR.out.trans (bordW_no hb0)
    clear hb0 hp
    go_wp2
    go_ret2
    exact ⟨rfl, b5⟩
  have hb0 : bordOk s = true := by unfold bordOk; rw [HCN.out, hp, hz]; rfl
  obtain ⟨hl1, hl8⟩ := shp_len HSH.out
  obtain ⟨a, ha⟩ : ∃ a, s[0]? = some a := ⟨s[0], List.getElem?_eq_getElem (by omega)⟩
  obtain ⟨K, hbi⟩ := bord_ex HSH.out hp ha
  obtain rfl : B = true := HB.out.trans hb0
  have HRK : Hid (R = wrd s a K) := Lib.hid (HR.out.trans (bordW_yes hb0 ha hbi))
  have HBI := Lib.hid hbi
  have HA := Lib.hid ha
  obtain ⟨⟨a1, a2⟩, a3, a4⟩ := shp_on HSH.out (List.mem_of_getElem? ha)
  obtain ⟨b, off, hA, _, hb, hc⟩ := HRS.out.2 (by omega)
  subst hA
  have q0 : w4.cell? ⟨b, off, none⟩ = some (.int .i64 a.x) := (b5.cell (p := ⟨b, off, none⟩) hb).trans (by have := hc _ _ (cc_at HA.out).1; simpa using this)
  have q1 : w4.cell? ⟨b, off + 1, none⟩ = some (.int .i64 a.y) := (b5.cell (p := ⟨b, off + 1, none⟩) hb).trans (by have := hc _ _ (cc_at HA.out).2; simpa using this)
  have H0 := (((Sep.start w).step b5).box 50 #[.int .i64 a.x, .int .i64 a.y]).box 50 #[.int .i64 a.x, .int .i64 a.y]
  obtain ⟨g, hg⟩ : ∃ g, g = w4.heap.size := ⟨_, rfl⟩
  simp only [World.size_alloc] at H0
  rw [← hg] at H0
  clear hb0 hbi hp hz ha b5 hc
  go_wp2
  generalize (w4.alloc (.cells #[.int .i64 a.x, .int .i64 a.y] 50)).alloc (.cells #[.int .i64 a.x, .int .i64 a.y] 50) = W at *
  rw [← hg]
  clear hg q0 q1
  have H1 := H0.nil 5 1
  clear H0
  go_loopg [6] 82 (fun gk sv wr => ∃ (n : Nat), gk + n = 82 ∧ n ≤ K ∧ Sep w wr [Res.row sv 5 1 n (uc (wrd s a n)), Res.box (g + 1) 50 #[.int .i64 (wlk s a n).x, .int .i64 (wlk s a n).y], Res.box g 50 #[.int .i64 a.x, .int .i64 a.y]])
  case atStart => exact ⟨0, rfl, Nat.zero_le _, H1⟩
  case round =>
    clear H1
    obtain ⟨n, hgk, hnK, H⟩ := hrel
    obtain ⟨P, hP⟩ : ∃ P, P = wlk s a n := ⟨_, rfl⟩
    obtain ⟨Q, hQ⟩ : ∃ Q, Q = wlk s a (n + 1) := ⟨_, rfl⟩
    obtain ⟨⟨p1, p2⟩, p3, p4⟩ := HBI.out.bord.on_ n
    have HED := HBI.out.bord.edg n
    rw [← hP] at H p1 p2 p3 p4 HED
    have HED := Lib.hid HED
    have HQS : Hid (∀ i, outD s P = i → Q = stepC P i) := Lib.hid fun i hi => by rw [hQ, ← hi, hP]; rfl
    have HWS : Hid (∀ i, outD s P = i → wrd s a (n + 1) = wrd s a n ++ [dirU i]) := Lib.hid fun i hi => by rw [← hi, hP]; exact wrd_succ
    have HQE : Hid (Q = wlk s a (n + 1)) := Lib.hid hQ
    have HPE : Hid (P = wlk s a n) := Lib.hid hP
    have hK81 := HBI.out.hi
    have hK1 := HBI.out.lo
    clear hP hQ
    obtain ⟨As, cs, rfl, _, _, _⟩ := Res.row_at H.h0
    have k0 : wr.cell? ⟨g + 1, 0, none⟩ = some (.int .i64 P.x) := H.h1.cell 0
    have k1 : wr.cell? ⟨g + 1, 1, none⟩ = some (.int .i64 P.y) := H.h1.cell 1
    have k2 : wr.cell? ⟨g, 0, none⟩ = some (.int .i64 a.x) := H.h2.cell 0
    have k3 : wr.cell? ⟨g, 1, none⟩ = some (.int .i64 a.y) := H.h2.cell 1
    by_cases hK : n = K
    · subst hK
      obtain rfl : P = a := HPE.out.trans HBI.out.home
      obtain ⟨b', off', c', hv, _, _, _⟩ := own_shape H.h0 (by omega)
      injection hv with hv1 hv2 hv3
      subst hv1 hv3
      have hcv : (convert 56 9 (.slice (some ⟨b', off', none⟩) n cs)).run Try.prog wr = .ok (.string (wstr (wrd s P n))) wr := by
        have := run_convert_bytes_back (P := Try.prog) wr _ _ _ ⟨b', off', none⟩ cs (wrd s P n) Try.underlying56 Try.underlying5 Try.underlying9 (fun j hj => by
          have := own_cell H.h0 (j := j) (u := .int .u8 ((wrd s P n)[j].toNat : Int)) (by simp [uc, List.getElem?_eq_getElem hj])
          unfold Addr.add
          split
          · rename_i e
            subst e
            simpa using this
          · exact this)
        rw [wrd_len] at this
        exact this
      have n1 : ((n : Int) == 0) = false := by simp; omega
      have hbel := H.below
      clear hv2
      go_wp2
      go_ret2
      exact ⟨by rw [HRK.out]; rfl, hbel⟩
    · have hn0 : n < K := by omega
      go_upto_region 6 with fail
      go_cut [32] from 25 to 32 (fun cv wx => cv = .bool true ∧ wx = wr)
      case first =>
        by_cases hz : n = 0
        · subst hz
          go_wp2_with fail
          go_meet
          case rel => exact ⟨rfl, rfl⟩
        · have n1 : ((n : Int) == 0) = false := by simp; omega
          have hne : P ≠ a := fun e => HBI.out.away n (by omega) hn0 (HPE.out.symm.trans e)
          by_cases ex : P.x = a.x
          · have ey : ¬ P.y = a.y := fun ey => hne (by obtain ⟨px, py⟩ := P; obtain ⟨ax, ay⟩ := a; simp only at ex ey; rw [ex, ey])
            clear hne
            go_wp2_with fail
            go_meet
            case rel => exact ⟨rfl, rfl⟩
          · clear hne
            go_wp2_with fail
            go_meet
            case rel => exact ⟨rfl, rfl⟩
      case rest =>
      obtain ⟨rfl, rfl⟩ := hcut
      clear k0 k1 k2 k3
      obtain ⟨O, hO⟩ : ∃ O : Obj, O = .cells #[.int .u8 114, .int .u8 100, .int .u8 108, .int .u8 117] 5 (4, 5) := ⟨_, rfl⟩
      have H1 := (H.new (r := Res.obj wc.heap.size O) ((Below.refl _ _).alloc (Nat.le_refl _) O) (by show (wc.heap.push O)[wc.heap.size]? = some O; simp) (fun b hb => by have hb : b = wc.heap.size := hb; omega)).p3
      obtain ⟨gb, hgb⟩ : ∃ gb, gb = wc.heap.size := ⟨_, rfl⟩
      have hcs := fun (w : World) (C : Array Value) (n c : Nat) => Lib.run_convert_bytes_const (P := Try.prog) w 56 5 C n c Try.underlying56 Try.underlying5
      have HOO := Lib.hid hO
      clear hO
      clear H
      go_wp2
      rw [← hgb] at H1 ⊢
      clear hcs
      rw [show (Obj.cells #[.int .u8 114, .int .u8 100, .int .u8 108, .int .u8 117] 5 (4, 5)) = O from HOO.out.symm]
      generalize wc.alloc O = W2 at *
      clear hgb
      go_loopw [6, 36] (fun sv iv wr => ∃ i : Nat, i ≤ 4 ∧ sv = .slice As n cs ∧ iv = .int .i64 i ∧ Hid (∀ u, u < i → edge s P u = false) ∧ Sep w wr [Res.row (.slice As n cs) 5 1 n (uc (wrd s a n)), Res.box (g + 1) 50 #[.int .i64 P.x, .int .i64 P.y], Res.box g 50 #[.int .i64 a.x, .int .i64 a.y], Res.obj gb O]) (fun _ iv _ => 4 - (intOf iv).toNat)
      case atStart => exact ⟨0, by omega, rfl, rfl, Lib.hid (fun u h => by omega), H1⟩
      case round =>
        clear H1
        obtain ⟨i, hi4, rfl, rfl, HNE, H⟩ := hrel
        by_cases hi3 : i < 4
        · obtain ⟨D, hD⟩ : ∃ D, D = dirB i := ⟨_, rfl⟩
          have q0 : wr.cell? ⟨gb, i, none⟩ = some (.int .u8 D) := by
            have hh : wr.heap[gb]? = some O := H.h3
            rw [HOO.out] at hh
            unfold World.cell?
            simp only [hh]
            rw [hD]
            have h4 : i = 0 ∨ i = 1 ∨ i = 2 ∨ i = 3 := by omega
            rcases h4 with rfl | rfl | rfl | rfl <;> rfl
          have hbw := H.below
          obtain ⟨bE, hbE⟩ : ∃ bE, bE = edge s P i := ⟨_, rfl⟩
          have HE : Hid (Calls Try.prog 28 #[.slice (some ⟨b, off, none⟩) s.length c, .agg #[.int .i64 P.x, .int .i64 P.y], .int .u8 D] wr fun e' w' => e' = .returned (.bool bE) ∧ Below wr.heap.size wr w') := Lib.hid (by
            rw [hbE, hD]
            exact impl_side_c P i wr ((HS.out.keep (SameIn.of_below hbw (Nat.le_refl _))).more (Nat.le_refl _) hbw.size) hl8 hi3 (by omega) (by omega))
          have k0 : wr.cell? ⟨g + 1, 0, none⟩ = some (.int .i64 P.x) := H.h1.cell 0
          have k1 : wr.cell? ⟨g + 1, 1, none⟩ = some (.int .i64 P.y) := H.h1.cell 1
          have HBE := Lib.hid hbE
          have HDD := Lib.hid hD
          clear hbE hD hbw
          cases bE
          · have HN2 : Hid (∀ u, u < i + 1 → edge s P u = false) := Lib.hid fun u h1 => by
              by_cases e' : u = i
              · subst e'; exact HBE.out.symm
              · exact HNE.out u (by omega)
            go_wp2_with fail
            with_reducible refine (HE.out).mono ?_
            rintro e' w6 ⟨rfl, b6⟩
            have H6 := H.step b6
            clear H b6 k0 k1 HE q0
            go_wp2
            go_roundw
            case rel => exact ⟨i + 1, by omega, rfl, by go_num, HN2, H6⟩
            case measure => simp [intOf]; omega
          · have HO : Hid (outD s P = i) := Lib.hid (outD_is HBI.out.bord.free hi3 HBE.out.symm)
            have HST : Hid (∀ w', Calls Try.prog 29 #[.agg #[.int .i64 P.x, .int .i64 P.y], .int .u8 D] w' fun e w'' => e = .returned (.tuple #[.agg #[.int .i64 Q.x, .int .i64 Q.y], .bool true]) ∧ Below w'.heap.size w' w'') := Lib.hid fun w' => by
              rw [HQS.out i HO.out, HDD.out]
              exact impl_step_c P i w' hi3 (by omega) (by omega)
            go_wp2_with fail
            with_reducible refine (HE.out).mono ?_
            rintro e' w6 ⟨rfl, b6⟩
            have H6 := H.step b6
            clear H b6 k0 k1 HE q0
            go_wp2_with (at_builtin; refine wpList_append_own_at _ rfl _ _ 56 rfl 0 5 i0 _ 1 1 Try.underlying56 hi hz0 hz1 hz2 rfl (by decide) _ _ _ rfl (H6.alloc _).h0 ⟨w6.heap.size, 0, none⟩ 1 1 [.int .u8 D] rfl rfl (news_alloc w6 #[.int .u8 D] _) (by intro u hu; simp at hu; subst hu; rfl) (by unfold maxLen; omega) (by omega) (Nat.zero_le _) ?_; intro s' w7 how hgrow _ hat; have H7 := (H6.alloc (.cells #[.int .u8 D] 5)).app how hgrow hat; clear how hgrow hat H6; have k0 : w7.cell? ⟨g + 1, 0, none⟩ = some (.int .i64 P.x) := H7.h1.cell 0; have k1 : w7.cell? ⟨g + 1, 1, none⟩ = some (.int .i64 P.y) := H7.h1.cell 1)
            with_reducible refine (HST.out _).mono ?_
            rintro e' w8 ⟨rfl, b8⟩
            have H8 := H7.step b8
            have f0 := H8.h1.frozen 0
            have f1 := H8.h1.frozen 1
            have k0' : w8.cell? ⟨g + 1, 0, none⟩ = some (.int .i64 P.x) := H8.h1.cell 0
            have k1' : w8.cell? ⟨g + 1, 1, none⟩ = some (.int .i64 P.y) := H8.h1.cell 1
            have H9 := (((H8.g1.set_ 0 (.int .i64 Q.x)).set_ 1 (.int .i64 Q.y)).p1.g3.drop)
            clear H7 b8 H8 k0 k1 HST
            go_wp2
            clear f0 f1 k0' k1'
            have H10 : Sep w ((w8.setCell ⟨g + 1, 0, none⟩ (.int .i64 Q.x)).setCell ⟨g + 1, 1, none⟩ (.int .i64 Q.y)) [Res.row s' 5 1 (n + 1) (uc (wrd s a (n + 1))), Res.box (g + 1) 50 #[.int .i64 (wlk s a (n + 1)).x, .int .i64 (wlk s a (n + 1)).y], Res.box g 50 #[.int .i64 a.x, .int .i64 a.y]] := by
              rw [← HQE.out, HWS.out i HO.out, uc_append, show uc [dirU i] = [.int .u8 D] by rw [HDD.out]; simp [uc, dirU_B hi3]]
              exact H9
            go_roundg (gk - 1)
            case rel => exact ⟨n + 1, by omega, by omega, H10⟩
            case measure => omega
        · exfalso
          have h4 := HNE.out (outD s P) (by have := outD_lt s P; omega)
          rw [HED.out] at h4
          cases h4
end Go.Proofs.Ytlfeognjnlppkaa
