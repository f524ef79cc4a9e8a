
/-
  Shapes: the test of a shape: the walk of the program; whether a cell is there: both sides.
-/
import Derived.Test.YtdbneilhgckhjaaDoorShpA
import Derived.Deep.DeepCutAuto
namespace Go.Proofs.YtdbneilhgckhjaaDoor
open Go.RowKit

set_option maxRecDepth 100000 in
set_option maxHeartbeats 3200000 in
theorem impl_isShape_c {v : Value} {s : List Cell} (w : World) (h : CellsRd w 0 w.heap.size v s) (hn : s.length ≤ 1048576) :
    Calls Tryd.prog 92 #[v] w fun e w' => e = .returned (.bool (isShape s)) ∧ Below w.heap.size w w' := by
  obtain ⟨A, c, rfl, hm, hr⟩ := h
  obtain ⟨R, hR⟩ : ∃ R, R = isShape s := ⟨_, rfl⟩
  rw [← hR]
  have HNO : Hid (∀ i, i < s.length → okAt s i = false → R = false) := Lib.hid fun i hi h => by rw [hR]; exact isShape_no hi h
  have HYES : Hid ((∀ i, i < s.length → okAt s i = true) → R = inR s.length 1 8) := Lib.hid fun h => by rw [hR]; exact isShape_end h
  have HR := Lib.hid hr
  clear hR hr hm
  go_enter Tryd.func92, Tryd.ntmps92
  go_wp2
  go_loopw [7] (fun i wr => ∃ k : Nat, k ≤ s.length ∧ i = .int .i64 k ∧ Hid (∀ i, i < k → okAt s i = true) ∧ Below w.heap.size w wr) (fun i _ => s.length - (intOf i).toNat)
  case atStart => exact ⟨0, Nat.zero_le _, rfl, Lib.hid (fun i hi => absurd hi (by omega)), Below.refl _ _⟩
  case round =>
    obtain ⟨k, hk, rfl, HK, hbel0⟩ := hrel
    by_cases hlt : k < s.length
    · obtain ⟨b, off, hA, _, hb, hc⟩ := (HR.out.below hbel0 (Nat.le_refl _)).2 (by omega)
      subst hA
      obtain ⟨d, hla⟩ : ∃ d, s[k]? = some d := ⟨s[k], List.getElem?_eq_getElem hlt⟩
      have HL := Lib.hid hla
      have hbw : b < wr.heap.size := by have := hbel0.size; omega
      have q1 := hc _ _ (cc_at hla).1
      have q2 : wr.cell? ⟨b, off + k * 2 + 1, none⟩ = some (.int .i64 d.y) := by rw [Nat.add_assoc]; exact hc _ _ (cc_at hla).2
      have H := (Sep.start wr).box 73 #[.int .i64 d.x, .int .i64 d.y]
      have l1 := Later.cell (H.h0.cell 0) H.h0.lt
      have l2 := Later.cell (H.h0.cell 1) H.h0.lt
      simp at l1 l2
      have hbel := hbel0.trans (H.below.mono hbel0.size)
      have hbW : b < (wr.alloc (.cells #[.int .i64 d.x, .int .i64 d.y] 73)).heap.size := by have := H.size; omega
      cases hoc : okC d
      · have HOC := Lib.hid hoc
        clear hla hc H hbel0
        have hRe := HNO.out k hlt (okAt_out HL.out HOC.out)
        subst hRe
        go_upto_region 4 with fail
        generalize wr.alloc (.cells #[.int .i64 d.x, .int .i64 d.y] 73) = W at *
        refine wp_region_later (by kernel_rfl) (by kernel_rfl) ?_
        repeat (go_big_quiet_step ((go_at_call 120; exact Later.call (onBoard_c d _))))
        refine wpQuiet_nil ?_
        intro w3 hw3
        obtain ⟨u3, hu3⟩ := hw3
        subst hu3
        have hb3 := hbel.trans (u3.h.mono hbel.size)
        clear l1 l2
        generalize u3.w = w3 at *
        go_wp2
        go_ret
        exact ⟨rfl, hb3⟩
      have HOC := Lib.hid hoc
      by_cases hk0 : k = 0
      · have hd0 : decide ((0 : Int) < (k : Int)) = false := by simp; omega
        have hd1 : decide (0 < k) = false := by simp; omega
        have HK0 := Lib.hid hk0
        clear hla hc hk0 H hbel0
        have hk2 : ∀ i, i < k + 1 → okAt s i = true := fun i hi => by
          by_cases e : i = k
          · subst e; exact (by obtain rfl := HK0.out; exact okAt_first HL.out HOC.out)
          · exact HK.out i (by omega)
        have HK2 := Lib.hid hk2
        clear hk2
        go_upto_region 4 with fail
        generalize wr.alloc (.cells #[.int .i64 d.x, .int .i64 d.y] 73) = W at *
        refine wp_region_later (by kernel_rfl) (by kernel_rfl) ?_
        repeat (go_big_quiet_step ((go_at_call 120; exact Later.call (onBoard_c d _))))
        refine wpQuiet_nil ?_
        intro w3 hw3
        obtain ⟨u3, hu3⟩ := hw3
        subst hu3
        have hb3 := hbel.trans (u3.h.mono hbel.size)
        clear l1 l2
        generalize u3.w = w3 at *
        go_wp2
        go_roundw
        case rel => exact ⟨k + 1, by omega, by go_num, HK2, hb3⟩
        case measure => simp [intOf]; omega
      · have hd0 : decide ((0 : Int) < (k : Int)) = true := by simp; omega
        have hd1 : decide (0 < k) = true := by simp; omega
        obtain ⟨j, hj⟩ : ∃ j, k = j + 1 := ⟨k - 1, by omega⟩
        obtain ⟨p, hlp⟩ : ∃ p, s[j]? = some p := ⟨s[j], List.getElem?_eq_getElem (by omega)⟩
        have q3 : wr.cell? ⟨b, off + j * 2 + 1, none⟩ = some (.int .i64 p.y) := by rw [Nat.add_assoc]; exact hc _ _ (cc_at hlp).2
        have l3 := Later.cell ((H.below.cell (p := ⟨b, off + j * 2, none⟩) hbw).trans (hc _ _ (cc_at hlp).1)) hbW
        have l4 := Later.cell ((H.below.cell (p := ⟨b, off + j * 2 + 1, none⟩) hbw).trans q3) hbW
        have e1 : (k : Int) - 1 = (j : Int) := by omega
        have e2 : IntKind.i64.wrap ((k : Int) - 1) = (j : Int) := by rw [e1]; exact IntWalk.i64_in _ (by omega)
        have HJ := Lib.hid hj
        have HP := Lib.hid hlp
        have hjs : j < s.length := by omega
        cases hbf : befB p d
        · have HB := Lib.hid hbf
          clear hla hc hk0 hlp hj H hbel0 q3
          have hRe := HNO.out k hlt (by obtain rfl := HJ.out; rw [okAt_next HP.out HL.out HOC.out]; exact HB.out)
          subst hRe
          go_upto_region 4 with fail
          generalize wr.alloc (.cells #[.int .i64 d.x, .int .i64 d.y] 73) = W at *
          refine wp_region_later (by kernel_rfl) (by kernel_rfl) ?_
          repeat (go_big_quiet_step ((first | (go_at_call 120; exact Later.call (onBoard_c d _)) | (go_at_call 121; exact Later.call (impl_bef_c p d _)))))
          refine wpQuiet_nil ?_
          intro w3 hw3
          obtain ⟨u3, hu3⟩ := hw3
          subst hu3
          have hb3 := hbel.trans (u3.h.mono hbel.size)
          clear l1 l2
          generalize u3.w = w3 at *
          go_wp2
          go_ret
          exact ⟨rfl, hb3⟩
        · have HB := Lib.hid hbf
          clear hla hc hk0 hlp hj H hbel0 q3
          have hk2 : ∀ i, i < k + 1 → okAt s i = true := fun i hi => by
            by_cases e : i = k
            · subst e; exact (by obtain rfl := HJ.out; rw [okAt_next HP.out HL.out HOC.out]; exact HB.out)
            · exact HK.out i (by omega)
          have HK2 := Lib.hid hk2
          clear hk2
          go_upto_region 4 with fail
          generalize wr.alloc (.cells #[.int .i64 d.x, .int .i64 d.y] 73) = W at *
          refine wp_region_later (by kernel_rfl) (by kernel_rfl) ?_
          repeat (go_big_quiet_step ((first | (go_at_call 120; exact Later.call (onBoard_c d _)) | (go_at_call 121; exact Later.call (impl_bef_c p d _)))))
          refine wpQuiet_nil ?_
          intro w3 hw3
          obtain ⟨u3, hu3⟩ := hw3
          subst hu3
          have hb3 := hbel.trans (u3.h.mono hbel.size)
          clear l1 l2
          generalize u3.w = w3 at *
          go_wp2
          go_roundw
          case rel => exact ⟨k + 1, by omega, by go_num, HK2, hb3⟩
          case measure => simp [intOf]; omega
    · obtain rfl : k = s.length := by omega
      have hRe := HYES.out HK.out
      subst hRe
      go_wp2_with (go_at_call 65; refine (between_r _ _ _ _).mono ?_; rintro e w' ⟨rfl, rfl⟩)
      go_ret
      exact ⟨rfl, hbel0⟩
set_option maxRecDepth 100000 in
set_option maxHeartbeats 1600000 in
theorem spec_has2_c {v : Value} {l : List Cell} (x y : Int) (w : World) (h : CellsRd w 0 w.heap.size v l) (hl : l.length ≤ 1000000) :
    Calls Tryd.prog 72 #[v, .int .i64 x, .int .i64 y] w fun e w' => e = .returned (.bool (decide ((⟨x, y⟩ : Cell) ∈ l))) ∧ w = w' := by
  obtain ⟨A, c, rfl, hm, hr⟩ := h
  obtain ⟨R, hR⟩ : ∃ R, R = decide ((⟨x, y⟩ : Cell) ∈ l) := ⟨_, rfl⟩
  rw [← hR]
  have hyes : ∀ (k : Nat) (d : Cell), l[k]? = some d → d.x = x → d.y = y → R = true := fun k d hd h1 h2 => by
    rw [hR]
    exact decide_eq_true (by rw [← h1, ← h2]; exact List.mem_of_getElem? hd)
  have hno : (∀ (k : Nat) (d : Cell), k < l.length → l[k]? = some d → ¬ (d.x = x ∧ d.y = y)) → R = false := fun h => by
    rw [hR]
    refine decide_eq_false fun hm => ?_
    obtain ⟨k, hk, e⟩ := List.getElem_of_mem hm
    exact h k ⟨x, y⟩ hk (by rw [List.getElem?_eq_getElem hk, e]) ⟨rfl, rfl⟩
  have HY := Lib.hid hyes
  have HN := Lib.hid hno
  clear hR hyes hno
  go_enter Tryd.func72, Tryd.ntmps72
  go_wp2
  go_loopw [7] (fun i wr => ∃ k : Nat, k ≤ l.length ∧ i = .int .i64 k ∧ wr = w ∧ Hid (∀ (j : Nat) (d : Cell), j < k → l[j]? = some d → ¬ (d.x = x ∧ d.y = y))) (fun i _ => l.length - (intOf i).toNat)
  case atStart => exact ⟨0, Nat.zero_le _, rfl, rfl, Lib.hid fun j d h => absurd h (by omega)⟩
  case round =>
    obtain ⟨k, hk, rfl, rfl, HA⟩ := hrel
    by_cases hlt : k < l.length
    · obtain ⟨b, off, d, rfl, _, hb, hd, q1, q2⟩ := hr.at2 hlt
      have HD := Lib.hid hd
      clear hr hd
      by_cases hx : d.x = x
      · by_cases hy : d.y = y
        · have := HY.out k d HD.out hx hy
          subst this
          subst hx
          subst hy
          go_wp2
          go_ret
          exact ⟨rfl, rfl⟩
        · subst hx
          go_wp2
          go_roundw
          case rel => exact ⟨k + 1, by omega, by go_num, trivial, Lib.hid fun j d' hj hd' => by
            by_cases e : j = k
            · subst e; rw [HD.out] at hd'; injection hd' with hd'; subst hd'; exact fun h => hy h.2
            · exact HA.out j d' (by omega) hd'⟩
          case measure => simp [intOf]; omega
      · go_wp2
        go_roundw
        case rel => exact ⟨k + 1, by omega, by go_num, trivial, Lib.hid fun j d' hj hd' => by
          by_cases e : j = k
          · subst e; rw [HD.out] at hd'; injection hd' with hd'; subst hd'; exact fun h => hx h.1
          · exact HA.out j d' (by omega) hd'⟩
        case measure => simp [intOf]; omega
    · have hkn : k = l.length := by omega
      subst hkn
      have := HN.out HA.out
      subst this
      go_wp2
      go_ret
      exact ⟨rfl, rfl⟩

end Go.Proofs.YtdbneilhgckhjaaDoor
