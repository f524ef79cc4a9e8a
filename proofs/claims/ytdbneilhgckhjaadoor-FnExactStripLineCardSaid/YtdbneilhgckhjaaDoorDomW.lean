
/-
  Strips: the program's inner function of dominoWays.
-/
import Derived.Test.YtdbneilhgckhjaaDoorDomQ
import Derived.Test.YtdbneilhgckhjaaDoorSep
import Derived.Deep.DeepCutAuto
namespace Go.Proofs.YtdbneilhgckhjaaDoor
open Go.RowKit

abbrev fnDom (gw go gf : Nat) : Value := .func (.func 111) #[] #[.pointer (some ⟨gw, 0, none⟩), .pointer (some ⟨go, 0, none⟩), .pointer (some ⟨gf, 0, none⟩)]
structure DomAt (w : World) (wd gw go gf gr N : Nat) (tf : TypeId) (L : List Int) : Prop where
  bw : Blk w gw 3 #[.int .i64 wd]
  bo : Blk w go 24 #[.slice (some ⟨gr, 0, none⟩) N N]
  bf : Blk w gf tf #[fnDom gw go gf]
  br : Blk w gr 3 (ic L).toArray
  n1 : gr ≠ gw
  n2 : gr ≠ go
  n3 : gr ≠ gf
  len : L.length = N
theorem Only.trans {D : Nat → Prop} {w w1 w2 : World} (h1 : Only D w w1) (h2 : Only D w1 w2) : Only D w w2 := ⟨h2.os.trans h1.os, h2.tape.trans h1.tape, h2.output.trans h1.output, Nat.le_trans h1.size h2.size, fun b hb hd => (h2.block b (Nat.lt_of_lt_of_le hb h1.size) hd).trans (h1.block b hb hd)⟩
theorem Only.drew {D : Nat → Prop} {w w1 : World} (h : Only D w.drew w1) : Only D w w1 := (Only.of_below (below_drew (Below.refl _ _))).trans h
theorem DomAt.set {w : World} {wd gw go gf gr N : Nat} {tf : TypeId} {L : List Int} (H : DomAt w wd gw go gf gr N tf L) (i : Nat) (v : Int) : DomAt (w.setCell ⟨gr, i, none⟩ (.int .i64 v)) wd gw go gf gr N tf (L.set i v) :=
  ⟨H.bw.far H.n1.symm _, H.bo.far H.n2.symm _, H.bf.far H.n3.symm _, by
    have := Blk.set_ H.br i (.int .i64 v)
    rw [List.setIfInBounds_toArray, ic_set] at this
    exact this, H.n1, H.n2, H.n3, by rw [List.length_set]; exact H.len⟩
theorem DomAt.drew {w : World} {wd gw go gf gr N : Nat} {tf : TypeId} {L : List Int} (H : DomAt w wd gw go gf gr N tf L) : DomAt w.drew wd gw go gf gr N tf L := ⟨H.bw, H.bo, H.bf, H.br, H.n1, H.n2, H.n3, H.len⟩
def DomC (a wd gw go gf gr N : Nat) (tf : TypeId) (r : Nat) : Prop := ∀ (x d : Nat), x + r = wd → d < 2 ^ x → ∀ (w : World) (L : List Int), DomAt w wd gw go gf gr N tf L → (∀ v ∈ L, 0 ≤ v ∧ v + 2 ^ (r + 1) ≤ 1000) →
    Calls Tryd.prog 111 #[.int .i64 x, .int .i64 a, .int .i64 d, .pointer (some ⟨gw, 0, none⟩), .pointer (some ⟨go, 0, none⟩), .pointer (some ⟨gf, 0, none⟩)] w fun e w' => e = .returned (.tuple #[]) ∧ Only (fun b => b = gr) w w' ∧ DomAt w' wd gw go gf gr N tf (addO a.testBit r x d L)
set_option maxRecDepth 100000 in
set_option maxHeartbeats 1600000 in
theorem dom_end (a wd gw go gf gr N : Nat) (tf : TypeId) (hw : wd ≤ 4) (hN : N = 2 ^ wd) : DomC a wd gw go gf gr N tf 0 := by
  intro x d hx hd w L H HV
  obtain rfl : x = wd := by omega
  have k0 := H.bw.cell 0
  have k1 := H.bo.cell 0
  simp at k0 k1
  have hdN : d < L.length := by rw [H.len, hN]; exact hd
  obtain ⟨v, hv⟩ : ∃ v, L[d]? = some v := ⟨L[d], List.getElem?_eq_getElem hdN⟩
  have hb := HV v (List.mem_of_getElem? hv)
  have k2 : w.cell? ⟨gr, d, none⟩ = some (.int .i64 v) := by rw [H.br.cell, List.getElem?_toArray]; simp [ic, hv]
  have f2 := H.br.frozen d
  have hge : decide ((x : Int) ≤ (x : Int)) = true := by simp
  have hdN2 : d < N := by rw [hN]; exact hd
  have HE : Hid (addO a.testBit 0 x d L = L.set d (v + 1)) := Lib.hid (addO_end hv)
  have HS := Lib.hid (H.set d (v + 1))
  have hN16 : N ≤ 16 := by rw [hN]; exact Nat.pow_le_pow_right (by decide) hw
  obtain ⟨b1, b2⟩ := hb
  clear H HV hv hd hN hdN
  go_enter Tryd.func111, Tryd.ntmps111
  go_wp2
  refine bodyPost_end (results_none rfl _ _ _) rfl ?_
  exact ⟨rfl, Only.setCell _ _ _, by rw [HE.out]; exact HS.out⟩
set_option maxRecDepth 100000 in
set_option maxHeartbeats 1600000 in
theorem dom_full (a wd gw go gf gr N : Nat) (tf : TypeId) (hw : wd ≤ 4) (ha : a < 16) (r : Nat) (ih : DomC a wd gw go gf gr N tf r) (x d : Nat) (hx : x + (r + 1) = wd) (hd : d < 2 ^ x) (hF : a.testBit x = true) (w : World) (L : List Int) (H : DomAt w wd gw go gf gr N tf L) (HV : ∀ v ∈ L, 0 ≤ v ∧ v + 2 ^ (r + 1 + 1) ≤ 1000) :
    Calls Tryd.prog 111 #[.int .i64 x, .int .i64 a, .int .i64 d, .pointer (some ⟨gw, 0, none⟩), .pointer (some ⟨go, 0, none⟩), .pointer (some ⟨gf, 0, none⟩)] w fun e w' => e = .returned (.tuple #[]) ∧ Only (fun b => b = gr) w w' ∧ DomAt w' wd gw go gf gr N tf (addO a.testBit (r + 1) x d L) := by
  have k0 := H.bw.cell 0
  have k1 := H.bf.cell 0
  simp at k0 k1
  have y1 := bit_test (m := a) (x := x) (by omega)
  rw [hF] at y1
  have hx1 : decide ((wd : Int) ≤ (x : Int)) = false := decide_eq_false (by omega)
  have HI : Hid (Calls Tryd.prog 111 #[.int .i64 ((x : Int) + 1), .int .i64 a, .int .i64 d, .pointer (some ⟨gw, 0, none⟩), .pointer (some ⟨go, 0, none⟩), .pointer (some ⟨gf, 0, none⟩)] w fun e w' => e = .returned (.tuple #[]) ∧ Only (fun b => b = gr) w w' ∧ DomAt w' wd gw go gf gr N tf (addO a.testBit (r + 1) x d L)) := Lib.hid (by
    rw [addO_full hF]
    exact ih (x + 1) d (by omega) (by rw [Nat.pow_succ]; omega) w L H (fun v hv => by
      have := HV v hv
      have hp : (2 : Int) ^ (r + 1 + 1) = 2 ^ (r + 1) * 2 := Int.pow_succ 2 (r + 1)
      have hq : (0 : Int) < 2 ^ (r + 1) := Int.pow_pos (by decide)
      rw [hp] at this
      omega))
  have hx4 : x < 4 := by omega
  clear ih H HV hF hd
  go_enter Tryd.func111, Tryd.ntmps111
  go_wp2_with fail
  with_reducible refine (HI.out).mono ?_
  rintro e w' ⟨rfl, ho, hh⟩
  go_wp2
  refine bodyPost_end (results_none rfl _ _ _) rfl ?_
  exact ⟨rfl, ho, hh⟩
theorem or_small : ∀ x, x < 4 → ∀ d, d < 16 → bits .or .i64 ((d : Nat) : Int) (IntKind.i64.wrap (2 ^ x)) = ((d ||| 2 ^ x : Nat) : Int) := by decide +kernel
theorem or_lt {d x : Nat} (hd : d < 2 ^ x) : d ||| 2 ^ x < 2 ^ (x + 1) := Nat.or_lt_two_pow (Nat.lt_trans hd (Nat.pow_lt_pow_right (by decide) (by omega))) (Nat.pow_lt_pow_right (by decide) (by omega))
set_option maxRecDepth 100000 in
set_option maxHeartbeats 1600000 in
theorem dom_one (a wd gw go gf gr N : Nat) (tf : TypeId) (hw : wd ≤ 4) (ha : a < 16) (ih : DomC a wd gw go gf gr N tf 0) (x d : Nat) (hx : x + 1 = wd) (hd : d < 2 ^ x) (hF : a.testBit x = false) (w : World) (L : List Int) (H : DomAt w wd gw go gf gr N tf L) (HV : ∀ v ∈ L, 0 ≤ v ∧ v + 2 ^ (1 + 1) ≤ 1000) :
    Calls Tryd.prog 111 #[.int .i64 x, .int .i64 a, .int .i64 d, .pointer (some ⟨gw, 0, none⟩), .pointer (some ⟨go, 0, none⟩), .pointer (some ⟨gf, 0, none⟩)] w fun e w' => e = .returned (.tuple #[]) ∧ Only (fun b => b = gr) w w' ∧ DomAt w' wd gw go gf gr N tf (addO a.testBit 1 x d L) := by
  have k0 := H.bw.cell 0
  have k1 := H.bf.cell 0
  simp at k0 k1
  have y1 := bit_test (m := a) (x := x) (by omega)
  rw [hF] at y1
  have hx1 : decide ((wd : Int) ≤ (x : Int)) = false := decide_eq_false (by omega)
  have hx4 : x < 4 := by omega
  have hd16 : d < 16 := Nat.lt_of_lt_of_le hd (Nat.le_trans (Nat.pow_le_pow_right (by decide) (show x ≤ 4 by omega)) (by decide))
  have z1 : IntKind.i64.wrap ((x : Int) + 1) = ((x + 1 : Nat) : Int) := IntWalk.i64_in _ (by omega)
  have HI : Hid (Calls Tryd.prog 111 #[.int .i64 (IntKind.i64.wrap ((x : Int) + 1)), .int .i64 a, .int .i64 (bits .or .i64 (d : Int) (IntKind.i64.wrap (2 ^ x))), .pointer (some ⟨gw, 0, none⟩), .pointer (some ⟨go, 0, none⟩), .pointer (some ⟨gf, 0, none⟩)] w.drew fun e w' => e = .returned (.tuple #[]) ∧ Only (fun b => b = gr) w.drew w' ∧ DomAt w' wd gw go gf gr N tf (addO a.testBit 1 x d L)) := Lib.hid (by
    rw [z1, or_small x hx4 d hd16, addO_one hF]
    exact ih (x + 1) (d ||| 2 ^ x) (by omega) (or_lt hd) w.drew L H.drew (fun v hv => by have := HV v hv; simp at this ⊢; omega))
  have hx2 : decide ((x : Int) + 1 < (wd : Int)) = false := decide_eq_false (by omega)
  clear ih H HV hF hd z1
  go_enter Tryd.func111, Tryd.ntmps111
  go_wp2_with fail
  go_region_with ((refine (HI.out).mono ?_; rintro e w' ⟨rfl, ho, hh⟩; have k0' : w'.cell? ⟨gw, 0, none⟩ = some (.int .i64 wd) := hh.bw.cell 0))
  all_goals
    clear k0 k1
    go_wp2
    refine bodyPost_end (results_none rfl _ _ _) rfl ?_
    exact ⟨rfl, ho.drew, hh⟩
set_option maxRecDepth 100000 in
set_option maxHeartbeats 1600000 in
theorem dom_two (a wd gw go gf gr N : Nat) (tf : TypeId) (hw : wd ≤ 4) (ha : a < 16) (r : Nat) (ih1 : DomC a wd gw go gf gr N tf (r + 1)) (ih0 : DomC a wd gw go gf gr N tf r) (x d : Nat) (hx : x + (r + 2) = wd) (hd : d < 2 ^ x) (hF : a.testBit x = false) (w : World) (L : List Int) (H : DomAt w wd gw go gf gr N tf L) (HV : ∀ v ∈ L, 0 ≤ v ∧ v + 2 ^ (r + 2 + 1) ≤ 1000) :
    Calls Tryd.prog 111 #[.int .i64 x, .int .i64 a, .int .i64 d, .pointer (some ⟨gw, 0, none⟩), .pointer (some ⟨go, 0, none⟩), .pointer (some ⟨gf, 0, none⟩)] w fun e w' => e = .returned (.tuple #[]) ∧ Only (fun b => b = gr) w w' ∧ DomAt w' wd gw go gf gr N tf (addO a.testBit (r + 2) x d L) := by
  have k0 := H.bw.cell 0
  have k1 := H.bf.cell 0
  simp at k0 k1
  have y1 := bit_test (m := a) (x := x) (by omega)
  have y3 := bit_test0 (m := a) (x := x + 1) (by omega)
  rw [hF] at y1
  have hx1 : decide ((wd : Int) ≤ (x : Int)) = false := decide_eq_false (by omega)
  have hx4 : x < 4 := by omega
  have hd16 : d < 16 := Nat.lt_of_lt_of_le hd (Nat.le_trans (Nat.pow_le_pow_right (by decide) (show x ≤ 4 by omega)) (by decide))
  have z1 : IntKind.i64.wrap ((x : Int) + 1) = ((x + 1 : Nat) : Int) := IntWalk.i64_in _ (by omega)
  have hp1 : (2 : Int) ^ (r + 2 + 1) = 2 ^ (r + 1 + 1) * 2 := Int.pow_succ 2 (r + 2)
  have hp2 : (2 : Int) ^ (r + 1 + 1) = 2 ^ (r + 1) * 2 := Int.pow_succ 2 (r + 1)
  have hp3 : (0 : Int) < 2 ^ (r + 1) := Int.pow_pos (by decide)
  have HI : Hid (Calls Tryd.prog 111 #[.int .i64 (IntKind.i64.wrap ((x : Int) + 1)), .int .i64 a, .int .i64 (bits .or .i64 (d : Int) (IntKind.i64.wrap (2 ^ x))), .pointer (some ⟨gw, 0, none⟩), .pointer (some ⟨go, 0, none⟩), .pointer (some ⟨gf, 0, none⟩)] w.drew fun e w' => e = .returned (.tuple #[]) ∧ Only (fun b => b = gr) w.drew w' ∧ DomAt w' wd gw go gf gr N tf (addO a.testBit (r + 1) (x + 1) (d ||| 2 ^ x) L)) := Lib.hid (by
    rw [z1, or_small x hx4 d hd16]
    exact ih1 (x + 1) (d ||| 2 ^ x) (by omega) (or_lt hd) w.drew L H.drew (fun v hv => by
      have := HV v hv
      rw [hp1] at this
      omega))
  have hx2 : decide ((x : Int) + 1 < (wd : Int)) = true := decide_eq_true (by omega)
  have HJ : Hid (∀ w' : World, DomAt w' wd gw go gf gr N tf (addO a.testBit (r + 1) (x + 1) (d ||| 2 ^ x) L) → Calls Tryd.prog 111 #[.int .i64 ((x : Int) + 2), .int .i64 a, .int .i64 d, .pointer (some ⟨gw, 0, none⟩), .pointer (some ⟨go, 0, none⟩), .pointer (some ⟨gf, 0, none⟩)] w' fun e w'' => e = .returned (.tuple #[]) ∧ Only (fun b => b = gr) w' w'' ∧ DomAt w'' wd gw go gf gr N tf (addO a.testBit r (x + 2) d (addO a.testBit (r + 1) (x + 1) (d ||| 2 ^ x) L))) := Lib.hid fun w' h' =>
    ih0 (x + 2) d (by omega) (Nat.lt_of_lt_of_le hd (Nat.pow_le_pow_right (by decide) (by omega))) w' _ h' (fun v hv => by
      obtain ⟨c, hc⟩ := List.getElem?_of_mem hv
      rw [addO_at] at hc
      cases hL : L[c]? with
      | none => rw [hL] at hc; cases hc
      | some u =>
        rw [hL] at hc
        simp only [Option.map_some, Option.some.injEq] at hc
        have h1 := HV u (List.mem_of_getElem? hL)
        have h2 := outR_le (U := a.testBit) (r + 1) (r + 1) (Nat.le_refl _) (x + 1) (d ||| 2 ^ x) c
        have h3 : ((outR a.testBit (r + 1) (x + 1) (d ||| 2 ^ x) c : Nat) : Int) ≤ 2 ^ (r + 1) := by exact_mod_cast h2
        rw [hp1, hp2] at h1
        omega)
  clear ih1 ih0 H HV hd z1 hp1 hp2 hp3
  cases hU : a.testBit (x + 1)
  · rw [hU] at y3
    have HE := Lib.hid (addO_two (r := r) (d := d) (L := L) hF hU)
    clear hF hU
    go_enter Tryd.func111, Tryd.ntmps111
    go_wp2_with fail
    go_region_with ((refine (HI.out).mono ?_; rintro e w' ⟨rfl, ho, hh⟩; have k0' : w'.cell? ⟨gw, 0, none⟩ = some (.int .i64 wd) := hh.bw.cell 0; have k1' : w'.cell? ⟨gf, 0, none⟩ = some (fnDom gw go gf) := hh.bf.cell 0))
    all_goals
      clear k0 k1
      go_wp2_with fail
      with_reducible refine (HJ.out _ hh).mono ?_
      rintro e w2 ⟨rfl, ho2, hh2⟩
      go_wp2
      refine bodyPost_end (results_none rfl _ _ _) rfl ?_
      exact ⟨rfl, ho.drew.trans ho2, by rw [HE.out]; exact hh2⟩
  · rw [hU] at y3
    have HE := Lib.hid (addO_no (r := r) (d := d) (L := L) hF hU)
    clear hF hU
    go_enter Tryd.func111, Tryd.ntmps111
    go_wp2_with fail
    go_region_with ((refine (HI.out).mono ?_; rintro e w' ⟨rfl, ho, hh⟩; have k0' : w'.cell? ⟨gw, 0, none⟩ = some (.int .i64 wd) := hh.bw.cell 0))
    all_goals
      clear k0 k1
      go_wp2
      refine bodyPost_end (results_none rfl _ _ _) rfl ?_
      exact ⟨rfl, ho.drew, by rw [HE.out]; exact hh⟩
/-- the inner function, at any number of places left -/
theorem dom_c (a wd gw go gf gr N : Nat) (tf : TypeId) (hw : wd ≤ 4) (ha : a < 16) (hN : N = 2 ^ wd) : ∀ (n r : Nat), r ≤ n → DomC a wd gw go gf gr N tf r
  | 0, r, hr => by
    obtain rfl : r = 0 := by omega
    exact dom_end a wd gw go gf gr N tf hw hN
  | n + 1, 0, _ => dom_end a wd gw go gf gr N tf hw hN
  | n + 1, 1, _ => fun x d hx hd w L H HV => by
    cases hF : a.testBit x
    · exact dom_one a wd gw go gf gr N tf hw ha (dom_end a wd gw go gf gr N tf hw hN) x d hx hd hF w L H HV
    · exact dom_full a wd gw go gf gr N tf hw ha 0 (dom_end a wd gw go gf gr N tf hw hN) x d hx hd hF w L H HV
  | n + 1, r + 2, hr => fun x d hx hd w L H HV => by
    cases hF : a.testBit x
    · exact dom_two a wd gw go gf gr N tf hw ha r (dom_c a wd gw go gf gr N tf hw ha hN n (r + 1) (by omega)) (dom_c a wd gw go gf gr N tf hw ha hN n r (by omega)) x d hx hd hF w L H HV
    · exact dom_full a wd gw go gf gr N tf hw ha (r + 1) (dom_c a wd gw go gf gr N tf hw ha hN n (r + 1) (by omega)) x d hx hd hF w L H HV
end Go.Proofs.YtdbneilhgckhjaaDoor
