
/-
  The walks of 'FormatEdits': the program's and the reference's.
-/
import Derived.Test.YtjmeplchabehfaaDoorFmtDig
import Derived.Test.YtjmeplchabehfaaDoorLawEds
import Derived.Test.YtjmeplchabehfaaDoorLater
import Derived.Lib.Strings
namespace Go.Proofs.YtjmeplchabehfaaDoor
open Go.RowKit

def inF (a b c : Int) : Bool := decide (b ≤ a) && decide (a ≤ c)
theorem inF_t {a b c : Int} (h1 : b ≤ a) (h2 : a ≤ c) : inF a b c = true := by simp [inF, h1, h2]
theorem inF_f {a b c : Int} (h : ¬ (b ≤ a ∧ a ≤ c)) : inF a b c = false := by simp [inF]; omega
set_option maxRecDepth 100000 in
theorem between_f (a b c : Int) (w : World) : Calls Tryd.prog 21 #[.int .i64 a, .int .i64 b, .int .i64 c] w fun e w' => e = .returned (.bool (inF a b c)) ∧ w = w' := between_any a b c w
set_option maxRecDepth 100000 in
theorem l1In_f (a b c : Int) (w : World) : Calls Tryd.prog 18 #[.int .i64 a, .int .i64 b, .int .i64 c] w fun e w' => e = .returned (.bool (inF a b c)) ∧ w = w' := l1In_any a b c w

def okEd (e : Ed) : Bool := inF e.x 0 5 && inF e.y 0 5
def signB (b : Bool) : ByteArray := if b then ⟨#[43]⟩ else ⟨#[45]⟩
theorem signB_size (b : Bool) : (signB b).size = 1 := by cases b <;> rfl
def putEd (s : ByteArray) (e : Ed) : ByteArray := s ++ ((signB e.add ++ dgt e.x) ++ dgt e.y)
def fmtTo (l : List Ed) : Nat → ByteArray
  | 0 => ⟨#[]⟩
  | k + 1 => putEd (if 0 < k then fmtTo l k ++ ⟨#[44]⟩ else fmtTo l k) (l.getD k ⟨false, 0, 0⟩)
def noneB : ByteArray := ⟨#[110, 111, 110, 101]⟩
def fmtEds (l : List Ed) : ByteArray := if l = [] then noneB else if decide (l.length ≤ 40) && l.all okEd then fmtTo l l.length else ⟨#[]⟩
theorem putEd_size {s : ByteArray} {e : Ed} : (putEd s e).size = s.size + 3 := by
  simp [putEd, ByteArray.size_append, signB_size, dgt_size]
theorem fmtTo_size {l : List Ed} : ∀ k, k ≤ (fmtTo l k).size ∧ (fmtTo l k).size ≤ 4 * k
  | 0 => ⟨Nat.zero_le _, Nat.le_refl _⟩
  | k + 1 => by
    have ih := fmtTo_size (l := l) k
    unfold fmtTo
    rw [putEd_size]
    split
    · rw [ByteArray.size_append]
      have : (⟨#[44]⟩ : ByteArray).size = 1 := rfl
      omega
    · omega
theorem fmtTo_succ {l : List Ed} {k : Nat} {e : Ed} (h : l[k]? = some e) : fmtTo l (k + 1) = putEd (if 0 < k then fmtTo l k ++ ⟨#[44]⟩ else fmtTo l k) e := by
  rw [fmtTo, List.getD, h]; rfl
theorem fmt_no {l : List Ed} (h : l ≠ []) (h2 : 40 < l.length ∨ ∃ (k : Nat) (e : Ed), l[k]? = some e ∧ okEd e = false) : fmtEds l = ⟨#[]⟩ := by
  unfold fmtEds
  rw [if_neg h, if_neg]
  rw [Bool.and_eq_true, decide_eq_true_eq, List.all_eq_true]
  rintro ⟨h3, h4⟩
  rcases h2 with h2 | ⟨k, e, he, ho⟩
  · omega
  · have := h4 e (List.mem_of_getElem? he); rw [ho] at this; cases this
theorem fmt_yes {l : List Ed} (h : l ≠ []) (h2 : l.length ≤ 40) (h3 : ∀ (k : Nat) (e : Ed), k < l.length → l[k]? = some e → okEd e = true) : fmtEds l = fmtTo l l.length := by
  unfold fmtEds
  rw [if_neg h, if_pos]
  rw [Bool.and_eq_true, decide_eq_true_eq, List.all_eq_true]
  refine ⟨h2, fun e he => ?_⟩
  obtain ⟨k, hk, rfl⟩ := List.getElem_of_mem he
  exact h3 k _ hk (List.getElem?_eq_getElem hk)
theorem ba_assoc (a b c : ByteArray) : a ++ b ++ c = a ++ (b ++ c) := ByteArray.append_assoc

set_option maxRecDepth 100000 in
set_option maxHeartbeats 3200000 in
theorem impl_fmtEds_c {v : Value} {l : List Ed} (w : World) (h : EdsRd w 0 w.heap.size v l) (hn : l.length ≤ 1048576) :
    Calls Tryd.prog 9 #[v] w fun e w' => e = .returned (.string (fmtEds l)) ∧ Below w.heap.size w w' := by
  obtain ⟨A, c, rfl, _, hr⟩ := h
  obtain ⟨R, hR⟩ : ∃ R, R = fmtEds l := ⟨_, rfl⟩
  rw [← hR]
  by_cases hl0 : l = []
  · subst hl0
    have : R = noneB := by rw [hR]; rfl
    subst this
    clear hR hr
    go_enter Tryd.func9, Tryd.ntmps9
    go_wp2
    go_ret
    exact ⟨rfl, Below.refl _ _⟩
  · have hlp : 0 < l.length := List.length_pos_iff.2 hl0
    have hno : (40 < l.length ∨ ∃ (k : Nat) (e : Ed), l[k]? = some e ∧ okEd e = false) → R = ⟨#[]⟩ := fun h => by rw [hR]; exact fmt_no hl0 h
    have hyes : l.length ≤ 40 → (∀ (k : Nat) (e : Ed), k < l.length → l[k]? = some e → okEd e = true) → R = fmtTo l l.length := fun h h2 => by rw [hR]; exact fmt_yes hl0 h h2
    have HNO := Lib.hid hno
    have HYES := Lib.hid hyes
    have hz : ((l.length : Int) == 0) = false := by simp; omega
    clear hno hyes hR hl0
    go_enter Tryd.func9, Tryd.ntmps9
    go_wp2
    clear hz
    go_loopw [3, 12] (fun s i wr => ∃ k : Nat, k ≤ l.length ∧ i = .int .i64 k ∧ s = .string (fmtTo l k) ∧ Hid (k ≠ 0 → l.length ≤ 40) ∧ Hid (∀ (j : Nat) (e : Ed), j < k → l[j]? = some e → okEd e = true) ∧ Below w.heap.size w wr) (fun _ i _ => l.length - (intOf i).toNat)
    case atStart => exact ⟨0, Nat.zero_le _, rfl, rfl, Lib.hid (fun h => absurd rfl h), Lib.hid (fun j e h => absurd h (by omega)), Below.refl _ _⟩
    case round =>
      obtain ⟨k, hk, rfl, rfl, HF, HA, hbel⟩ := hrel
      by_cases hlt : k < l.length
      · obtain ⟨b, off, e, rfl, _, hb, hla, q1, q2, q3⟩ := (hr.below hbel (Nat.le_refl _)).at3 hlt
        have HL := Lib.hid hla
        have hbox : Below w.heap.size w (wr.alloc (.cells #[.bool e.add, .int .i64 e.x, .int .i64 e.y] 40)) := hbel.trans (((Below.refl _ _).alloc (Nat.le_refl _) _).mono hbel.size)
        have H := (Sep.start wr).box 40 #[.bool e.add, .int .i64 e.x, .int .i64 e.y]
        clear hr hla hb
        by_cases h40 : 40 < l.length
        · have hd : decide ((40 : Int) < (l.length : Int)) = true := by simp; omega
          have hRe := HNO.out (.inl h40)
          subst hRe
          go_wp2
          go_ret
          exact ⟨rfl, hbox⟩
        · have hd : decide ((40 : Int) < (l.length : Int)) = false := by simp; omega
          by_cases hx : 0 ≤ e.x ∧ e.x ≤ 5
          · have p1 := inF_t hx.1 hx.2
            by_cases hy : 0 ≤ e.y ∧ e.y ≤ 5
            · have p2 := inF_t hy.1 hy.2
              have hs := (fmtTo_size (l := l) k).2
              have hst := fmtTo_succ HL.out
              have HS := Lib.hid hst
              have hko : okEd e = true := by rw [okEd, p1, p2]; rfl
              have HO := Lib.hid hko
              have hs1 : (fmtTo l k).size ≤ 160 := by omega
              have hS1 : (if 0 < k then fmtTo l k ++ ⟨#[44]⟩ else fmtTo l k).size ≤ 161 := by
                split
                · rw [ByteArray.size_append]; have : (⟨#[44]⟩ : ByteArray).size = 1 := rfl; omega
                · omega
              obtain ⟨ad, ex, ey⟩ := e
              dsimp only at q1 q2 q3 hx hy p1 p2 H hbox
              clear hst hko hs hs1 hS1
              have hfin : ∀ (sg S : ByteArray) (W : World), sg = signB ad → S = (if 0 < k then fmtTo l k ++ ⟨#[44]⟩ else fmtTo l k) → Below w.heap.size w W → ∃ k' : Nat, k' ≤ l.length ∧ Value.int .i64 ((k : Int) + 1) = .int .i64 k' ∧ Value.string (S ++ (sg ++ dgt ex ++ dgt ey)) = .string (fmtTo l k') ∧ Hid (k' ≠ 0 → l.length ≤ 40) ∧ Hid (∀ (j : Nat) (e : Ed), j < k' → l[j]? = some e → okEd e = true) ∧ Below w.heap.size w W := by
                intro sg S W hg hS hW
                subst hg
                refine ⟨k + 1, by omega, by go_num, by rw [HS.out, hS]; rfl, Lib.hid (fun _ => by omega), Lib.hid fun j d hj hd' => ?_, hW⟩
                by_cases ej : j = k
                · subst ej; rw [HL.out] at hd'; injection hd' with hd'; subst hd'; exact HO.out
                · exact HA.out j d (by omega) hd'
              have HFIN := Lib.hid hfin
              have hs1 : (fmtTo l k).size ≤ 160 := by have := (fmtTo_size (l := l) k).2; omega
              have z1 : (dgt ex).size ≤ 1 := Nat.le_refl _
              have z2 : (dgt ey).size ≤ 1 := Nat.le_refl _
              clear hfin HS HO HA HF HL HNO HYES
              cases ad
              all_goals
                by_cases hk0 : 0 < k
                · have hdk : decide ((0 : Int) < (k : Int)) = true := by simp; omega
                  go_wp2_with (go_at_call 21; refine (between_f _ _ _ _).mono ?_; rintro e w' ⟨rfl, rfl⟩)
                  have l1 := Later.cell (H.h0.cell 1) H.h0.lt
                  have l2 := Later.cell (H.h0.cell 2) H.h0.lt
                  simp at l1 l2
                  generalize wr.alloc (.cells #[.bool _, .int .i64 ex, .int .i64 ey] 40) = W at *
                  refine wp_region_later (by kernel_rfl) (by kernel_rfl) ?_
                  repeat (go_big_quiet_step ((go_at_call 22; exact Later.same (impl_dig_c _ _ (by omega) (by omega)))))
                  refine wpQuiet_nil ?_
                  intro w3 hw3
                  obtain ⟨u3, hu3⟩ := hw3
                  subst hu3
                  have hb3 := hbox.trans (u3.h.mono hbox.size)
                  clear l1 l2 q1 q2 q3
                  generalize u3.w = w3 at *
                  go_wp2
                  go_roundw
                  case rel => exact HFIN.out _ _ _ rfl (by simp [hk0]) hb3
                  case measure => simp [intOf]; omega
                · have hdk : decide ((0 : Int) < (k : Int)) = false := by simp; omega
                  go_wp2_with (go_at_call 21; refine (between_f _ _ _ _).mono ?_; rintro e w' ⟨rfl, rfl⟩)
                  have l1 := Later.cell (H.h0.cell 1) H.h0.lt
                  have l2 := Later.cell (H.h0.cell 2) H.h0.lt
                  simp at l1 l2
                  generalize wr.alloc (.cells #[.bool _, .int .i64 ex, .int .i64 ey] 40) = W at *
                  refine wp_region_later (by kernel_rfl) (by kernel_rfl) ?_
                  repeat (go_big_quiet_step ((go_at_call 22; exact Later.same (impl_dig_c _ _ (by omega) (by omega)))))
                  refine wpQuiet_nil ?_
                  intro w3 hw3
                  obtain ⟨u3, hu3⟩ := hw3
                  subst hu3
                  have hb3 := hbox.trans (u3.h.mono hbox.size)
                  clear l1 l2 q1 q2 q3
                  generalize u3.w = w3 at *
                  go_wp2
                  go_roundw
                  case rel => exact HFIN.out _ _ _ rfl (by simp [hk0]) hb3
                  case measure => simp [intOf]; omega
            · have p2 := inF_f hy
              have hRe := HNO.out (.inr ⟨k, e, HL.out, by rw [okEd, p2, Bool.and_false]⟩)
              subst hRe
              go_wp2_with (go_at_call 21; refine (between_f _ _ _ _).mono ?_; rintro e w' ⟨rfl, rfl⟩)
              go_ret
              exact ⟨rfl, hbox⟩
          · have p1 := inF_f hx
            have hRe := HNO.out (.inr ⟨k, e, HL.out, by rw [okEd, p1, Bool.false_and]⟩)
            subst hRe
            go_wp2_with (go_at_call 21; refine (between_f _ _ _ _).mono ?_; rintro e w' ⟨rfl, rfl⟩)
            go_ret
            exact ⟨rfl, hbox⟩
      · obtain rfl : k = l.length := by omega
        have hRe := HYES.out (HF.out (by omega)) HA.out
        subst hRe
        go_wp2
        go_ret
        exact ⟨rfl, hbel⟩
set_option maxRecDepth 100000 in
set_option maxHeartbeats 3200000 in
theorem spec_fmtEds_c {v : Value} {l : List Ed} (w : World) (h : EdsRd w 0 w.heap.size v l) (hn : l.length ≤ 1048576) :
    Calls Tryd.prog 7 #[v] w fun e w' => e = .returned (.string (fmtEds l)) ∧ Below w.heap.size w w' := by
  obtain ⟨A, c, rfl, _, hr⟩ := h
  obtain ⟨R, hR⟩ : ∃ R, R = fmtEds l := ⟨_, rfl⟩
  rw [← hR]
  by_cases hl0 : l = []
  · subst hl0
    have : R = noneB := by rw [hR]; rfl
    subst this
    clear hR hr
    go_enter Tryd.func7, Tryd.ntmps7
    go_wp2
    go_loopw [3, 4] (fun s i wr => i = .int .i64 0 ∧ s = .string ⟨#[]⟩ ∧ wr = w) (fun _ _ _ => 0)
    case atStart => exact ⟨rfl, rfl, rfl⟩
    case round =>
      obtain ⟨rfl, rfl, rfl⟩ := hrel
      go_wp2
      go_ret
      exact ⟨rfl, Below.refl _ _⟩
  · have hlp : 0 < l.length := List.length_pos_iff.2 hl0
    have hno : (40 < l.length ∨ ∃ (k : Nat) (e : Ed), l[k]? = some e ∧ okEd e = false) → R = ⟨#[]⟩ := fun h => by rw [hR]; exact fmt_no hl0 h
    have hyes : l.length ≤ 40 → (∀ (k : Nat) (e : Ed), k < l.length → l[k]? = some e → okEd e = true) → R = fmtTo l l.length := fun h h2 => by rw [hR]; exact fmt_yes hl0 h h2
    have HNO := Lib.hid hno
    have HYES := Lib.hid hyes
    clear hno hyes hR hl0
    go_enter Tryd.func7, Tryd.ntmps7
    go_wp2
    go_loopw [3, 4] (fun s i wr => ∃ k : Nat, k ≤ l.length ∧ i = .int .i64 k ∧ s = .string (fmtTo l k) ∧ Hid (k ≠ 0 → l.length ≤ 40) ∧ Hid (∀ (j : Nat) (e : Ed), j < k → l[j]? = some e → okEd e = true) ∧ Below w.heap.size w wr) (fun _ i _ => l.length - (intOf i).toNat)
    case atStart => exact ⟨0, Nat.zero_le _, rfl, rfl, Lib.hid (fun h => absurd rfl h), Lib.hid (fun j e h => absurd h (by omega)), Below.refl _ _⟩
    case round =>
      obtain ⟨k, hk, rfl, rfl, HF, HA, hbel⟩ := hrel
      by_cases hlt : k < l.length
      · obtain ⟨b, off, e, rfl, _, hb, hla, q1, q2, q3⟩ := (hr.below hbel (Nat.le_refl _)).at3 hlt
        have HL := Lib.hid hla
        replace hb : b < wr.heap.size := by have := hbel.size; omega
        clear hr hla
        by_cases h40 : 40 < l.length
        · have hd : decide ((40 : Int) < (l.length : Int)) = true := by simp; omega
          have hRe := HNO.out (.inl h40)
          subst hRe
          go_wp2
          go_ret
          exact ⟨rfl, hbel⟩
        · have hd : decide ((40 : Int) < (l.length : Int)) = false := by simp; omega
          by_cases hx : 0 ≤ e.x ∧ e.x ≤ 5
          · have p1 := inF_t hx.1 hx.2
            by_cases hy : 0 ≤ e.y ∧ e.y ≤ 5
            · have p2 := inF_t hy.1 hy.2
              have hst := fmtTo_succ HL.out
              have HS := Lib.hid hst
              have hko : okEd e = true := by rw [okEd, p1, p2]; rfl
              have HO := Lib.hid hko
              obtain ⟨ad, ex, ey⟩ := e
              dsimp only at q1 q2 q3 hx hy p1 p2
              clear hst hko
              have hfin : ∀ (sg S : ByteArray) (W : World), sg = signB ad → S = (if 0 < k then fmtTo l k ++ ⟨#[44]⟩ else fmtTo l k) → Below w.heap.size w W → ∃ k' : Nat, k' ≤ l.length ∧ Value.int .i64 ((k : Int) + 1) = .int .i64 k' ∧ Value.string (S ++ sg ++ dgt ex ++ dgt ey) = .string (fmtTo l k') ∧ Hid (k' ≠ 0 → l.length ≤ 40) ∧ Hid (∀ (j : Nat) (e : Ed), j < k' → l[j]? = some e → okEd e = true) ∧ Below w.heap.size w W := by
                intro sg S W hg hS hW
                subst hg
                refine ⟨k + 1, by omega, by go_num, by rw [HS.out, hS, ba_assoc, ba_assoc, ← ba_assoc (signB ad)]; rfl, Lib.hid (fun _ => by omega), Lib.hid fun j d hj hd' => ?_, hW⟩
                by_cases ej : j = k
                · subst ej; rw [HL.out] at hd'; injection hd' with hd'; subst hd'; exact HO.out
                · exact HA.out j d (by omega) hd'
              have HFIN := Lib.hid hfin
              have hs1 : (fmtTo l k).size ≤ 160 := by have := (fmtTo_size (l := l) k).2; omega
              have z1 : (dgt ex).size ≤ 1 := Nat.le_refl _
              have z2 : (dgt ey).size ≤ 1 := Nat.le_refl _
              clear hfin HS HO HA HF HL HNO HYES
              cases ad
              all_goals
                by_cases hk0 : 0 < k
                · have hdk : decide ((0 : Int) < (k : Int)) = true := by simp; omega
                  go_wp2_with (go_at_call 18; refine (l1In_f _ _ _ _).mono ?_; rintro e w' ⟨rfl, rfl⟩)
                  have l1 := Later.cell q2 hb
                  have l2 := Later.cell q3 hb
                  refine wp_region_later (by kernel_rfl) (by kernel_rfl) ?_
                  repeat (go_big_quiet_step ((go_at_call 19; exact Later.call (spec_dig_c _ _ (by omega) (by omega)))))
                  refine wpQuiet_nil ?_
                  intro w3 hw3
                  obtain ⟨u3, hu3⟩ := hw3
                  subst hu3
                  have hb3 := hbel.trans (u3.h.mono hbel.size)
                  clear l1 l2 q1 q2 q3
                  generalize u3.w = w3 at *
                  go_wp2
                  go_roundw
                  case rel => exact HFIN.out _ _ _ rfl (by simp [hk0]) hb3
                  case measure => simp [intOf]; omega
                · have hdk : decide ((0 : Int) < (k : Int)) = false := by simp; omega
                  go_wp2_with (go_at_call 18; refine (l1In_f _ _ _ _).mono ?_; rintro e w' ⟨rfl, rfl⟩)
                  have l1 := Later.cell q2 hb
                  have l2 := Later.cell q3 hb
                  refine wp_region_later (by kernel_rfl) (by kernel_rfl) ?_
                  repeat (go_big_quiet_step ((go_at_call 19; exact Later.call (spec_dig_c _ _ (by omega) (by omega)))))
                  refine wpQuiet_nil ?_
                  intro w3 hw3
                  obtain ⟨u3, hu3⟩ := hw3
                  subst hu3
                  have hb3 := hbel.trans (u3.h.mono hbel.size)
                  clear l1 l2 q1 q2 q3
                  generalize u3.w = w3 at *
                  go_wp2
                  go_roundw
                  case rel => exact HFIN.out _ _ _ rfl (by simp [hk0]) hb3
                  case measure => simp [intOf]; omega
            · have p2 := inF_f hy
              have hRe := HNO.out (.inr ⟨k, e, HL.out, by rw [okEd, p2, Bool.and_false]⟩)
              subst hRe
              go_wp2_with (go_at_call 18; refine (l1In_f _ _ _ _).mono ?_; rintro e w' ⟨rfl, rfl⟩)
              go_ret
              exact ⟨rfl, hbel⟩
          · have p1 := inF_f hx
            have hRe := HNO.out (.inr ⟨k, e, HL.out, by rw [okEd, p1, Bool.false_and]⟩)
            subst hRe
            go_wp2_with (go_at_call 18; refine (l1In_f _ _ _ _).mono ?_; rintro e w' ⟨rfl, rfl⟩)
            go_ret
            exact ⟨rfl, hbel⟩
      · obtain rfl : k = l.length := by omega
        have hRe := HYES.out (HF.out (by omega)) HA.out
        subst hRe
        have hsz := (fmtTo_size (l := l) l.length).1
        have hn1 : ¬ (fmtTo l l.length).toList = [] := by
          rw [Lib.toList_data]
          intro e
          have := congrArg List.length e
          simp at this
          have h2 : (fmtTo l l.length).size = (fmtTo l l.length).data.size := rfl
          rw [h2, this] at hsz
          simp at hsz
          rw [hsz] at hlp
          simp at hlp
        have hn2 : (fmtTo l l.length).toList.isEmpty = false := by simpa using hn1
        go_wp2
        go_ret
        exact ⟨rfl, hbel⟩
end Go.Proofs.YtjmeplchabehfaaDoor
