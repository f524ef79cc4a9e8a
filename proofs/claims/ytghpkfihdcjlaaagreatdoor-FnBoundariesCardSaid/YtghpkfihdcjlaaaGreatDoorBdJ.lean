
/-
  Holes: the walk of the program's 'HolesOf'. Shapes: the border word: the walk of the program. The shape inside a word: the program's walk.
-/
import Derived.Test.YtghpkfihdcjlaaaGreatDoorBdH
import Derived.Test.YtghpkfihdcjlaaaGreatDoorShpFG
import Derived.Test.YtghpkfihdcjlaaaGreatDoorPutX
import Derived.Deep.DeepCutAuto
import Derived.Test.YtghpkfihdcjlaaaGreatDoorBdB
import Derived.Test.YtghpkfihdcjlaaaGreatDoorSepX
import Derived.Test.YtghpkfihdcjlaaaGreatDoorBdD
import Derived.Deep.CutRange
import Derived.Lib.SlBytesConst
import Derived.Test.YtghpkfihdcjlaaaGreatDoorBdI
namespace Go.Proofs.YtghpkfihdcjlaaaGreatDoor
open Go.RowKit

/-- the marks of a grid of ten by ten -/
def gix (c : Cell) : Nat := (c.y * 10 + c.x).toNat
structure GInv (V : Cell → Prop) (G : List Bool) : Prop where
  len : G.length = 100
  val : ∀ c : Cell, 0 ≤ c.x ∧ c.x ≤ 9 → 0 ≤ c.y ∧ c.y ≤ 9 → ∃ f, G[gix c]? = some f ∧ (f = true ↔ V c)
theorem GInv.start : GInv (fun _ => False) (List.replicate 100 false) := ⟨by simp, fun c h1 h2 => ⟨false, by
  unfold gix
  rw [List.getElem?_replicate, if_pos (by omega)], by simp⟩⟩
theorem GInv.imp {V V' : Cell → Prop} {G : List Bool} (h : GInv V G) (hi : ∀ c, V c ↔ V' c) : GInv V' G := ⟨h.len, fun c h1 h2 => by
  obtain ⟨f, h3, h4⟩ := h.val c h1 h2
  exact ⟨f, h3, h4.trans (hi c)⟩⟩
theorem GInv.set {V : Cell → Prop} {G : List Bool} (h : GInv V G) {d : Cell} (d1 : 0 ≤ d.x ∧ d.x ≤ 9) (d2 : 0 ≤ d.y ∧ d.y ≤ 9) : GInv (fun c => V c ∨ c = d) (G.set (gix d) true) := ⟨by simpa using h.len, fun c h1 h2 => by
  obtain ⟨f, h3, h4⟩ := h.val c h1 h2
  have hl := h.len
  by_cases e : c = d
  · subst e
    refine ⟨true, ?_, by simp⟩
    rw [List.getElem?_set_self (by unfold gix; omega)]
  · refine ⟨f, ?_, by rw [h4]; exact ⟨.inl, fun hh => hh.resolve_right e⟩⟩
    rw [List.getElem?_set_ne, h3]
    intro he
    apply e
    obtain ⟨x, y⟩ := c
    obtain ⟨u, v⟩ := d
    unfold gix at he
    simp only at *
    rw [Cell.mk.injEq]
    omega⟩
abbrev gridA (G : List Bool) : Array Value := (bc G).toArray
theorem gridA_at {w : World} {g : Nat} {t : TypeId} {G : List Bool} (h : Blk w g t (gridA G)) {i : Nat} {f : Bool} (hi : G[i]? = some f) : w.cell? ⟨g, i, none⟩ = some (.bool f) := by
  rw [h.cell, List.getElem?_toArray]
  exact bc_at hi
theorem gridA_set {G : List Bool} {i : Nat} {f : Bool} : (gridA G).setIfInBounds i (.bool f) = gridA (G.set i f) := by
  simp only [gridA, ← bc_set]
  exact List.setIfInBounds_toArray _ _ _

set_option maxRecDepth 100000 in
set_option maxHeartbeats 800000 in
theorem sides_c (c : Cell) (w : World) (h1 : -100 ≤ c.x ∧ c.x ≤ 100) (h2 : -100 ≤ c.y ∧ c.y ≤ 100) :
    Calls Tryz.prog 53 #[.agg #[.int .i64 c.x, .int .i64 c.y]] w fun e w' => ∃ v', e = .returned v' ∧ CellsIn w' w.heap.size w'.heap.size v' [nbi c 0, nbi c 1, nbi c 2, nbi c 3] ∧ (∃ g, v' = .slice (some ⟨g, 0, none⟩) 4 4) ∧ Below w.heap.size w w' := by
  have H0 := (Sep.start w).step ((Below.refl _ _).alloc (Nat.le_refl _) (.cells #[.int .i64 c.x, .int .i64 c.y] 46))
  have H := H0.rowBox 46 #[.int .i64 c.x, .int .i64 (c.y - 1), .int .i64 (c.x - 1), .int .i64 c.y, .int .i64 (c.x + 1), .int .i64 c.y, .int .i64 c.x, .int .i64 (c.y + 1)] 2 4 rfl (by decide)
  simp only [World.size_alloc] at H
  clear H0
  go_enter Tryz.func53, Tryz.ntmps53
  go_wp2
  go_ret
  exact ⟨_, rfl, CellsIn.mk H.oi.1 rfl rfl, ⟨_, rfl⟩, H.below⟩

theorem QI.of_row1 {w : World} {lo sz n g0 c0 : Nat} {e : TypeId} {xs : List Value} (h : w.ownsRow lo e sz (.slice (some ⟨g0, 0, none⟩) n c0) n xs) : QI w lo e sz (.slice (some ⟨g0, 0, none⟩) n c0) n xs := by
  refine ⟨h.1, ?_⟩
  rcases h.2 with ⟨h0, _⟩ | ⟨g, cap, cur, he, hbg, hgg, h1, h2, h3, h4⟩
  · cases h0
  · right
    refine ⟨g, 0, cap, cur, he, hbg, hgg, h1, h2, by omega, fun j u hu => ?_⟩
    rw [← h4, List.getElem?_take] at hu
    split at hu
    · rw [Nat.zero_add, ← Array.getElem?_toList]; exact hu
    · cases hu
theorem gix_nat {u v : Nat} : gix ⟨(u : Int), (v : Int)⟩ = v * 10 + u := by unfold gix; simp only; omega
theorem shp_take {s : List Cell} {k : Nat} {d c : Cell} (h : s[k]? = some d) : shpAt (s.take (k + 1)) c ↔ shpAt (s.take k) c ∨ c = ⟨d.x + 1, d.y + 1⟩ := by
  obtain ⟨hk, rfl⟩ := List.getElem?_eq_some_iff.1 h
  unfold shpAt
  rw [List.take_succ_eq_append_getElem hk, List.mem_append, List.mem_singleton]
  obtain ⟨x, y⟩ := c
  simp only [Cell.mk.injEq]
  generalize s[k] = q
  obtain ⟨a, b⟩ := q
  simp only [Cell.mk.injEq]
  constructor
  · rintro (h | h)
    · exact .inl h
    · exact .inr (by omega)
  · rintro (h | h)
    · exact .inl h
    · exact .inr (by omega)
set_option maxRecDepth 100000 in
set_option maxHeartbeats 6400000 in
theorem impl_holes_c {v : Value} {s : List Cell} (w : World) (h : CellsRd w 0 w.heap.size v s) (hn : s.length ≤ 1048576) :
    Calls Tryz.prog 26 #[v] w fun e w' => e = .returned (.int .i64 (holesZ s)) ∧ Below w.heap.size w w' := by
  obtain ⟨i0, hi, hz0, hz1, hz2⟩ := info_parts infoCellS
  have HS0 := Lib.hid (impl_isShape_c w h hn)
  obtain ⟨A, c, rfl, hm, hr⟩ := id h
  obtain ⟨R, hR⟩ : ∃ R : Int, R = holesZ s := ⟨_, rfl⟩
  rw [← hR]
  have HR := Lib.hid hR
  have HRS := Lib.hid hr
  clear h hR hr hm
  go_enter Tryz.func26, Tryz.ntmps26
  go_wp2_with fail
  refine (HS0.out).mono ?_
  rintro e w1 ⟨rfl, b1⟩
  clear HS0
  cases hsh : isShape s
  · obtain rfl : R = -1 := by rw [HR.out, holesZ, hsh]; rfl
    clear hsh
    go_wp2
    go_ret
    exact ⟨rfl, b1⟩
  obtain ⟨hl1, hl8⟩ := shp_len hsh
  have HSH := Lib.hid hsh
  have HR2 : Hid (R = (holesN s : Nat)) := Lib.hid (by rw [HR.out, holesZ, hsh]; rfl)
  have HON : Hid (∀ c ∈ s, On c) := Lib.hid fun c hc => shp_on hsh hc
  obtain ⟨b, off, hA, _, hb, hc⟩ := HRS.out.2 (by omega)
  subst hA
  have HCE := Lib.hid hc
  have hz : gridA (List.replicate 100 false) = Tryz.zeroCells63 := by kernel_rfl
  have H0 := ((Sep.start w).step b1).box 63 Tryz.zeroCells63
  rw [← hz] at H0
  obtain ⟨g, hg⟩ : ∃ g, g = w1.heap.size := ⟨_, rfl⟩
  have HZ := Lib.hid hz
  clear hsh hc b1 hz
  go_wp2
  rw [← HZ.out, ← hg]
  rw [← hg] at H0
  generalize hW : w1.alloc (.cells (gridA (List.replicate 100 false)) 63) = W at *
  clear hW hg HZ
  go_loopw [18] (fun i wr => ∃ (k : Nat) (G : List Bool), k ≤ s.length ∧ i = .int .i64 k ∧ Hid (GInv (shpAt (s.take k)) G) ∧ Sep w wr [Res.box g 63 (gridA G)]) (fun i _ => s.length - (intOf i).toNat)
  case atStart => exact ⟨0, _, Nat.zero_le _, rfl, Lib.hid (GInv.start.imp fun c => by simp [shpAt]), H0⟩
  case round =>
    clear H0
    obtain ⟨k, G, hk, rfl, HG, H⟩ := hrel
    by_cases hlt : k < s.length
    · obtain ⟨d, hla⟩ : ∃ d, s[k]? = some d := ⟨s[k], List.getElem?_eq_getElem hlt⟩
      obtain ⟨⟨o1, o2⟩, o3, o4⟩ := HON.out d (List.mem_of_getElem? hla)
      have hbw := H.below
      have q1 : wr.cell? ⟨b, off + k * 2, none⟩ = some (.int .i64 d.x) := (hbw.cell (p := ⟨b, off + k * 2, none⟩) hb).trans (HCE.out _ _ (cc_at hla).1)
      have q2 : wr.cell? ⟨b, off + k * 2 + 1, none⟩ = some (.int .i64 d.y) := (hbw.cell (p := ⟨b, off + k * 2 + 1, none⟩) hb).trans (by rw [Nat.add_assoc]; exact HCE.out _ _ (cc_at hla).2)
      obtain ⟨u, hu⟩ : ∃ u : Nat, d.x + 1 = (u : Int) := ⟨(d.x + 1).toNat, by omega⟩
      obtain ⟨v, hv⟩ : ∃ v : Nat, d.y + 1 = (v : Int) := ⟨(d.y + 1).toNat, by omega⟩
      have hu10 : u < 10 := by omega
      have hv10 : v < 10 := by omega
      have HL := Lib.hid hla
      obtain ⟨f, hf, _⟩ := HG.out.val ⟨(u : Int), (v : Int)⟩ (by simp only; omega) (by simp only; omega)
      rw [gix_nat] at hf
      have hset := HG.out.set (d := ⟨(u : Int), (v : Int)⟩) (by simp only; omega) (by simp only; omega)
      rw [gix_nat] at hset
      have HG2 : Hid (GInv (shpAt (s.take (k + 1))) (G.set (v * 10 + u) true)) := Lib.hid (hset.imp fun c => by rw [shp_take HL.out, hu, hv])
      have H1 := (H.box 46 #[.int .i64 d.x, .int .i64 d.y])
      obtain ⟨gc, hgc⟩ : ∃ gc, gc = wr.heap.size := ⟨_, rfl⟩
      rw [← hgc] at H1
      clear hla hbw H hset
      go_upto_region 7 with fail
      generalize wr.alloc (.cells #[.int .i64 d.x, .int .i64 d.y] 46) = wb at *
      rw [← hgc]
      clear q1 q2 hgc
      have k0 : wb.cell? ⟨gc, 0, none⟩ = some (.int .i64 d.x) := H1.h0.cell 0
      have k1 : wb.cell? ⟨gc, 1, none⟩ = some (.int .i64 d.y) := H1.h0.cell 1
      refine wp_region_stq 8 (by kernel_rfl) (by kernel_rfl) ?_
      simp only [List.take_succ_cons, List.take_zero, List.drop_succ_cons, List.drop_zero]
      repeat (first | go_big_quiet_skip | (go_big_quiet_want; go_big_quiet_op; first | go_big_quiet_on | (apply Exists.intro; refine ⟨?_, ?_⟩; focus (fail); go_big_quiet_on)))
      refine wpQuiet_nil ?_
      have kf := H1.drew.h1.frozen (v * 10 + u)
      have kc := gridA_at H1.drew.h1 hf
      have H2 := (H1.g1.drew.set_ (v * 10 + u) (.bool true)).drop2
      rw [gridA_set] at H2
      clear H1 k0 k1
      go_wp2
      clear kf kc
      go_roundw
      case rel => exact ⟨k + 1, _, by omega, by go_num, HG2, H2⟩
      case measure => simp [intOf]; omega
    · obtain rfl : k = s.length := by omega
      have HG0 : Hid (GInv (fun c => shpAt s c ∨ c ∈ ([] : List Cell)) G) := Lib.hid (HG.out.imp fun c => by rw [List.take_length]; simp)
      go_wp2
      go_loopw [6, 31] (fun pv yv wr => ∃ (S L : List Cell) (G : List Bool) (y m : Nat), y ≤ 10 ∧ yv = .int .i64 y ∧ pv = .int .i64 m ∧ m ≤ 100 ∧ Hid (m = L.length) ∧ Hid (KInv s S L ⟨0, (y : Int)⟩) ∧ Hid (GInv (fun c => shpAt s c ∨ c ∈ S) G) ∧ Sep w wr [Res.box g 63 (gridA G)]) (fun _ yv _ => 10 - (intOf yv).toNat)
      case atStart => exact ⟨[], [], G, 0, 0, by omega, rfl, rfl, by omega, Lib.hid rfl, Lib.hid KInv.start, HG0, H⟩
      case round =>
        clear H HG HG0 hk hlt
        obtain ⟨S, L, G, y, m, hy10, rfl, rfl, hm, HM, HK, HG, H⟩ := hrel
        by_cases hy : y < 10
        · obtain ⟨wo, hwo⟩ : ∃ wo : World, wo = wr := ⟨_, rfl⟩
          subst hwo
          go_wp2
          go_loopw [6, 34] (fun pv xv wr => ∃ (S L : List Cell) (G : List Bool) (x m : Nat), x ≤ 10 ∧ xv = .int .i64 x ∧ pv = .int .i64 m ∧ m ≤ 100 ∧ Hid (m = L.length) ∧ Hid (KInv s S L ⟨(x : Int), (y : Int)⟩) ∧ Hid (GInv (fun c => shpAt s c ∨ c ∈ S) G) ∧ Sep w wr [Res.box g 63 (gridA G)]) (fun _ xv _ => 10 - (intOf xv).toNat)
          case atStart => exact ⟨S, L, G, 0, m, by omega, rfl, rfl, hm, HM, HK, HG, H⟩
          case round =>
            clear H hm HM HK HG
            obtain ⟨S, L, G, x, m, hx10, rfl, rfl, hm, HM, HK, HG, H⟩ := hrel
            by_cases hx : x < 10
            · obtain ⟨f, hf, hfV⟩ := HG.out.val ⟨(x : Int), (y : Int)⟩ (by simp only; omega) (by simp only; omega)
              rw [gix_nat] at hf
              have q1 := gridA_at H.h0 hf
              have HF := Lib.hid hf
              have HFV := Lib.hid hfV
              clear hf hfV
              cases f
              rotate_left
              · have hk2 : KInv s S L ⟨(x : Int) + 1, (y : Int)⟩ := HK.out.skip fun hfr => (HFV.out.1 rfl).resolve_left (frG_iff.1 hfr).2.2
                have HK2 : Hid (KInv s S L ⟨((x + 1 : Nat) : Int), (y : Int)⟩) := Lib.hid hk2
                clear hk2
                go_wp2
                clear q1
                go_roundw
                case rel => exact ⟨S, L, G, x + 1, m, by omega, by go_num, rfl, hm, HM, HK2, HG, H⟩
                case measure => simp [intOf]; omega
              have hnv : ¬ (shpAt s ⟨(x : Int), (y : Int)⟩ ∨ (⟨(x : Int), (y : Int)⟩ : Cell) ∈ S) := fun h => by have := HFV.out.2 h; cases this
              have HFR : Hid (frG s ⟨(x : Int), (y : Int)⟩ = true) := Lib.hid (frG_iff.2 ⟨by simp only; omega, by simp only; omega, fun h => hnv (.inl h)⟩)
              have HNS : Hid (¬ (⟨(x : Int), (y : Int)⟩ : Cell) ∈ S) := Lib.hid fun h => hnv (.inr h)
              have HF0 := Lib.hid (Fle.start (B := (· ∈ S)) HFR.out HNS.out)
              have kf := H.h0.frozen (y * 10 + x)
              have hset := HG.out.set (d := ⟨(x : Int), (y : Int)⟩) (by simp only; omega) (by simp only; omega)
              rw [gix_nat] at hset
              have HG2 : Hid (GInv (fun c => shpAt s c ∨ c ∈ S ∨ c ∈ [(⟨(x : Int), (y : Int)⟩ : Cell)]) (G.set (y * 10 + x) true)) := Lib.hid (hset.imp fun c => by rw [List.mem_singleton, or_assoc])
              have H1 := H.set_ (y * 10 + x) (.bool true)
              rw [gridA_set] at H1
              have H2 := H1.rowBox 46 #[.int .i64 (x : Int), .int .i64 (y : Int)] 2 1 rfl (by decide)
              clear hnv hset H1 H
              go_wp2
              clear q1 kf
              have hsz : (wr.setCell ⟨g, y * 10 + x, none⟩ (.bool true)).heap.size = wr.heap.size := by simp
              rw [hsz] at H2
              have H3 := H2.say (r' := Res.que (.slice (some ⟨wr.heap.size, 0, none⟩) 1 1) 46 2 1 (cc [(⟨(x : Int), (y : Int)⟩ : Cell)])) (fun h => QI.of_row1 h) (fun _ h => h)
              clear H2 hsz
              generalize (wr.setCell ⟨g, y * 10 + x, none⟩ (.bool true)).alloc (.cells #[.int .i64 (x : Int), .int .i64 (y : Int)] 46) = W1 at *
              go_loopg [9] 101 (fun gk qv wr => ∃ (n : Nat) (T Q : List Cell) (G : List Bool), gk + n = 101 ∧ n ≤ T.length ∧ T.length ≤ 100 ∧ Hid (Q = T.drop n) ∧ Hid (Fle (frG s) (· ∈ S) ⟨(x : Int), (y : Int)⟩ T n 0) ∧ Hid (GInv (fun c => shpAt s c ∨ c ∈ S ∨ c ∈ T) G) ∧ Sep w wr [Res.que qv 46 2 Q.length (cc Q), Res.box g 63 (gridA G)])
              case atStart => exact ⟨0, [⟨(x : Int), (y : Int)⟩], [⟨(x : Int), (y : Int)⟩], _, rfl, by simp, by simp, Lib.hid rfl, HF0, HG2, H3⟩
              case round =>
                clear H3 HG2 HF0
                obtain ⟨n, T, Q, G, hgk, hnT, hT, HQ, HFl, HG2, H⟩ := hrel
                cases Q with
                | nil =>
                  have hTn : T.length ≤ n := by
                    have := congrArg List.length HQ.out
                    rw [List.length_drop] at this
                    simp at this
                    omega
                  have hk2 := HK.out.add HFR.out HNS.out HFl.out hTn
                  have HK2 : Hid (KInv s (S ++ T) (L ++ [(⟨(x : Int), (y : Int)⟩ : Cell)]) ⟨((x + 1 : Nat) : Int), (y : Int)⟩) := Lib.hid hk2
                  have hm2 : m + 1 ≤ 100 := by
                    have := hk2.llen
                    rw [List.length_append, ← HM.out] at this
                    exact this
                  have HM2 : Hid (m + 1 = (L ++ [(⟨(x : Int), (y : Int)⟩ : Cell)]).length) := Lib.hid (by rw [List.length_append, HM.out]; rfl)
                  have HG3 : Hid (GInv (fun c => shpAt s c ∨ c ∈ S ++ T) G) := Lib.hid (HG2.out.imp fun c => by rw [List.mem_append])
                  obtain ⟨Aq, cq, rfl⟩ := QI.shape H.h0
                  have H2 := H.drop
                  have hyd : decide ((y : Int) < 10) = true := decide_eq_true (by omega)
                  clear hk2 H
                  go_wp2
                  go_roundw
                  case rel =>
                    rw [hyd]
                    (repeat apply Exists.intro)
                    exact ⟨⟨S ++ T, L ++ [⟨(x : Int), (y : Int)⟩], G, x + 1, m + 1, by omega, by go_num, by go_num, hm2, HM2, HK2, HG3, H2⟩, rfl⟩
                  case measure => simp [intOf]; omega
                | cons c Q =>
                  have hTc : T[n]? = some c := by
                    have := congrArg (fun l => l[0]?) HQ.out
                    simp only [List.getElem?_cons_zero, List.getElem?_drop, Nat.add_zero] at this
                    exact this.symm
                  have HTC := Lib.hid hTc
                  have hnT2 : n < T.length := (List.getElem?_eq_some_iff.1 hTc).1
                  have HQ2 : Hid (Q = T.drop (n + 1)) := Lib.hid (by
                    have := congrArg List.tail HQ.out
                    rw [List.tail_cons, List.tail_drop] at this
                    exact this)
                  have hcf := frG_iff.1 (HFl.out.reach c (List.mem_of_getElem? hTc)).2.2
                  obtain ⟨⟨c1, c2'⟩, ⟨c3, c4⟩, _⟩ := hcf
                  have hql : (c :: Q).length = Q.length + 1 := rfl
                  rw [hql] at H
                  have hQ100 : Q.length ≤ 100 := by rw [HQ2.out, List.length_drop]; omega
                  obtain ⟨gq, oq, capq, csq, hqv, _, hbq, hnc, hcm, _, hcells⟩ := QI.at_ H.h0 (by omega)
                  subst hqv
                  have k0 : wr.cell? ⟨gq, oq, none⟩ = some (.int .i64 c.x) := hcells 0 _ rfl
                  have k1 : wr.cell? ⟨gq, oq + 1, none⟩ = some (.int .i64 c.y) := hcells 1 _ rfl
                  have H1 := H.box 46 #[.int .i64 c.x, .int .i64 c.y]
                  obtain ⟨gc, hgc⟩ : ∃ gc, gc = wr.heap.size := ⟨_, rfl⟩
                  rw [← hgc] at H1
                  have HQX : Hid (QI (wr.alloc (.cells #[.int .i64 c.x, .int .i64 c.y] 46)) 0 46 2 (.slice (some ⟨gq, oq, none⟩) (Q.length + 1) capq) (Q.length + 1) (cc (c :: Q))) := Lib.hid H1.h1
                  have hd0 : decide ((0 : Int) < ((Q.length + 1 : Nat) : Int)) = true := decide_eq_true (by omega)
                  have hd1 : decide ((0 : Int) < (Q.length : Int) + 1) = true := decide_eq_true (by omega)
                  clear hTc hql hcells hbq H
                  go_wp2_with (refine wpList_tail_q _ rfl _ 24 rfl 0 46 i0 2 Tryz.underlying24 hi hz1 (by decide) gq oq Q.length capq _ rfl hnc HQX.out ?_; clear HQX; intro tv hq2 htv)
                  clear k0 k1 hd0 hd1
                  have H2 := H1.g1.say (r' := Res.que tv 46 2 Q.length (cc Q)) (fun _ => hq2) (fun b hb => by
                    have hb : tv.ownBlock = some b := hb
                    rw [htv] at hb
                    exact hb)
                  clear H1 hq2 htv
                  generalize wr.alloc (.cells #[.int .i64 c.x, .int .i64 c.y] 46) = W2 at *
                  rw [← hgc]
                  clear hgc
                  refine (sides_c c W2 (by omega) (by omega)).mono ?_
                  rintro e W3 ⟨v3, rfl, o3, ⟨gs, rfl⟩, b3⟩
                  have H3 := (H2.oiNew b3 o3).p3
                  clear H2 o3 b3
                  go_wp2
                  obtain ⟨wp, hwp⟩ : ∃ wp : World, wp = W3 := ⟨_, rfl⟩
                  subst hwp
                  go_loopw [9, 63] (fun qv ev wr => ∃ (e : Nat) (T Q : List Cell) (G : List Bool), e ≤ 4 ∧ ev = .int .i64 e ∧ n < T.length ∧ T.length ≤ 100 ∧ Hid (T[n]? = some c) ∧ Hid (Q = T.drop (n + 1)) ∧ Q.length ≤ 100 ∧ Hid (Fle (frG s) (· ∈ S) ⟨(x : Int), (y : Int)⟩ T n e) ∧ Hid (GInv (fun c => shpAt s c ∨ c ∈ S ∨ c ∈ T) G) ∧ Sep w wr [Res.que qv 46 2 Q.length (cc Q), Res.box gc 46 #[.int .i64 c.x, .int .i64 c.y], Res.box g 63 (gridA G), Res.row (.slice (some ⟨gs, 0, none⟩) 4 4) 46 2 4 (cc [nbi c 0, nbi c 1, nbi c 2, nbi c 3])]) (fun _ ev _ => 4 - (intOf ev).toNat)
                  case atStart => exact ⟨0, T, Q, G, by omega, rfl, hnT2, hT, HTC, HQ2, hQ100, HFl, HG2, H3⟩
                  case round =>
                    clear H3 hnT2 hT HTC HQ2 hQ100 HFl HG2 hnT HQ
                    obtain ⟨e, T, Q, G, he4, rfl, hnT, hT, HTC, HQ, hQ100, HFl, HG2, H⟩ := hrel
                    by_cases hlt : e < 4
                    · obtain ⟨⟨X, Y⟩, hnb⟩ : ∃ nb, nb = nbi c e := ⟨_, rfl⟩
                      have hat : [nbi c 0, nbi c 1, nbi c 2, nbi c 3][e]? = some (⟨X, Y⟩ : Cell) := by
                        rw [hnb]
                        have h4 : e = 0 ∨ e = 1 ∨ e = 2 ∨ e = 3 := by omega
                        rcases h4 with rfl | rfl | rfl | rfl <;> rfl
                      have hadj := (nbi_adj (c := c) hlt).near
                      rw [← hnb] at hadj
                      simp only at hadj
                      have HNB := Lib.hid hnb
                      obtain ⟨q1, q2⟩ := row_at2 H.h3 hat
                      rw [Nat.zero_add] at q1 q2
                      have H1 := H.box 46 #[.int .i64 X, .int .i64 Y]
                      obtain ⟨gd, hgd⟩ : ∃ gd, gd = wr.heap.size := ⟨_, rfl⟩
                      rw [← hgd] at H1
                      obtain ⟨Aq, cq, rfl⟩ := QI.shape H.h0
                      have n1 : -1 ≤ X := by omega
                      have n2 : X ≤ 10 := by omega
                      have n3 : -1 ≤ Y := by omega
                      have n4 : Y ≤ 10 := by omega
                      clear hnb hat hadj H
                      go_upto_region 26 with fail
                      generalize wr.alloc (.cells #[.int .i64 X, .int .i64 Y] 46) = W4 at *
                      rw [← hgd]
                      clear q1 q2 hgd
                      have l0 := Later.cell (W := W4) (p := ⟨gd, 0, none⟩) (v := .int .i64 X) (H1.h0.cell 0) H1.h0.lt
                      have l1 := Later.cell (W := W4) (p := ⟨gd, 1, none⟩) (v := .int .i64 Y) (H1.h0.cell 1) H1.h0.lt
                      cases hnx : inR X 0 9
                      · have HFs : Hid (Fle (frG s) (· ∈ S) ⟨(x : Int), (y : Int)⟩ T n (e + 1)) := Lib.hid (HFl.out.skip HTC.out fun hf => by
                          rw [← HNB.out] at hf
                          have := (frG_iff.1 hf).1
                          unfold inR at hnx
                          simp at hnx
                          simp only at this
                          omega)
                        have HNX : Hid (∀ w : World, Calls Tryz.prog 54 #[.int .i64 X, .int .i64 0, .int .i64 9] w fun e w' => e = .returned (.bool false) ∧ w = w') := Lib.hid fun w => by
                          have := between_r X 0 9 w
                          rw [hnx] at this
                          exact this
                        clear hnx
                        refine wp_region_later (by kernel_rfl) (by kernel_rfl) ?_
                        repeat (go_big_quiet_step ((go_at_call 54; exact Later.same (HNX.out _))))
                        refine wpQuiet_nil ?_
                        intro w5 hw5
                        obtain ⟨u5, hu5⟩ := hw5
                        subst hu5
                        have H2 := H1.later u5
                        clear l0 l1 H1
                        generalize u5.w = w5 at *
                        have H3 := H2.drop
                        clear H2
                        go_wp2
                        go_roundw
                        case rel => exact ⟨e + 1, T, Q, G, by omega, by go_num, hnT, hT, HTC, HQ, hQ100, HFs, HG2, H3⟩
                        case measure => simp [intOf]; omega
                      cases hny : inR Y 0 9
                      · have HFs : Hid (Fle (frG s) (· ∈ S) ⟨(x : Int), (y : Int)⟩ T n (e + 1)) := Lib.hid (HFl.out.skip HTC.out fun hf => by
                          rw [← HNB.out] at hf
                          have := (frG_iff.1 hf).2.1
                          unfold inR at hny
                          simp at hny
                          simp only at this
                          omega)
                        have HNX : Hid (∀ w : World, Calls Tryz.prog 54 #[.int .i64 X, .int .i64 0, .int .i64 9] w fun e w' => e = .returned (.bool true) ∧ w = w') := Lib.hid fun w => by
                          have := between_r X 0 9 w
                          rw [hnx] at this
                          exact this
                        have HNY : Hid (∀ w : World, Calls Tryz.prog 54 #[.int .i64 Y, .int .i64 0, .int .i64 9] w fun e w' => e = .returned (.bool false) ∧ w = w') := Lib.hid fun w => by
                          have := between_r Y 0 9 w
                          rw [hny] at this
                          exact this
                        clear hnx hny
                        refine wp_region_later (by kernel_rfl) (by kernel_rfl) ?_
                        repeat (go_big_quiet_step ((go_at_call 54; first | with_reducible exact Later.same (HNX.out _) | with_reducible exact Later.same (HNY.out _))))
                        refine wpQuiet_nil ?_
                        intro w5 hw5
                        obtain ⟨u5, hu5⟩ := hw5
                        subst hu5
                        have H2 := H1.later u5
                        clear l0 l1 H1
                        generalize u5.w = w5 at *
                        have H3 := H2.drop
                        clear H2
                        go_wp2
                        go_roundw
                        case rel => exact ⟨e + 1, T, Q, G, by omega, by go_num, hnT, hT, HTC, HQ, hQ100, HFs, HG2, H3⟩
                        case measure => simp [intOf]; omega
                      obtain ⟨u, rfl⟩ : ∃ u : Nat, X = (u : Int) := ⟨X.toNat, by unfold inR at hnx; simp at hnx; omega⟩
                      obtain ⟨v, rfl⟩ : ∃ v : Nat, Y = (v : Int) := ⟨Y.toNat, by unfold inR at hny; simp at hny; omega⟩
                      have hu10 : u < 10 := by unfold inR at hnx; simp at hnx; omega
                      have hv10 : v < 10 := by unfold inR at hny; simp at hny; omega
                      obtain ⟨X, hX⟩ : ∃ X : Int, X = (u : Int) := ⟨_, rfl⟩
                      obtain ⟨Y, hY⟩ : ∃ Y : Int, Y = (v : Int) := ⟨_, rfl⟩
                      obtain ⟨f, hf, hfV⟩ := HG2.out.val ⟨(u : Int), (v : Int)⟩ (by simp only; omega) (by simp only; omega)
                      rw [gix_nat] at hf
                      have l2 := Later.cell (gridA_at H1.h3 hf) H1.h3.lt
                      have HF := Lib.hid hf
                      have HFV := Lib.hid hfV
                      have HNX : Hid (∀ w : World, Calls Tryz.prog 54 #[.int .i64 (u : Int), .int .i64 0, .int .i64 9] w fun e w' => e = .returned (.bool true) ∧ w = w') := Lib.hid fun w => by
                        have := between_r (u : Int) 0 9 w
                        rw [hnx] at this
                        exact this
                      have HNY : Hid (∀ w : World, Calls Tryz.prog 54 #[.int .i64 (v : Int), .int .i64 0, .int .i64 9] w fun e w' => e = .returned (.bool true) ∧ w = w') := Lib.hid fun w => by
                        have := between_r (v : Int) 0 9 w
                        rw [hny] at this
                        exact this
                      clear hf hfV hnx hny hX hY X Y
                      cases f
                      rotate_left
                      · have HFs : Hid (Fle (frG s) (· ∈ S) ⟨(x : Int), (y : Int)⟩ T n (e + 1)) := Lib.hid (HFl.out.skip HTC.out fun hf => by
                          rw [← HNB.out] at hf ⊢
                          exact ((HFV.out.1 rfl).resolve_left (frG_iff.1 hf).2.2).symm)
                        refine wp_region_later (by kernel_rfl) (by kernel_rfl) ?_
                        repeat (go_big_quiet_step ((go_at_call 54; first | with_reducible exact Later.same (HNX.out _) | with_reducible exact Later.same (HNY.out _))))
                        refine wpQuiet_nil ?_
                        intro w5 hw5
                        obtain ⟨u5, hu5⟩ := hw5
                        subst hu5
                        have H2 := H1.later u5
                        clear l0 l1 H1
                        generalize u5.w = w5 at *
                        have H3 := H2.drop
                        clear H2
                        go_wp2
                        go_roundw
                        case rel => exact ⟨e + 1, T, Q, G, by omega, by go_num, hnT, hT, HTC, HQ, hQ100, HFs, HG2, H3⟩
                        case measure => simp [intOf]; omega
                      have hnv : ¬ (shpAt s ⟨(u : Int), (v : Int)⟩ ∨ (⟨(u : Int), (v : Int)⟩ : Cell) ∈ S ∨ (⟨(u : Int), (v : Int)⟩ : Cell) ∈ T) := fun h => by have := HFV.out.2 h; cases this
                      have hfu : frG s ⟨(u : Int), (v : Int)⟩ = true := frG_iff.2 ⟨by simp only; omega, by simp only; omega, fun h => hnv (.inl h)⟩
                      have hadd := HFl.out.add HTC.out hlt (by rw [← HNB.out]; exact hfu) (by rw [← HNB.out]; exact fun h => hnv (.inr (.inr h))) (by rw [← HNB.out]; exact fun h => hnv (.inr (.inl h)))
                      rw [← HNB.out] at hadd
                      obtain ⟨T2, hT2⟩ : ∃ T2, T2 = T ++ [(⟨(u : Int), (v : Int)⟩ : Cell)] := ⟨_, rfl⟩
                      obtain ⟨Q2, hQ2⟩ : ∃ Q2, Q2 = Q ++ [(⟨(u : Int), (v : Int)⟩ : Cell)] := ⟨_, rfl⟩
                      rw [← hT2] at hadd
                      have hset := HG2.out.set (d := ⟨(u : Int), (v : Int)⟩) (by simp only; omega) (by simp only; omega)
                      rw [gix_nat] at hset
                      have HG3 : Hid (GInv (fun c => shpAt s c ∨ c ∈ S ∨ c ∈ T2) (G.set (v * 10 + u) true)) := Lib.hid (hset.imp fun c => by rw [hT2, List.mem_append, List.mem_singleton, or_assoc, or_assoc])
                      have hT100 : T2.length ≤ 100 := Nat.le_trans (hadd.len frG_grid) (by rw [gridL_len]; exact Nat.le_refl _)
                      have hlen : T2.length = T.length + 1 := by rw [hT2]; simp
                      have HTC2 : Hid (T2[n]? = some c) := Lib.hid (by rw [hT2, List.getElem?_append_left hnT]; exact HTC.out)
                      have HQQ : Hid (Q2 = T2.drop (n + 1)) := Lib.hid (by rw [hQ2, hT2, HQ.out, List.drop_append_of_le_length (by omega)])
                      have hQ2100 : Q2.length ≤ 100 := by rw [HQQ.out, List.length_drop]; omega
                      have HT2 := Lib.hid hT2
                      have HQ2 := Lib.hid hQ2
                      have HADD := Lib.hid hadd
                      clear hnv hfu hset hT2 hQ2 hadd
                      refine wp_region_later (by kernel_rfl) (by kernel_rfl) ?_
                      repeat (go_big_quiet_step ((go_at_call 54; first | with_reducible exact Later.same (HNX.out _) | with_reducible exact Later.same (HNY.out _))))
                      refine wpQuiet_nil ?_
                      intro w5 hw5
                      obtain ⟨u5, hu5⟩ := hw5
                      subst hu5
                      have H2 := H1.later u5
                      clear l0 l1 H1
                      generalize u5.w = w5 at *
                      have k0 : w5.cell? ⟨gd, 0, none⟩ = some (.int .i64 (u : Int)) := H2.h0.cell 0
                      have k1 : w5.cell? ⟨gd, 1, none⟩ = some (.int .i64 (v : Int)) := H2.h0.cell 1
                      clear l2 HNX HNY
                      go_wp2_with fail
                      refine wp_region_stq 6 (by kernel_rfl) (by kernel_rfl) ?_
                      simp only [List.take_succ_cons, List.take_zero, List.drop_succ_cons, List.drop_zero]
                      repeat (first | go_big_quiet_skip | (go_big_quiet_want; go_big_quiet_op; first | go_big_quiet_on | (apply Exists.intro; refine ⟨?_, ?_⟩; focus (fail); go_big_quiet_on)))
                      refine wpQuiet_nil ?_
                      have kf := H2.drew.h3.frozen (v * 10 + u)
                      have kc := gridA_at H2.drew.h3 HF.out
                      have H3 := (H2.g3.drew.set_ (v * 10 + u) (.bool true)).p3
                      rw [gridA_set] at H3
                      clear H2 k0 k1
                      go_upto_region 28 with fail
                      clear kf kc
                      replace H3 : Sep w ((w5.setCell ⟨g, v * 10 + u, none⟩ (.bool true)).drew) [Res.box gd 46 #[.int .i64 (u : Int), .int .i64 (v : Int)], Res.que (.slice Aq Q.length cq) 46 2 Q.length (cc Q), Res.box gc 46 #[.int .i64 c.x, .int .i64 c.y], Res.box g 63 (gridA (G.set (v * 10 + u) true)), Res.row (.slice (some ⟨gs, 0, none⟩) 4 4) 46 2 4 (cc [nbi c 0, nbi c 1, nbi c 2, nbi c 3])] := H3
                      generalize (w5.setCell ⟨g, v * 10 + u, none⟩ (.bool true)).drew = w6 at *
                      have k0 : w6.cell? ⟨gd, 0, none⟩ = some (.int .i64 (u : Int)) := H3.h0.cell 0
                      have k1 : w6.cell? ⟨gd, 1, none⟩ = some (.int .i64 (v : Int)) := H3.h0.cell 1
                      have H4 := H3.drop
                      have hq4 : QI w6 0 46 2 (.slice Aq Q.length cq) Q.length (cc Q) := H4.h0
                      clear H3
                      go_wp2_with (at_builtin; refine wpList_append_q _ rfl _ _ 24 rfl 0 46 i0 _ 2 16 Tryz.underlying24 hi hz0 hz1 hz2 rfl (by decide) _ _ _ rfl (hq4.alloc _) ⟨w6.heap.size, 0, none⟩ 1 [.int .i64 (u : Int), .int .i64 (v : Int)] rfl rfl (news_alloc w6 #[.int .i64 (u : Int), .int .i64 (v : Int)] _) (by intro u hu; simp at hu; rcases hu with rfl | rfl <;> rfl) (by unfold maxLen; omega) (by omega) (Nat.zero_le _) ?_; intro v' w7 hq7 hgrow hat)
                      have H5 := (H4.alloc (.cells #[.int .i64 (u : Int), .int .i64 (v : Int)] 46)).appQ hq7 hgrow hat
                      clear H4 hq4 hq7 hgrow hat k0 k1
                      have hcq : cc Q ++ [.int .i64 (u : Int), .int .i64 (v : Int)] = cc Q2 := by rw [HQ2.out, cc_append]; rfl
                      have hlq : Q.length + 1 = Q2.length := by rw [HQ2.out, List.length_append]; rfl
                      rw [hcq, hlq] at H5
                      clear hcq hlq
                      go_wp2
                      go_roundw
                      case rel => exact ⟨e + 1, T2, Q2, _, by omega, by go_num, by omega, hT100, HTC2, HQQ, hQ2100, HADD, HG3, H5⟩
                      case measure => simp [intOf]; omega
                    · obtain rfl : e = 4 := by omega
                      have HF2 := Lib.hid (HFl.out.next (Nat.le_refl _))
                      obtain ⟨Aq, cq, rfl⟩ := QI.shape H.h0
                      have H2 := H.drop2.g2.drop
                      clear H
                      go_wp2
                      go_roundg (gk - 1)
                      case rel => exact ⟨n + 1, T, Q, G, by omega, by omega, hT, HQ, HF2, HG2, H2⟩
                      case measure => omega
            · obtain rfl : x = 10 := by omega
              have HK2 : Hid (KInv s S L ⟨0, ((y + 1 : Nat) : Int)⟩) := Lib.hid (HK.out.row (by omega))
              go_wp2
              go_roundw
              case rel => exact ⟨S, L, G, y + 1, m, by omega, by go_num, rfl, hm, HM, HK2, HG, H⟩
              case measure => simp [intOf]; omega
        · obtain rfl : y = 10 := by omega
          have hcnt := count_eq HSH.out HK.out.lnodup (HK.out.last (by omega))
          have hRe : R = (m : Int) - 1 := by rw [HR2.out, HM.out, hcnt]; omega
          have HRE := Lib.hid hRe
          have hbel := H.below
          clear hcnt hRe
          go_wp2
          go_ret
          exact ⟨by rw [HRE.out]; rfl, hbel⟩
end Go.Proofs.YtghpkfihdcjlaaaGreatDoor

namespace Go.Proofs.YtghpkfihdcjlaaaGreatDoor
open Go.RowKit

theorem dirU_B {d : Nat} (hd : d < 4) : ((dirU d).toNat : Int) = dirB d := by
  have h4 : d = 0 ∨ d = 1 ∨ d = 2 ∨ d = 3 := by omega
  rcases h4 with rfl | rfl | rfl | rfl <;> rfl
set_option maxRecDepth 100000 in
set_option maxHeartbeats 6400000 in
theorem impl_bord_c {v : Value} {s : List Cell} (w : World) (h : CellsRd w 0 w.heap.size v s) (hn : s.length ≤ 1048576) :
    Calls Tryz.prog 6 #[v] w fun e w' => e = .returned (.tuple #[.string (wstr (bordW s)), .bool (bordOk s)]) ∧ Below w.heap.size w w' := by
  obtain ⟨A, c, rfl, hm, hr⟩ := id h
  have HS : Hid (CellsRd w 0 w.heap.size (.slice A s.length c) s) := Lib.hid h
  have keep : ∀ w1, Below w.heap.size w w1 → CellsRd w1 0 w1.heap.size (.slice A s.length c) s := fun w1 hb => (h.keep (SameIn.of_below hb (Nat.le_refl _))).more (Nat.le_refl _) hb.size
  have HC := Lib.hid (impl_conn_c w h hn)
  have HZ : Hid (∀ w1, Below w.heap.size w w1 → Calls Tryz.prog 26 #[.slice A s.length c] w1 fun e w' => e = .returned (.int .i64 (holesZ s)) ∧ Below w1.heap.size w1 w') := Lib.hid fun w1 hb => impl_holes_c w1 (keep w1 hb) hn
  have HP : Hid (isShape s = true → ∀ w1, Below w.heap.size w w1 → Calls Tryz.prog 27 #[.slice A s.length c] w1 fun e w' => e = .returned (.bool (pinS s)) ∧ Below w1.heap.size w1 w') := Lib.hid fun hs w1 hb => impl_pin_c w1 (keep w1 hb) (shp_len hs).2 (fun c hc => shp_on hs hc)
  obtain ⟨i0, hi, hz0, hz1, hz2⟩ := info_parts infoU8
  obtain ⟨R, hR⟩ : ∃ R, R = bordW s := ⟨_, rfl⟩
  obtain ⟨B, hB⟩ : ∃ B, B = bordOk s := ⟨_, rfl⟩
  rw [← hR, ← hB]
  have HR := Lib.hid hR
  have HB := Lib.hid hB
  have HRS := Lib.hid hr
  clear h hr hR hB keep hm
  go_enter Tryz.func6, Tryz.ntmps6
  go_wp2_with fail
  refine (HC.out).mono ?_
  rintro e w1 ⟨rfl, b1⟩
  clear HC
  cases hcn : connS s
  · have hb0 : bordOk s = false := by unfold bordOk; rw [hcn]; rfl
    obtain rfl : B = false := HB.out.trans hb0
    obtain rfl : R = [] := HR.out.trans (bordW_no hb0)
    clear hb0 hcn
    go_wp2
    go_ret2
    exact ⟨rfl, b1⟩
  have hsh : isShape s = true := by unfold connS at hcn; exact (Bool.and_eq_true _ _ ▸ hcn).1
  have HSH := Lib.hid hsh
  have HCN := Lib.hid hcn
  clear hcn hsh
  go_wp2_with fail
  refine (HZ.out _ b1).mono ?_
  rintro e w2 ⟨rfl, b2⟩
  have b3 := b1.trans (b2.mono b1.size)
  clear b1 b2 HZ
  by_cases hz : holesZ s = 0
  rotate_left
  · have hb0 : bordOk s = false := by unfold bordOk; rw [decide_eq_false hz, Bool.and_false]; rfl
    obtain rfl : B = false := HB.out.trans hb0
    obtain rfl : R = [] := HR.out.trans (bordW_no hb0)
    have z1 : decide (0 < holesZ s) = true := decide_eq_true (by
      have := hz
      unfold holesZ at this ⊢
      rw [HSH.out] at this ⊢
      simp only [if_true] at this ⊢
      omega)
    clear hb0 hz
    go_wp2
    go_ret2
    exact ⟨rfl, b3⟩
  rw [hz]
  go_wp2_with fail
  refine (HP.out HSH.out _ b3).mono ?_
  rintro e w4 ⟨rfl, b4⟩
  have b5 := b3.trans (b4.mono b3.size)
  clear b3 b4 HP
  cases hp : pinS s
  rotate_left
  · have hb0 : bordOk s = false := by unfold bordOk; rw [hp]; simp
    obtain rfl : B = false := HB.out.trans hb0
    obtain rfl : R = [] := HR.out.trans (bordW_no hb0)
    clear hb0 hp
    go_wp2
    go_ret2
    exact ⟨rfl, b5⟩
  have hb0 : bordOk s = true := by unfold bordOk; rw [HCN.out, hp, hz]; rfl
  obtain ⟨hl1, hl8⟩ := shp_len HSH.out
  obtain ⟨a, ha⟩ : ∃ a, s[0]? = some a := ⟨s[0], List.getElem?_eq_getElem (by omega)⟩
  obtain ⟨K, hbi⟩ := bord_ex HSH.out hp ha
  obtain rfl : B = true := HB.out.trans hb0
  have HRK : Hid (R = wrd s a K) := Lib.hid (HR.out.trans (bordW_yes hb0 ha hbi))
  have HBI := Lib.hid hbi
  have HA := Lib.hid ha
  obtain ⟨⟨a1, a2⟩, a3, a4⟩ := shp_on HSH.out (List.mem_of_getElem? ha)
  obtain ⟨b, off, hA, _, hb, hc⟩ := HRS.out.2 (by omega)
  subst hA
  have q0 : w4.cell? ⟨b, off, none⟩ = some (.int .i64 a.x) := (b5.cell (p := ⟨b, off, none⟩) hb).trans (by have := hc _ _ (cc_at HA.out).1; simpa using this)
  have q1 : w4.cell? ⟨b, off + 1, none⟩ = some (.int .i64 a.y) := (b5.cell (p := ⟨b, off + 1, none⟩) hb).trans (by have := hc _ _ (cc_at HA.out).2; simpa using this)
  have H0 := (((Sep.start w).step b5).box 46 #[.int .i64 a.x, .int .i64 a.y]).box 46 #[.int .i64 a.x, .int .i64 a.y]
  obtain ⟨g, hg⟩ : ∃ g, g = w4.heap.size := ⟨_, rfl⟩
  simp only [World.size_alloc] at H0
  rw [← hg] at H0
  clear hb0 hbi hp hz ha b5 hc
  go_wp2
  generalize (w4.alloc (.cells #[.int .i64 a.x, .int .i64 a.y] 46)).alloc (.cells #[.int .i64 a.x, .int .i64 a.y] 46) = W at *
  rw [← hg]
  clear hg q0 q1
  have H1 := H0.nil 5 1
  clear H0
  go_loopg [6] 82 (fun gk sv wr => ∃ (n : Nat), gk + n = 82 ∧ n ≤ K ∧ Sep w wr [Res.row sv 5 1 n (uc (wrd s a n)), Res.box (g + 1) 46 #[.int .i64 (wlk s a n).x, .int .i64 (wlk s a n).y], Res.box g 46 #[.int .i64 a.x, .int .i64 a.y]])
  case atStart => exact ⟨0, rfl, Nat.zero_le _, H1⟩
  case round =>
    clear H1
    obtain ⟨n, hgk, hnK, H⟩ := hrel
    obtain ⟨P, hP⟩ : ∃ P, P = wlk s a n := ⟨_, rfl⟩
    obtain ⟨Q, hQ⟩ : ∃ Q, Q = wlk s a (n + 1) := ⟨_, rfl⟩
    obtain ⟨⟨p1, p2⟩, p3, p4⟩ := HBI.out.bord.on_ n
    have HED := HBI.out.bord.edg n
    rw [← hP] at H p1 p2 p3 p4 HED
    have HED := Lib.hid HED
    have HQS : Hid (∀ i, outD s P = i → Q = stepC P i) := Lib.hid fun i hi => by rw [hQ, ← hi, hP]; rfl
    have HWS : Hid (∀ i, outD s P = i → wrd s a (n + 1) = wrd s a n ++ [dirU i]) := Lib.hid fun i hi => by rw [← hi, hP]; exact wrd_succ
    have HQE : Hid (Q = wlk s a (n + 1)) := Lib.hid hQ
    have HPE : Hid (P = wlk s a n) := Lib.hid hP
    have hK81 := HBI.out.hi
    have hK1 := HBI.out.lo
    clear hP hQ
    obtain ⟨As, cs, rfl, _, _, _⟩ := Res.row_at H.h0
    have k0 : wr.cell? ⟨g + 1, 0, none⟩ = some (.int .i64 P.x) := H.h1.cell 0
    have k1 : wr.cell? ⟨g + 1, 1, none⟩ = some (.int .i64 P.y) := H.h1.cell 1
    have k2 : wr.cell? ⟨g, 0, none⟩ = some (.int .i64 a.x) := H.h2.cell 0
    have k3 : wr.cell? ⟨g, 1, none⟩ = some (.int .i64 a.y) := H.h2.cell 1
    by_cases hK : n = K
    · subst hK
      obtain rfl : P = a := HPE.out.trans HBI.out.home
      obtain ⟨b', off', c', hv, _, _, _⟩ := own_shape H.h0 (by omega)
      injection hv with hv1 hv2 hv3
      subst hv1 hv3
      have hcv : (convert 22 9 (.slice (some ⟨b', off', none⟩) n cs)).run Tryz.prog wr = .ok (.string (wstr (wrd s P n))) wr := by
        have := run_convert_bytes_back (P := Tryz.prog) wr _ _ _ ⟨b', off', none⟩ cs (wrd s P n) Tryz.underlying22 Tryz.underlying5 Tryz.underlying9 (fun j hj => by
          have := own_cell H.h0 (j := j) (u := .int .u8 ((wrd s P n)[j].toNat : Int)) (by simp [uc, List.getElem?_eq_getElem hj])
          unfold Addr.add
          split
          · rename_i e
            subst e
            simpa using this
          · exact this)
        rw [wrd_len] at this
        exact this
      have n1 : ((n : Int) == 0) = false := by simp; omega
      have hbel := H.below
      clear hv2
      go_wp2
      go_ret2
      exact ⟨by rw [HRK.out]; rfl, hbel⟩
    · have hn0 : n < K := by omega
      go_upto_region 6 with fail
      go_cut [32] from 25 to 32 (fun cv wx => cv = .bool true ∧ wx = wr)
      case first =>
        by_cases hz : n = 0
        · subst hz
          go_wp2_with fail
          go_meet
          case rel => exact ⟨rfl, rfl⟩
        · have n1 : ((n : Int) == 0) = false := by simp; omega
          have hne : P ≠ a := fun e => HBI.out.away n (by omega) hn0 (HPE.out.symm.trans e)
          by_cases ex : P.x = a.x
          · have ey : ¬ P.y = a.y := fun ey => hne (by obtain ⟨px, py⟩ := P; obtain ⟨ax, ay⟩ := a; simp only at ex ey; rw [ex, ey])
            clear hne
            go_wp2_with fail
            go_meet
            case rel => exact ⟨rfl, rfl⟩
          · clear hne
            go_wp2_with fail
            go_meet
            case rel => exact ⟨rfl, rfl⟩
      case rest =>
      obtain ⟨rfl, rfl⟩ := hcut
      clear k0 k1 k2 k3
      obtain ⟨O, hO⟩ : ∃ O : Obj, O = .cells #[.int .u8 114, .int .u8 100, .int .u8 108, .int .u8 117] 5 (4, 5) := ⟨_, rfl⟩
      have H1 := (H.new (r := Res.obj wc.heap.size O) ((Below.refl _ _).alloc (Nat.le_refl _) O) (by show (wc.heap.push O)[wc.heap.size]? = some O; simp) (fun b hb => by have hb : b = wc.heap.size := hb; omega)).p3
      obtain ⟨gb, hgb⟩ : ∃ gb, gb = wc.heap.size := ⟨_, rfl⟩
      have hcs := fun (w : World) (C : Array Value) (n c : Nat) => Lib.run_convert_bytes_const (P := Tryz.prog) w 22 5 C n c Tryz.underlying22 Tryz.underlying5
      have HOO := Lib.hid hO
      clear hO
      clear H
      go_wp2
      rw [← hgb] at H1 ⊢
      clear hcs
      rw [show (Obj.cells #[.int .u8 114, .int .u8 100, .int .u8 108, .int .u8 117] 5 (4, 5)) = O from HOO.out.symm]
      generalize wc.alloc O = W2 at *
      clear hgb
      go_loopw [6, 36] (fun sv iv wr => ∃ i : Nat, i ≤ 4 ∧ sv = .slice As n cs ∧ iv = .int .i64 i ∧ Hid (∀ u, u < i → edge s P u = false) ∧ Sep w wr [Res.row (.slice As n cs) 5 1 n (uc (wrd s a n)), Res.box (g + 1) 46 #[.int .i64 P.x, .int .i64 P.y], Res.box g 46 #[.int .i64 a.x, .int .i64 a.y], Res.obj gb O]) (fun _ iv _ => 4 - (intOf iv).toNat)
      case atStart => exact ⟨0, by omega, rfl, rfl, Lib.hid (fun u h => by omega), H1⟩
      case round =>
        clear H1
        obtain ⟨i, hi4, rfl, rfl, HNE, H⟩ := hrel
        by_cases hi3 : i < 4
        · obtain ⟨D, hD⟩ : ∃ D, D = dirB i := ⟨_, rfl⟩
          have q0 : wr.cell? ⟨gb, i, none⟩ = some (.int .u8 D) := by
            have hh : wr.heap[gb]? = some O := H.h3
            rw [HOO.out] at hh
            unfold World.cell?
            simp only [hh]
            rw [hD]
            have h4 : i = 0 ∨ i = 1 ∨ i = 2 ∨ i = 3 := by omega
            rcases h4 with rfl | rfl | rfl | rfl <;> rfl
          have hbw := H.below
          obtain ⟨bE, hbE⟩ : ∃ bE, bE = edge s P i := ⟨_, rfl⟩
          have HE : Hid (Calls Tryz.prog 28 #[.slice (some ⟨b, off, none⟩) s.length c, .agg #[.int .i64 P.x, .int .i64 P.y], .int .u8 D] wr fun e' w' => e' = .returned (.bool bE) ∧ Below wr.heap.size wr w') := Lib.hid (by
            rw [hbE, hD]
            exact impl_side_c P i wr ((HS.out.keep (SameIn.of_below hbw (Nat.le_refl _))).more (Nat.le_refl _) hbw.size) hl8 hi3 (by omega) (by omega))
          have k0 : wr.cell? ⟨g + 1, 0, none⟩ = some (.int .i64 P.x) := H.h1.cell 0
          have k1 : wr.cell? ⟨g + 1, 1, none⟩ = some (.int .i64 P.y) := H.h1.cell 1
          have HBE := Lib.hid hbE
          have HDD := Lib.hid hD
          clear hbE hD hbw
          cases bE
          · have HN2 : Hid (∀ u, u < i + 1 → edge s P u = false) := Lib.hid fun u h1 => by
              by_cases e' : u = i
              · subst e'; exact HBE.out.symm
              · exact HNE.out u (by omega)
            go_wp2_with fail
            with_reducible refine (HE.out).mono ?_
            rintro e' w6 ⟨rfl, b6⟩
            have H6 := H.step b6
            clear H b6 k0 k1 HE q0
            go_wp2
            go_roundw
            case rel => exact ⟨i + 1, by omega, rfl, by go_num, HN2, H6⟩
            case measure => simp [intOf]; omega
          · have HO : Hid (outD s P = i) := Lib.hid (outD_is HBI.out.bord.free hi3 HBE.out.symm)
            have HST : Hid (∀ w', Calls Tryz.prog 29 #[.agg #[.int .i64 P.x, .int .i64 P.y], .int .u8 D] w' fun e w'' => e = .returned (.tuple #[.agg #[.int .i64 Q.x, .int .i64 Q.y], .bool true]) ∧ Below w'.heap.size w' w'') := Lib.hid fun w' => by
              rw [HQS.out i HO.out, HDD.out]
              exact impl_step_c P i w' hi3 (by omega) (by omega)
            go_wp2_with fail
            with_reducible refine (HE.out).mono ?_
            rintro e' w6 ⟨rfl, b6⟩
            have H6 := H.step b6
            clear H b6 k0 k1 HE q0
            go_wp2_with (at_builtin; refine wpList_append_own_at _ rfl _ _ 22 rfl 0 5 i0 _ 1 1 Tryz.underlying22 hi hz0 hz1 hz2 rfl (by decide) _ _ _ rfl (H6.alloc _).h0 ⟨w6.heap.size, 0, none⟩ 1 1 [.int .u8 D] rfl rfl (news_alloc w6 #[.int .u8 D] _) (by intro u hu; simp at hu; subst hu; rfl) (by unfold maxLen; omega) (by omega) (Nat.zero_le _) ?_; intro s' w7 how hgrow _ hat; have H7 := (H6.alloc (.cells #[.int .u8 D] 5)).app how hgrow hat; clear how hgrow hat H6; have k0 : w7.cell? ⟨g + 1, 0, none⟩ = some (.int .i64 P.x) := H7.h1.cell 0; have k1 : w7.cell? ⟨g + 1, 1, none⟩ = some (.int .i64 P.y) := H7.h1.cell 1)
            with_reducible refine (HST.out _).mono ?_
            rintro e' w8 ⟨rfl, b8⟩
            have H8 := H7.step b8
            have f0 := H8.h1.frozen 0
            have f1 := H8.h1.frozen 1
            have k0' : w8.cell? ⟨g + 1, 0, none⟩ = some (.int .i64 P.x) := H8.h1.cell 0
            have k1' : w8.cell? ⟨g + 1, 1, none⟩ = some (.int .i64 P.y) := H8.h1.cell 1
            have H9 := (((H8.g1.set_ 0 (.int .i64 Q.x)).set_ 1 (.int .i64 Q.y)).p1.g3.drop)
            clear H7 b8 H8 k0 k1 HST
            go_wp2
            clear f0 f1 k0' k1'
            have H10 : Sep w ((w8.setCell ⟨g + 1, 0, none⟩ (.int .i64 Q.x)).setCell ⟨g + 1, 1, none⟩ (.int .i64 Q.y)) [Res.row s' 5 1 (n + 1) (uc (wrd s a (n + 1))), Res.box (g + 1) 46 #[.int .i64 (wlk s a (n + 1)).x, .int .i64 (wlk s a (n + 1)).y], Res.box g 46 #[.int .i64 a.x, .int .i64 a.y]] := by
              rw [← HQE.out, HWS.out i HO.out, uc_append, show uc [dirU i] = [.int .u8 D] by rw [HDD.out]; simp [uc, dirU_B hi3]]
              exact H9
            go_roundg (gk - 1)
            case rel => exact ⟨n + 1, by omega, by omega, H10⟩
            case measure => omega
        · exfalso
          have h4 := HNE.out (outD s P) (by have := outD_lt s P; omega)
          rw [HED.out] at h4
          cases h4
end Go.Proofs.YtghpkfihdcjlaaaGreatDoor

namespace Go.Proofs.YtghpkfihdcjlaaaGreatDoor
open Go.RowKit

theorem wstr_beqI {a b : List UInt8} : ((wstr a).toList == (wstr b).toList) = decide (a = b) := by
  rw [Lib.toList_data, Lib.toList_data, Bool.eq_iff_iff, beq_iff_eq, decide_eq_true_iff]
/-- the parities behind i letters -/
def parF (w : List UInt8) (i : Nat) (c : Cell) : Int := if c.x ≤ 40 then sumB (wndA c.x c.y) w i % 2 else 0
theorem parF_two (w : List UInt8) (i : Nat) (c : Cell) : parF w i c = 0 ∨ parF w i c = 1 := by
  unfold parF
  split <;> omega
/-- .. while a row is turned from px on -/
def rwFn (w : List UInt8) (i : Nat) (y px x : Int) (c : Cell) : Int := if c.y = y ∧ px ≤ c.x ∧ c.x < x then 1 - parF w i c else parF w i c
theorem rwFn_start (w : List UInt8) (i : Nat) (y px : Int) : rwFn w i y px px = parF w i := by
  funext c
  rw [rwFn, if_neg (by omega)]
theorem rwFn_same {w : List UInt8} {i : Nat} {y px x : Int} : ∀ d : Cell, d ≠ ⟨x, y⟩ → rwFn w i y px (x + 1) d = rwFn w i y px x d := fun d hd => by
  unfold rwFn
  by_cases h : d.y = y ∧ px ≤ d.x ∧ d.x < x
  · rw [if_pos (by omega), if_pos h]
  · by_cases h2 : d.y = y ∧ px ≤ d.x ∧ d.x < x + 1
    · exfalso
      apply hd
      cases d
      simp only at *
      rw [Cell.mk.injEq]
      omega
    · rw [if_neg h2, if_neg h]
theorem rwFn_at {w : List UInt8} {i : Nat} {y px x : Int} (h : px ≤ x) : rwFn w i y px x ⟨x, y⟩ = parF w i ⟨x, y⟩ ∧ rwFn w i y px (x + 1) ⟨x, y⟩ = 1 - parF w i ⟨x, y⟩ := by
  refine ⟨if_neg (fun h => ?_), if_pos ⟨rfl, h, ?_⟩⟩
  · have h2 : x < x := h.2.2
    omega
  · show x < x + 1
    omega
theorem parF_hor {w : List UInt8} {i : Nat} {u : UInt8} (h : w[i]? = some u) (h1 : ¬ dirN u = 1) (h3 : ¬ dirN u = 3) : parF w (i + 1) = parF w i := by
  funext c
  unfold parF
  split
  · rw [sumB, h]
    simp [wndA, h1, h3, bI]
  · rfl
theorem rwFn_end {w : List UInt8} {i : Nat} {u : UInt8} {y : Int} (h : w[i]? = some u) (hd : (dirN u = 1 ∧ y = (wayW w i).y) ∨ (dirN u = 3 ∧ y = (wayW w i).y - 1)) : rwFn w i y (wayW w i).x 41 = parF w (i + 1) := by
  funext c
  have key : wndA c.x c.y (wayW w i) (dirN u) = if c.y = y ∧ (wayW w i).x ≤ c.x then 1 else 0 := by
    generalize wayW w i = p at *
    rcases hd with ⟨e, rfl⟩ | ⟨e, rfl⟩
    · rw [e]
      by_cases a1 : c.y = p.y <;> by_cases a2 : p.x ≤ c.x
      · simp [wndA, bI, a1, a2]
      · simp [wndA, bI, a2]
      · simp [wndA, bI, a1, show ¬ p.y = c.y by omega]
      · simp [wndA, bI, a2]
    · rw [e]
      by_cases a1 : c.y = p.y - 1 <;> by_cases a2 : p.x ≤ c.x
      · simp [wndA, bI, a1, a2]
      · simp [wndA, bI, a2]
      · simp [wndA, bI, a1, show ¬ p.y - 1 = c.y by omega]
      · simp [wndA, bI, a2]
  unfold rwFn parF
  have e1 : sumB (wndA c.x c.y) w (i + 1) = sumB (wndA c.x c.y) w i + wndA c.x c.y (wayW w i) (dirN u) := by rw [sumB, h]
  rw [e1, key]
  by_cases hx : c.x ≤ 40
  · rw [if_pos hx, if_pos hx]
    by_cases hc : c.y = y ∧ (wayW w i).x ≤ c.x
    · rw [if_pos (by omega), if_pos hc]
      omega
    · rw [if_neg (by omega), if_neg hc, Int.add_zero]
  · rw [if_neg hx, if_neg hx, if_neg (by omega)]
theorem par_zero {w : List UInt8} {c : Cell} (h : ∀ i d, wndA c.x c.y (wayW w i) d = 0) : ∀ n, sumB (wndA c.x c.y) w n = 0
  | 0 => rfl
  | n + 1 => by
    rw [sumB, par_zero h n]
    cases w[n]? with
    | none => rfl
    | some u => simp only; rw [h]; rfl
theorem odd_sml {w : List UInt8} (hl : w.length ≤ 40) {c : Cell} (h : oddF w c = 1) : Sml 50 c := by
  unfold oddF at h
  split at h
  · rename_i hx
    apply Classical.byContradiction
    intro hs
    have hbig : ∀ i d, i ≤ w.length → wndA c.x c.y (wayW w i) d = 0 := fun i d hi => by
      have hb := wayW_bd w i
      unfold Sml at hs
      generalize wayW w i = p at *
      have h2 : ¬ (p.y - 1 = c.y ∧ p.x ≤ c.x) := by omega
      have h3 : ¬ (p.y = c.y ∧ p.x ≤ c.x) := by omega
      have h4 : (decide (p.y - 1 = c.y) && decide (p.x ≤ c.x)) = false := by rw [← Bool.decide_and, decide_eq_false h2]
      have h5 : (decide (p.y = c.y) && decide (p.x ≤ c.x)) = false := by rw [← Bool.decide_and, decide_eq_false h3]
      unfold wndA
      rw [h4, h5, Bool.and_false, Bool.and_false]
      rfl
    have key : ∀ n, n ≤ w.length → sumB (wndA c.x c.y) w n = 0 := by
      intro n
      induction n with
      | zero => intro _; rfl
      | succ n ih =>
        intro hn
        rw [sumB, ih (by omega)]
        cases w[n]? with
        | none => rfl
        | some u => simp only; rw [hbig n _ (by omega)]; rfl
    rw [key _ (Nat.le_refl _)] at h
    cases h
  · cases h
theorem addK_len (K : List Cell) (c : Cell) : (addK K c).length ≤ K.length + 1 := by
  unfold addK
  split <;> simp
theorem row_at2' {w : World} {e : TypeId} {b n c : Nat} {l : List Cell} (h : w.ownsRow 0 e 2 (.slice (some ⟨b, 0, none⟩) n c) n (cc l)) {j : Nat} {x : Cell} (hj : l[j]? = some x) : w.cell? ⟨b, j * 2, none⟩ = some (.int .i64 x.x) ∧ w.cell? ⟨b, j * 2 + 1, none⟩ = some (.int .i64 x.y) := by
  obtain ⟨q1, q2⟩ := row_at2 h hj
  rw [Nat.zero_add] at q1 q2
  exact ⟨q1, q2⟩
set_option maxRecDepth 100000 in
set_option maxHeartbeats 6400000 in
theorem impl_inside_c {W : List UInt8} (w : World) (hF : clB W = true → ∀ S, OddS W S → S.length ≤ 12) :
    Calls Tryz.prog 10 #[.string (wstr W)] w fun e w' => ∃ v, e = .returned (.tuple #[v, .bool (okI W)]) ∧ CellsIn w' w.heap.size w'.heap.size v (insL W) ∧ Below w.heap.size w w' := by
  obtain ⟨i0, hi, hz0, hz1, hz2⟩ := info_parts infoCellW
  have HCW := Lib.hid (impl_closed_c (W := W) w)
  have hsz : (wstr W).size = W.length := wstr_size
  obtain ⟨B, hB⟩ : ∃ B, B = wstr W := ⟨_, rfl⟩
  rw [← hB] at hsz HCW ⊢
  have HB := Lib.hid hB
  obtain ⟨C, hC⟩ : ∃ C, C = clB W := ⟨_, rfl⟩
  obtain ⟨R, hR⟩ : ∃ R, R = okI W := ⟨_, rfl⟩
  obtain ⟨RL, hRL⟩ : ∃ R, R = insL W := ⟨_, rfl⟩
  rw [← hR, ← hRL]
  rw [← hC] at HCW
  have HC := Lib.hid hC
  have HR := Lib.hid hR
  have HRL := Lib.hid hRL
  have HF := Lib.hid hF
  have hmm := @run_makeMap Tryz.prog
  clear hB hC hR hRL hF
  go_enter Tryz.func10, Tryz.ntmps10
  go_wp2_with fail
  refine (HCW.out).mono ?_
  rintro e w1 ⟨v, rfl, ho, ⟨A, nn, c, rfl⟩, b1⟩
  clear HCW
  cases C
  case false =>
    have HRF : Hid (R = false) := Lib.hid (by
      rw [HR.out]
      cases hh : okI W
      · rfl
      · have := (okI_closed hh).1; rw [← HC.out] at this; cases this)
    obtain rfl : R = false := HRF.out
    obtain rfl : RL = [] := by rw [HRL.out]; exact okI_no HR.out.symm
    have H0 := ((Sep.start w).step b1).nil 46 2
    clear HRF b1 ho
    go_wp2
    refine bodyPost_ret (results_tmp2 rfl _ _ _) rfl ?_
    exact ⟨_, rfl, H0.oi, H0.below⟩
  obtain ⟨hn40, hokl, _⟩ := clB_iff.1 HC.out.symm
  have HOK := Lib.hid hokl
  have H0 := (Sep.start w).oiNew b1 (ho rfl)
  obtain ⟨A', c', hAe, _, _, _⟩ := Res.row_at H0.h0
  injection hAe with e1 e2 e3
  subst e1; subst e2; subst e3
  obtain ⟨bs, os, cs2, hAe, _, _, _⟩ := own_shape H0.h0 (by rw [wayL_len]; omega)
  injection hAe with hAe _ hcc
  subst hAe; subst hcc
  obtain ⟨rfl, _⟩ := own_blk H0.h0
  rw [wayL_len] at H0
  obtain ⟨n, hn⟩ : ∃ n, n = W.length := ⟨_, rfl⟩
  obtain ⟨N1, hN1⟩ : ∃ N1, N1 = W.length + 1 := ⟨_, rfl⟩
  have HN := Lib.hid hn
  have HN1 := Lib.hid hN1
  have hNn : n < N1 := by omega
  have hN41 : N1 ≤ 41 := by omega
  rw [wayL_len, ← hN1]
  rw [← hN1] at H0
  rw [← hn] at hsz hn40
  have H1 := H0.cmade
  have hpf : (fun _ => (0 : Int)) = parF W 0 := by funext c; simp [parF, sumB]
  rw [hpf] at H1
  obtain ⟨mb, hmb⟩ : ∃ g, g = w1.heap.size := ⟨_, rfl⟩
  rw [← hmb] at H1
  clear hn hN1 hokl ho b1 H0 hpf
  go_wp2
  rw [← hmb]
  generalize w1.alloc (.map #[] 0) = W0 at *
  clear hmb
  go_loopw [25] (fun iv wr => ∃ (i : Nat) (K : List Cell), i ≤ n ∧ iv = .int .i64 i ∧ (K.length : Int) ≤ 100 * (i : Int) ∧ Sep w wr [Res.cmap mb K (parF W i), Res.row (.slice (some ⟨bs, 0, none⟩) N1 c) 46 2 N1 (cc (wayL W N1))]) (fun iv _ => n - (intOf iv).toNat)
  case atStart => exact ⟨0, [], Nat.zero_le _, rfl, by simp, H1⟩
  case round =>
    clear H1
    obtain ⟨i, K, hin, rfl, hKl, H⟩ := hrel
    by_cases hlt : i < n
    · have hlti : (i : Int) < (n : Int) := by omega
      have h0i : (0 : Int) ≤ (i : Int) := by omega
      have h1i : (i : Int) < (N1 : Int) := by omega
      have h2i : (i : Int) + 1 < (N1 : Int) := by omega
      obtain ⟨u, hu⟩ : ∃ u, W[i]? = some u := ⟨W[i]'(by rw [← HN.out]; exact hlt), List.getElem?_eq_getElem _⟩
      obtain ⟨hk2, hbk⟩ := wstr_at HB.out hu
      obtain ⟨p, hp⟩ : ∃ p, p = wayW W i := ⟨_, rfl⟩
      obtain ⟨q, hq⟩ : ∃ q, q = wayW W (i + 1) := ⟨_, rfl⟩
      have hpa : (wayL W N1)[i]? = some p := by rw [wayL_at (by omega), hp]
      have hqa : (wayL W N1)[i + 1]? = some q := by rw [wayL_at (by omega), hq]
      obtain ⟨q1, q2⟩ := row_at2' H.h1 hpa
      obtain ⟨q4, q5⟩ := row_at2' H.h1 hqa
      have hbd := wayW_bd W i
      rw [← hp] at hbd
      have hqs : q = stepC p (dirN u) := by rw [hq, wayW_at hu, hp]
      have hd4 := okL_at hu HOK.out
      have HU := Lib.hid hu
      have HP := Lib.hid hp
      clear hu hp hq
      rcases dir_cases u with ⟨rfl, hd⟩ | ⟨rfl, hd⟩ | ⟨rfl, hd⟩ | ⟨rfl, hd⟩ | ⟨_, _, _, _, hd⟩
      · have hbn : ((B[i]'hk2).toNat : Int) = 114 := by rw [hbk]; rfl
        rw [← parF_hor HU.out (by decide) (by decide)] at H
        clear hbk hqs hd hd4 q1 q2 q4 q5 hpa hqa
        go_wp2
        clear hbn
        go_roundw
        case rel => exact ⟨i + 1, K, by omega, by go_num, by omega, H⟩
        case measure => simp [intOf]; omega
      · have hbn : ((B[i]'hk2).toNat : Int) = 100 := by rw [hbk]; rfl
        obtain ⟨y, hy⟩ : ∃ y, y = p.y := ⟨_, rfl⟩
        have HYE : Hid (y = p.y) := Lib.hid hy
        have HQ : Hid (q.y = p.y + 1) := Lib.hid (by rw [hqs]; rfl)
        clear hqs hd hd4 hy
        have HRE : Hid (rwFn W i y p.x 41 = parF W (i + 1)) := Lib.hid (by rw [HP.out]; exact rwFn_end HU.out (.inl ⟨rfl, by rw [HYE.out, HP.out]⟩))
        have hmin : min p.y q.y = y := by rw [HYE.out, HQ.out]; omega
        have y1 : IntKind.i64.wrap ((i : Int) + 1) = (i : Int) + 1 := IntWalk.i64_in _ (by omega)
        go_upto_region 9 with fail
        go_quiet (fail)
        have H1 := H.drewN nq
        clear H hmin y1 hbk hbn
        generalize wr.drewN nq = w9 at *
        have q0 : w9.cell? ⟨bs, i * 2, none⟩ = some (.int .i64 p.x) := (row_at2' H1.h1 hpa).1
        have q3 : w9.cell? ⟨bs, i * 2 + 1, none⟩ = some (.int .i64 p.y) := (row_at2' H1.h1 hpa).2
        clear q1 q2 q4 q5 hpa hqa
        go_wp2
        clear q0 q3
        rw [← rwFn_start W i y p.x] at H1
        go_loopw [9] (fun xv wx => ∃ (x : Int) (K : List Cell), xv = .int .i64 x ∧ p.x ≤ x ∧ x ≤ 41 ∧ (K.length : Int) ≤ 100 * (i : Int) + (x - p.x) ∧ Sep w wx [Res.cmap mb K (rwFn W i y p.x x), Res.row (.slice (some ⟨bs, 0, none⟩) N1 c) 46 2 N1 (cc (wayL W N1))]) (fun xv _ => (41 - intOf xv).toNat)
        case atStart => exact ⟨p.x, K, rfl, Int.le_refl _, by omega, by omega, H1⟩
        case round =>
          clear H1 hKl
          obtain ⟨x, K, rfl, hx1, hx2, hKl, H⟩ := hrel
          by_cases hx40 : x ≤ 40
          · obtain ⟨r1, r2⟩ := rwFn_at (w := W) (i := i) (y := y) hx1
            obtain ⟨v, hv⟩ : ∃ v, v = parF W i ⟨x, y⟩ := ⟨_, rfl⟩
            have hv2 := parF_two W i ⟨x, y⟩
            rw [← hv] at r1 r2 hv2
            have hlk := CM.lookup (show CM wr mb K (rwFn W i y p.x x) from H.h0) ⟨x, y⟩
            rw [r1] at hlk
            unfold cv at hlk
            obtain ⟨w10, hup, H3⟩ := H.cput ⟨x, y⟩ (rwFn_same (w := W) (i := i) (y := y) (px := p.x) (x := x))
            rw [r2] at hup
            unfold cv at hup
            have HKL2 : Hid (((addK K ⟨x, y⟩).length : Int) ≤ 100 * (i : Int) + (x + 1 - p.x)) := Lib.hid (by have := addK_len K ⟨x, y⟩; omega)
            have y2 : wrap64 (1 - v) = 1 - v := IntWalk.wrap64_in _ (by omega)
            clear r1 r2 hv H hKl
            go_wp2
            clear hlk hup y2
            go_roundw
            case rel => exact ⟨x + 1, _, rfl, by omega, by omega, HKL2.out, H3⟩
            case measure => simp only [intOf]; omega
          · obtain rfl : x = 41 := by omega
            rw [HRE.out] at H
            have HKL2 : Hid ((K.length : Int) ≤ 100 * ((i + 1 : Nat) : Int)) := Lib.hid (by omega)
            clear hKl
            go_wp2
            go_roundw
            case rel => exact ⟨i + 1, K, by omega, by go_num, HKL2.out, H⟩
            case measure => simp [intOf]; omega
      · have hbn : ((B[i]'hk2).toNat : Int) = 108 := by rw [hbk]; rfl
        rw [← parF_hor HU.out (by decide) (by decide)] at H
        clear hbk hqs hd hd4 q1 q2 q4 q5 hpa hqa
        go_wp2
        clear hbn
        go_roundw
        case rel => exact ⟨i + 1, K, by omega, by go_num, by omega, H⟩
        case measure => simp [intOf]; omega
      · have hbn : ((B[i]'hk2).toNat : Int) = 117 := by rw [hbk]; rfl
        obtain ⟨y, hy⟩ : ∃ y, y = p.y - 1 := ⟨_, rfl⟩
        have HYE : Hid (y = p.y - 1) := Lib.hid hy
        have HQ : Hid (q.y = p.y - 1) := Lib.hid (by rw [hqs]; rfl)
        clear hqs hd hd4 hy
        have HRE : Hid (rwFn W i y p.x 41 = parF W (i + 1)) := Lib.hid (by rw [HP.out]; exact rwFn_end HU.out (.inr ⟨rfl, by rw [HYE.out, HP.out]⟩))
        have hmin : min p.y q.y = y := by rw [HYE.out, HQ.out]; omega
        have y1 : IntKind.i64.wrap ((i : Int) + 1) = (i : Int) + 1 := IntWalk.i64_in _ (by omega)
        go_upto_region 9 with fail
        go_quiet (fail)
        have H1 := H.drewN nq
        clear H hmin y1 hbk hbn
        generalize wr.drewN nq = w9 at *
        have q0 : w9.cell? ⟨bs, i * 2, none⟩ = some (.int .i64 p.x) := (row_at2' H1.h1 hpa).1
        have q3 : w9.cell? ⟨bs, i * 2 + 1, none⟩ = some (.int .i64 p.y) := (row_at2' H1.h1 hpa).2
        clear q1 q2 q4 q5 hpa hqa
        go_wp2
        clear q0 q3
        rw [← rwFn_start W i y p.x] at H1
        go_loopw [9] (fun xv wx => ∃ (x : Int) (K : List Cell), xv = .int .i64 x ∧ p.x ≤ x ∧ x ≤ 41 ∧ (K.length : Int) ≤ 100 * (i : Int) + (x - p.x) ∧ Sep w wx [Res.cmap mb K (rwFn W i y p.x x), Res.row (.slice (some ⟨bs, 0, none⟩) N1 c) 46 2 N1 (cc (wayL W N1))]) (fun xv _ => (41 - intOf xv).toNat)
        case atStart => exact ⟨p.x, K, rfl, Int.le_refl _, by omega, by omega, H1⟩
        case round =>
          clear H1 hKl
          obtain ⟨x, K, rfl, hx1, hx2, hKl, H⟩ := hrel
          by_cases hx40 : x ≤ 40
          · obtain ⟨r1, r2⟩ := rwFn_at (w := W) (i := i) (y := y) hx1
            obtain ⟨v, hv⟩ : ∃ v, v = parF W i ⟨x, y⟩ := ⟨_, rfl⟩
            have hv2 := parF_two W i ⟨x, y⟩
            rw [← hv] at r1 r2 hv2
            have hlk := CM.lookup (show CM wr mb K (rwFn W i y p.x x) from H.h0) ⟨x, y⟩
            rw [r1] at hlk
            unfold cv at hlk
            obtain ⟨w10, hup, H3⟩ := H.cput ⟨x, y⟩ (rwFn_same (w := W) (i := i) (y := y) (px := p.x) (x := x))
            rw [r2] at hup
            unfold cv at hup
            have HKL2 : Hid (((addK K ⟨x, y⟩).length : Int) ≤ 100 * (i : Int) + (x + 1 - p.x)) := Lib.hid (by have := addK_len K ⟨x, y⟩; omega)
            have y2 : wrap64 (1 - v) = 1 - v := IntWalk.wrap64_in _ (by omega)
            clear r1 r2 hv H hKl
            go_wp2
            clear hlk hup y2
            go_roundw
            case rel => exact ⟨x + 1, _, rfl, by omega, by omega, HKL2.out, H3⟩
            case measure => simp only [intOf]; omega
          · obtain rfl : x = 41 := by omega
            rw [HRE.out] at H
            have HKL2 : Hid ((K.length : Int) ≤ 100 * ((i + 1 : Nat) : Int)) := Lib.hid (by omega)
            clear hKl
            go_wp2
            go_roundw
            case rel => exact ⟨i + 1, K, by omega, by go_num, HKL2.out, H⟩
            case measure => simp [intOf]; omega
      · omega
    · obtain rfl : i = n := by omega
      have hpo : parF W i = oddF W := by funext c; rw [HN.out]; rfl
      rw [hpo] at H
      have hK4 : K.length ≤ 4000 := by omega
      obtain ⟨es, cl, HD0, H2⟩ := H.craw
      have HD := Lib.hid HD0
      have HST := Lib.hid HD0.st
      have hrg := run_range_map (P := Tryz.prog) wr 52 46 3 mb es cl cmUnder H2.h0
      have H3 := (H2.new (r := Res.rawC wr.heap.size (.mapIter (some mb) cl #[] cl)) ((Below.refl _ _).alloc (Nat.le_refl _) (.mapIter (some mb) cl #[] cl)) (heap_alloc_new wr _) (fun x hx => by have hx : x = wr.heap.size := hx; omega)).g2.drop
      have H4 := ((H3.nil 46 2).g1.g2.g1)
      have HI0 := Lib.hid (RgI.start es (oddF W))
      clear hpo HD0 H H2 H3 hKl
      go_wp2
      obtain ⟨rr, hrr⟩ : ∃ k, k = wr.heap.size := ⟨_, rfl⟩
      rw [← hrr] at H4 ⊢
      generalize wr.alloc (.mapIter (some mb) cl #[] cl) = W4 at *
      clear hrr hrg
      go_loopw [10] (fun sv wx => ∃ (seen : Array Nat) (S : List Cell), Hid (RgI es (oddF W) seen S) ∧ S.length ≤ 4000 ∧ Sep w wx [Res.rawC rr (.mapIter (some mb) cl seen cl), Res.rawC mb (.map es cl), Res.row sv 46 2 S.length (cc S)]) (fun _ wx => (leftOf es (wx.iterSeen rr)).size)
      case atStart => exact ⟨#[], [], HI0, by simp, H4⟩
      case round =>
        clear H4 HI0
        obtain ⟨seen, S, HI, hS4, H⟩ := hrel
        have HIS : Hid (wr.iterSeen rr = seen) := Lib.hid (by
          have hx : wr.heap[rr]? = some (.mapIter (some mb) cl seen cl) := H.h0
          unfold World.iterSeen
          rw [hx])
        rcases H.nextC HST.out 0 with ⟨h0, hrun⟩ | ⟨e, he, w2, hrun, hen, H2⟩
        · have hnx : ∀ ty, (Instr.next (.pointer (some ⟨rr, 0, none⟩)) false ty).run Tryz.prog wr = _ := fun _ => hrun
          have HOS : Hid (OddS W S) := Lib.hid (HI.out.done HD.out h0)
          have H3 := H.drop.drop
          have hsp := okI_impl HOS.out
          rw [← HR.out, ← HRL.out] at hsp
          have HSP := Lib.hid hsp
          obtain ⟨As, cs, rfl, _, _, _⟩ := Res.row_at H3.h0
          clear H h0 hrun hsp
          by_cases hz : S.length = 0
          · have HRF : Hid (R = false) := Lib.hid (by
              have h0 : S = [] := List.eq_nil_of_length_eq_zero hz
              rw [HSP.out.1, h0, show corner (sortC []) = [] from rfl, bord_nil, Bool.false_and])
            obtain rfl : R = false := HRF.out
            obtain rfl : RL = [] := by rw [HRL.out]; exact okI_no HR.out.symm
            have H5 := H3.nil 46 2
            clear HRF H3
            go_wp2
            refine bodyPost_ret (results_tmp2 rfl _ _ _) rfl ?_
            exact ⟨_, rfl, H5.oi, H5.below⟩
          · have hz1 : ((S.length : Int) == 0) = false := by rw [beq_eq_false_iff_ne]; omega
            have hS12 : S.length ≤ 12 := HF.out HC.out.symm S HOS.out
            have hoi : CellsIn wr w.heap.size wr.heap.size (.slice As S.length cs) S := H3.oi
            have HC1 := Lib.hid (impl_corner_c wr (hoi.rd.more (Nat.zero_le _) (Nat.le_refl _)) (by omega) hS12 (fun c hc => odd_sml (by rw [← HN.out]; exact hn40) ((HOS.out.2 c).1 hc)))
            clear hoi
            go_wp2_with fail
            refine (HC1.out).mono ?_
            rintro e w4 ⟨v4, rfl, o4, b4⟩
            obtain ⟨T, hT⟩ : ∃ T, T = corner (sortC S) := ⟨_, rfl⟩
            have hTl : T.length ≤ 12 := by
              rw [hT]; unfold corner; rw [shift_length]
              exact Nat.le_trans (nodup_len (srt_sortC.imp fun {p q} hpq e => by rw [bef_iff, e] at hpq; omega) fun c hc => mem_sortC.1 hc) hS12
            rw [← hT] at o4 HSP
            have H4 := H3.oiNew b4 o4
            have HBW := Lib.hid (impl_bord_c w4 (o4.rd.more (Nat.zero_le _) (Nat.le_refl _)) (by omega))
            obtain ⟨A4, c4, rfl, _, _⟩ := o4.rd
            obtain ⟨ok, hok⟩ : ∃ b, b = bordOk T := ⟨_, rfl⟩
            obtain ⟨BT, hBT⟩ : ∃ b, b = wstr (bordW T) := ⟨_, rfl⟩
            obtain ⟨ew, hew⟩ : ∃ b, b = decide (bordW T = W) := ⟨_, rfl⟩
            rw [← hok, ← hBT] at HBW
            rw [← hok, ← hew] at HSP
            have HEW : Hid ((BT.toList == B.toList) = ew) := Lib.hid (by rw [hBT, hew, HB.out]; exact wstr_beqI)
            clear HC1 o4 b4 hT hok hBT hew H3 hz1 hnx
            go_wp2_with fail
            refine (HBW.out).mono ?_
            rintro e w6 ⟨rfl, b6⟩
            have H6 := H4.step b6
            clear HBW H4 b6
            have hew := HEW.out
            cases ok
            case false =>
              have HRF : Hid (R = false) := Lib.hid (by rw [HSP.out.1, Bool.false_and])
              obtain rfl : R = false := HRF.out
              obtain rfl : RL = [] := by rw [HRL.out]; exact okI_no HR.out.symm
              have H7 := H6.nil 46 2
              clear HRF H6
              go_wp2
              refine bodyPost_ret (results_tmp2 rfl _ _ _) rfl ?_
              exact ⟨_, rfl, H7.oi, H7.below⟩
            cases ew
            case false =>
              have HRF : Hid (R = false) := Lib.hid (by rw [HSP.out.1, Bool.and_false])
              obtain rfl : R = false := HRF.out
              obtain rfl : RL = [] := by rw [HRL.out]; exact okI_no HR.out.symm
              have H7 := H6.nil 46 2
              clear HRF H6
              go_wp2
              refine bodyPost_ret (results_tmp2 rfl _ _ _) rfl ?_
              exact ⟨_, rfl, H7.oi, H7.below⟩
            case true =>
              have HRF : Hid (R = true) := Lib.hid HSP.out.1
              obtain rfl : R = true := HRF.out
              obtain rfl : RL = T := HSP.out.2 rfl
              clear HRF
              go_wp2
              refine bodyPost_ret (results_tmp2 rfl _ _ _) rfl ?_
              exact ⟨_, rfl, H6.oi, H6.below⟩
        · obtain ⟨d, hdK, ek⟩ := HD.out.isKey e (mem_left he).1
          have ev := HD.out.vals e (mem_left he).1 d ek
          have HEK := Lib.hid ek
          have HLS := Lib.hid (left_shrinks es seen e he)
          have HME := Lib.hid (mem_left he)
          obtain ⟨fv, hfv⟩ : ∃ v, v = oddF W d := ⟨_, rfl⟩
          rw [← hfv] at ev
          have HFV := Lib.hid hfv
          rw [ek, ev] at hrun hen
          unfold cv at hrun hen
          have hnx : ∀ ty, (Instr.next (.pointer (some ⟨rr, 0, none⟩)) false ty).run Tryz.prog wr = _ := fun _ => hrun
          have H3 := H2.box 46 #[.int .i64 d.x, .int .i64 d.y]
          clear hrun ek ev he H H2 hfv hdK
          go_upto_region 19 with fail
          obtain ⟨gd, hgd⟩ : ∃ k, k = w2.heap.size := ⟨_, rfl⟩
          rw [← hgd] at H3 ⊢
          generalize w2.alloc (.cells #[.int .i64 d.x, .int .i64 d.y] 46) = W5 at *
          clear hgd hen hnx
          by_cases hf1 : fv = 1
          · subst hf1
            have HRI : Hid (RgI es (oddF W) (seen.push e.born) (S ++ [d])) := Lib.hid (HI.out.yes HST.out HME.out.1 HME.out.2 HEK.out HFV.out.symm)
            have hlen : (S ++ [d]).length ≤ 4000 := Nat.le_trans (HRI.out.len HD.out) hK4
            generalize e.born = bn at *
            have k0 : W5.cell? ⟨gd, 0, none⟩ = some (.int .i64 d.x) := H3.h0.cell 0
            have k1 : W5.cell? ⟨gd, 1, none⟩ = some (.int .i64 d.y) := H3.h0.cell 1
            have H4 := H3.drop.g2
            clear H3
            go_wp2_with (at_builtin; refine wpList_app rfl _ _ 24 rfl 46 i0 _ 2 16 Tryz.underlying24 hi hz0 hz1 hz2 rfl (by decide) _ _ _ rfl (H4.alloc _) _ _ _ [.int .i64 d.x, .int .i64 d.y] rfl (Rd.fresh W5 _ #[.int .i64 d.x, .int .i64 d.y] 2 1 rfl) oc2 (by unfold maxLen; omega) (by omega) ?_; intro v3 w3' H5; clear H4 k0 k1)
            have H6 : Sep w w3' [Res.rawC rr (.mapIter (some mb) cl (seen.push bn) cl), Res.rawC mb (.map es cl), Res.row v3 46 2 (S ++ [d]).length (cc (S ++ [d]))] := by
              rw [cc_append, List.length_append]; exact H5.p2
            clear H5
            have HI2 : Hid (w3'.iterSeen rr = seen.push bn) := Lib.hid (by
              have hx : w3'.heap[rr]? = some (.mapIter (some mb) cl (seen.push bn) cl) := H6.h0
              unfold World.iterSeen
              rw [hx])
            go_roundw
            case rel => exact ⟨seen.push bn, S ++ [d], HRI, hlen, H6⟩
            case measure => rw [HI2.out, HIS.out]; exact HLS.out
          · have hf2 : (fv == 1) = false := beq_eq_false_iff_ne.2 hf1
            have HRI : Hid (RgI es (oddF W) (seen.push e.born) S) := Lib.hid (HI.out.no HST.out HME.out.1 HEK.out (by rw [← HFV.out]; exact hf1))
            generalize e.born = bn at *
            have H4 := H3.drop
            clear H3 hf1
            have HI2 : Hid (W5.iterSeen rr = seen.push bn) := Lib.hid (by
              have hx : W5.heap[rr]? = some (.mapIter (some mb) cl (seen.push bn) cl) := H4.h0
              unfold World.iterSeen
              rw [hx])
            go_wp2
            clear hf2
            go_roundw
            case rel => exact ⟨seen.push bn, S, HRI, hS4, H4⟩
            case measure => rw [HI2.out, HIS.out]; exact HLS.out
end Go.Proofs.YtghpkfihdcjlaaaGreatDoor
