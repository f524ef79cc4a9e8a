
/-
  Holes: the walk of the program's 'HolesOf'.
-/
import Derived.Test.YtbdffadhieljbaaGreatDoorSlH
import Derived.Test.YtbdffadhieljbaaGreatDoorShpFG
import Derived.Test.YtbdffadhieljbaaGreatDoorPutX
import Derived.Deep.DeepCutAuto
namespace Go.Proofs.YtbdffadhieljbaaGreatDoor
open Go.RowKit

/-- the marks of a grid of ten by ten -/
def gix (c : Cell) : Nat := (c.y * 10 + c.x).toNat
structure GInv (V : Cell → Prop) (G : List Bool) : Prop where
  len : G.length = 100
  val : ∀ c : Cell, 0 ≤ c.x ∧ c.x ≤ 9 → 0 ≤ c.y ∧ c.y ≤ 9 → ∃ f, G[gix c]? = some f ∧ (f = true ↔ V c)
theorem GInv.start : GInv (fun _ => False) (List.replicate 100 false) := ⟨by simp, fun c h1 h2 => ⟨false, by
  unfold gix
  rw [List.getElem?_replicate, if_pos (by omega)], by simp⟩⟩
theorem GInv.imp {V V' : Cell → Prop} {G : List Bool} (h : GInv V G) (hi : ∀ c, V c ↔ V' c) : GInv V' G := ⟨h.len, fun c h1 h2 => by
  obtain ⟨f, h3, h4⟩ := h.val c h1 h2
  exact ⟨f, h3, h4.trans (hi c)⟩⟩
theorem GInv.set {V : Cell → Prop} {G : List Bool} (h : GInv V G) {d : Cell} (d1 : 0 ≤ d.x ∧ d.x ≤ 9) (d2 : 0 ≤ d.y ∧ d.y ≤ 9) : GInv (fun c => V c ∨ c = d) (G.set (gix d) true) := ⟨by simpa using h.len, fun c h1 h2 => by
  obtain ⟨f, h3, h4⟩ := h.val c h1 h2
  have hl := h.len
  by_cases e : c = d
  · subst e
    refine ⟨true, ?_, by simp⟩
    rw [List.getElem?_set_self (by unfold gix; omega)]
  · refine ⟨f, ?_, by rw [h4]; exact ⟨.inl, fun hh => hh.resolve_right e⟩⟩
    rw [List.getElem?_set_ne, h3]
    intro he
    apply e
    obtain ⟨x, y⟩ := c
    obtain ⟨u, v⟩ := d
    unfold gix at he
    simp only at *
    rw [Cell.mk.injEq]
    omega⟩
abbrev gridA (G : List Bool) : Array Value := (bc G).toArray
theorem gridA_at {w : World} {g : Nat} {t : TypeId} {G : List Bool} (h : Blk w g t (gridA G)) {i : Nat} {f : Bool} (hi : G[i]? = some f) : w.cell? ⟨g, i, none⟩ = some (.bool f) := by
  rw [h.cell, List.getElem?_toArray]
  exact bc_at hi
theorem gridA_set {G : List Bool} {i : Nat} {f : Bool} : (gridA G).setIfInBounds i (.bool f) = gridA (G.set i f) := by
  simp only [gridA, ← bc_set]
  exact List.setIfInBounds_toArray _ _ _

set_option maxRecDepth 100000 in
set_option maxHeartbeats 800000 in
theorem sides_c (c : Cell) (w : World) (h1 : -100 ≤ c.x ∧ c.x ≤ 100) (h2 : -100 ≤ c.y ∧ c.y ≤ 100) :
    Calls Tryz.prog 63 #[.agg #[.int .i64 c.x, .int .i64 c.y]] w fun e w' => ∃ v', e = .returned v' ∧ CellsIn w' w.heap.size w'.heap.size v' [nbi c 0, nbi c 1, nbi c 2, nbi c 3] ∧ (∃ g, v' = .slice (some ⟨g, 0, none⟩) 4 4) ∧ Below w.heap.size w w' := by
  have H0 := (Sep.start w).step ((Below.refl _ _).alloc (Nat.le_refl _) (.cells #[.int .i64 c.x, .int .i64 c.y] 39))
  have H := H0.rowBox 39 #[.int .i64 c.x, .int .i64 (c.y - 1), .int .i64 (c.x - 1), .int .i64 c.y, .int .i64 (c.x + 1), .int .i64 c.y, .int .i64 c.x, .int .i64 (c.y + 1)] 2 4 rfl (by decide)
  simp only [World.size_alloc] at H
  clear H0
  go_enter Tryz.func63, Tryz.ntmps63
  go_wp2
  go_ret
  exact ⟨_, rfl, CellsIn.mk H.oi.1 rfl rfl, ⟨_, rfl⟩, H.below⟩

theorem QI.of_row1 {w : World} {lo sz n g0 c0 : Nat} {e : TypeId} {xs : List Value} (h : w.ownsRow lo e sz (.slice (some ⟨g0, 0, none⟩) n c0) n xs) : QI w lo e sz (.slice (some ⟨g0, 0, none⟩) n c0) n xs := by
  refine ⟨h.1, ?_⟩
  rcases h.2 with ⟨h0, _⟩ | ⟨g, cap, cur, he, hbg, hgg, h1, h2, h3, h4⟩
  · cases h0
  · right
    refine ⟨g, 0, cap, cur, he, hbg, hgg, h1, h2, by omega, fun j u hu => ?_⟩
    rw [← h4, List.getElem?_take] at hu
    split at hu
    · rw [Nat.zero_add, ← Array.getElem?_toList]; exact hu
    · cases hu
theorem gix_nat {u v : Nat} : gix ⟨(u : Int), (v : Int)⟩ = v * 10 + u := by unfold gix; simp only; omega
theorem shp_take {s : List Cell} {k : Nat} {d c : Cell} (h : s[k]? = some d) : shpAt (s.take (k + 1)) c ↔ shpAt (s.take k) c ∨ c = ⟨d.x + 1, d.y + 1⟩ := by
  obtain ⟨hk, rfl⟩ := List.getElem?_eq_some_iff.1 h
  unfold shpAt
  rw [List.take_succ_eq_append_getElem hk, List.mem_append, List.mem_singleton]
  obtain ⟨x, y⟩ := c
  simp only [Cell.mk.injEq]
  generalize s[k] = q
  obtain ⟨a, b⟩ := q
  simp only [Cell.mk.injEq]
  constructor
  · rintro (h | h)
    · exact .inl h
    · exact .inr (by omega)
  · rintro (h | h)
    · exact .inl h
    · exact .inr (by omega)
set_option maxRecDepth 100000 in
set_option maxHeartbeats 6400000 in
theorem impl_holes_c {v : Value} {s : List Cell} (w : World) (h : CellsRd w 0 w.heap.size v s) (hn : s.length ≤ 1048576) :
    Calls Tryz.prog 27 #[v] w fun e w' => e = .returned (.int .i64 (holesZ s)) ∧ Below w.heap.size w w' := by
  obtain ⟨i0, hi, hz0, hz1, hz2⟩ := info_parts infoCellS
  have HS0 := Lib.hid (impl_isShape_c w h hn)
  obtain ⟨A, c, rfl, hm, hr⟩ := id h
  obtain ⟨R, hR⟩ : ∃ R : Int, R = holesZ s := ⟨_, rfl⟩
  rw [← hR]
  have HR := Lib.hid hR
  have HRS := Lib.hid hr
  clear h hR hr hm
  go_enter Tryz.func27, Tryz.ntmps27
  go_wp2_with fail
  refine (HS0.out).mono ?_
  rintro e w1 ⟨rfl, b1⟩
  clear HS0
  cases hsh : isShape s
  · obtain rfl : R = -1 := by rw [HR.out, holesZ, hsh]; rfl
    clear hsh
    go_wp2
    go_ret
    exact ⟨rfl, b1⟩
  obtain ⟨hl1, hl8⟩ := shp_len hsh
  have HSH := Lib.hid hsh
  have HR2 : Hid (R = (holesN s : Nat)) := Lib.hid (by rw [HR.out, holesZ, hsh]; rfl)
  have HON : Hid (∀ c ∈ s, On c) := Lib.hid fun c hc => shp_on hsh hc
  obtain ⟨b, off, hA, _, hb, hc⟩ := HRS.out.2 (by omega)
  subst hA
  have HCE := Lib.hid hc
  have hz : gridA (List.replicate 100 false) = Tryz.zeroCells59 := by kernel_rfl
  have H0 := ((Sep.start w).step b1).box 59 Tryz.zeroCells59
  rw [← hz] at H0
  obtain ⟨g, hg⟩ : ∃ g, g = w1.heap.size := ⟨_, rfl⟩
  have HZ := Lib.hid hz
  clear hsh hc b1 hz
  go_wp2
  rw [← HZ.out, ← hg]
  rw [← hg] at H0
  generalize hW : w1.alloc (.cells (gridA (List.replicate 100 false)) 59) = W at *
  clear hW hg HZ
  go_loopw [18] (fun i wr => ∃ (k : Nat) (G : List Bool), k ≤ s.length ∧ i = .int .i64 k ∧ Hid (GInv (shpAt (s.take k)) G) ∧ Sep w wr [Res.box g 59 (gridA G)]) (fun i _ => s.length - (intOf i).toNat)
  case atStart => exact ⟨0, _, Nat.zero_le _, rfl, Lib.hid (GInv.start.imp fun c => by simp [shpAt]), H0⟩
  case round =>
    clear H0
    obtain ⟨k, G, hk, rfl, HG, H⟩ := hrel
    by_cases hlt : k < s.length
    · obtain ⟨d, hla⟩ : ∃ d, s[k]? = some d := ⟨s[k], List.getElem?_eq_getElem hlt⟩
      obtain ⟨⟨o1, o2⟩, o3, o4⟩ := HON.out d (List.mem_of_getElem? hla)
      have hbw := H.below
      have q1 : wr.cell? ⟨b, off + k * 2, none⟩ = some (.int .i64 d.x) := (hbw.cell (p := ⟨b, off + k * 2, none⟩) hb).trans (HCE.out _ _ (cc_at hla).1)
      have q2 : wr.cell? ⟨b, off + k * 2 + 1, none⟩ = some (.int .i64 d.y) := (hbw.cell (p := ⟨b, off + k * 2 + 1, none⟩) hb).trans (by rw [Nat.add_assoc]; exact HCE.out _ _ (cc_at hla).2)
      obtain ⟨u, hu⟩ : ∃ u : Nat, d.x + 1 = (u : Int) := ⟨(d.x + 1).toNat, by omega⟩
      obtain ⟨v, hv⟩ : ∃ v : Nat, d.y + 1 = (v : Int) := ⟨(d.y + 1).toNat, by omega⟩
      have hu10 : u < 10 := by omega
      have hv10 : v < 10 := by omega
      have HL := Lib.hid hla
      obtain ⟨f, hf, _⟩ := HG.out.val ⟨(u : Int), (v : Int)⟩ (by simp only; omega) (by simp only; omega)
      rw [gix_nat] at hf
      have hset := HG.out.set (d := ⟨(u : Int), (v : Int)⟩) (by simp only; omega) (by simp only; omega)
      rw [gix_nat] at hset
      have HG2 : Hid (GInv (shpAt (s.take (k + 1))) (G.set (v * 10 + u) true)) := Lib.hid (hset.imp fun c => by rw [shp_take HL.out, hu, hv])
      have H1 := (H.box 39 #[.int .i64 d.x, .int .i64 d.y])
      obtain ⟨gc, hgc⟩ : ∃ gc, gc = wr.heap.size := ⟨_, rfl⟩
      rw [← hgc] at H1
      clear hla hbw H hset
      go_upto_region 7 with fail
      generalize wr.alloc (.cells #[.int .i64 d.x, .int .i64 d.y] 39) = wb at *
      rw [← hgc]
      clear q1 q2 hgc
      have k0 : wb.cell? ⟨gc, 0, none⟩ = some (.int .i64 d.x) := H1.h0.cell 0
      have k1 : wb.cell? ⟨gc, 1, none⟩ = some (.int .i64 d.y) := H1.h0.cell 1
      refine wp_region_stq 8 (by kernel_rfl) (by kernel_rfl) ?_
      simp only [List.take_succ_cons, List.take_zero, List.drop_succ_cons, List.drop_zero]
      repeat (first | go_big_quiet_skip | (go_big_quiet_want; go_big_quiet_op; first | go_big_quiet_on | (apply Exists.intro; refine ⟨?_, ?_⟩; focus (fail); go_big_quiet_on)))
      refine wpQuiet_nil ?_
      have kf := H1.drew.h1.frozen (v * 10 + u)
      have kc := gridA_at H1.drew.h1 hf
      have H2 := (H1.g1.drew.set_ (v * 10 + u) (.bool true)).drop2
      rw [gridA_set] at H2
      clear H1 k0 k1
      go_wp2
      clear kf kc
      go_roundw
      case rel => exact ⟨k + 1, _, by omega, by go_num, HG2, H2⟩
      case measure => simp [intOf]; omega
    · obtain rfl : k = s.length := by omega
      have HG0 : Hid (GInv (fun c => shpAt s c ∨ c ∈ ([] : List Cell)) G) := Lib.hid (HG.out.imp fun c => by rw [List.take_length]; simp)
      go_wp2
      go_loopw [6, 31] (fun pv yv wr => ∃ (S L : List Cell) (G : List Bool) (y m : Nat), y ≤ 10 ∧ yv = .int .i64 y ∧ pv = .int .i64 m ∧ m ≤ 100 ∧ Hid (m = L.length) ∧ Hid (KInv s S L ⟨0, (y : Int)⟩) ∧ Hid (GInv (fun c => shpAt s c ∨ c ∈ S) G) ∧ Sep w wr [Res.box g 59 (gridA G)]) (fun _ yv _ => 10 - (intOf yv).toNat)
      case atStart => exact ⟨[], [], G, 0, 0, by omega, rfl, rfl, by omega, Lib.hid rfl, Lib.hid KInv.start, HG0, H⟩
      case round =>
        clear H HG HG0 hk hlt
        obtain ⟨S, L, G, y, m, hy10, rfl, rfl, hm, HM, HK, HG, H⟩ := hrel
        by_cases hy : y < 10
        · obtain ⟨wo, hwo⟩ : ∃ wo : World, wo = wr := ⟨_, rfl⟩
          subst hwo
          go_wp2
          go_loopw [6, 34] (fun pv xv wr => ∃ (S L : List Cell) (G : List Bool) (x m : Nat), x ≤ 10 ∧ xv = .int .i64 x ∧ pv = .int .i64 m ∧ m ≤ 100 ∧ Hid (m = L.length) ∧ Hid (KInv s S L ⟨(x : Int), (y : Int)⟩) ∧ Hid (GInv (fun c => shpAt s c ∨ c ∈ S) G) ∧ Sep w wr [Res.box g 59 (gridA G)]) (fun _ xv _ => 10 - (intOf xv).toNat)
          case atStart => exact ⟨S, L, G, 0, m, by omega, rfl, rfl, hm, HM, HK, HG, H⟩
          case round =>
            clear H hm HM HK HG
            obtain ⟨S, L, G, x, m, hx10, rfl, rfl, hm, HM, HK, HG, H⟩ := hrel
            by_cases hx : x < 10
            · obtain ⟨f, hf, hfV⟩ := HG.out.val ⟨(x : Int), (y : Int)⟩ (by simp only; omega) (by simp only; omega)
              rw [gix_nat] at hf
              have q1 := gridA_at H.h0 hf
              have HF := Lib.hid hf
              have HFV := Lib.hid hfV
              clear hf hfV
              cases f
              rotate_left
              · have hk2 : KInv s S L ⟨(x : Int) + 1, (y : Int)⟩ := HK.out.skip fun hfr => (HFV.out.1 rfl).resolve_left (frG_iff.1 hfr).2.2
                have HK2 : Hid (KInv s S L ⟨((x + 1 : Nat) : Int), (y : Int)⟩) := Lib.hid hk2
                clear hk2
                go_wp2
                clear q1
                go_roundw
                case rel => exact ⟨S, L, G, x + 1, m, by omega, by go_num, rfl, hm, HM, HK2, HG, H⟩
                case measure => simp [intOf]; omega
              have hnv : ¬ (shpAt s ⟨(x : Int), (y : Int)⟩ ∨ (⟨(x : Int), (y : Int)⟩ : Cell) ∈ S) := fun h => by have := HFV.out.2 h; cases this
              have HFR : Hid (frG s ⟨(x : Int), (y : Int)⟩ = true) := Lib.hid (frG_iff.2 ⟨by simp only; omega, by simp only; omega, fun h => hnv (.inl h)⟩)
              have HNS : Hid (¬ (⟨(x : Int), (y : Int)⟩ : Cell) ∈ S) := Lib.hid fun h => hnv (.inr h)
              have HF0 := Lib.hid (Fle.start (B := (· ∈ S)) HFR.out HNS.out)
              have kf := H.h0.frozen (y * 10 + x)
              have hset := HG.out.set (d := ⟨(x : Int), (y : Int)⟩) (by simp only; omega) (by simp only; omega)
              rw [gix_nat] at hset
              have HG2 : Hid (GInv (fun c => shpAt s c ∨ c ∈ S ∨ c ∈ [(⟨(x : Int), (y : Int)⟩ : Cell)]) (G.set (y * 10 + x) true)) := Lib.hid (hset.imp fun c => by rw [List.mem_singleton, or_assoc])
              have H1 := H.set_ (y * 10 + x) (.bool true)
              rw [gridA_set] at H1
              have H2 := H1.rowBox 39 #[.int .i64 (x : Int), .int .i64 (y : Int)] 2 1 rfl (by decide)
              clear hnv hset H1 H
              go_wp2
              clear q1 kf
              have hsz : (wr.setCell ⟨g, y * 10 + x, none⟩ (.bool true)).heap.size = wr.heap.size := by simp
              rw [hsz] at H2
              have H3 := H2.say (r' := Res.que (.slice (some ⟨wr.heap.size, 0, none⟩) 1 1) 39 2 1 (cc [(⟨(x : Int), (y : Int)⟩ : Cell)])) (fun h => QI.of_row1 h) (fun _ h => h)
              clear H2 hsz
              generalize (wr.setCell ⟨g, y * 10 + x, none⟩ (.bool true)).alloc (.cells #[.int .i64 (x : Int), .int .i64 (y : Int)] 39) = W1 at *
              go_loopg [9] 101 (fun gk qv wr => ∃ (n : Nat) (T Q : List Cell) (G : List Bool), gk + n = 101 ∧ n ≤ T.length ∧ T.length ≤ 100 ∧ Hid (Q = T.drop n) ∧ Hid (Fle (frG s) (· ∈ S) ⟨(x : Int), (y : Int)⟩ T n 0) ∧ Hid (GInv (fun c => shpAt s c ∨ c ∈ S ∨ c ∈ T) G) ∧ Sep w wr [Res.que qv 39 2 Q.length (cc Q), Res.box g 59 (gridA G)])
              case atStart => exact ⟨0, [⟨(x : Int), (y : Int)⟩], [⟨(x : Int), (y : Int)⟩], _, rfl, by simp, by simp, Lib.hid rfl, HF0, HG2, H3⟩
              case round =>
                clear H3 HG2 HF0
                obtain ⟨n, T, Q, G, hgk, hnT, hT, HQ, HFl, HG2, H⟩ := hrel
                cases Q with
                | nil =>
                  have hTn : T.length ≤ n := by
                    have := congrArg List.length HQ.out
                    rw [List.length_drop] at this
                    simp at this
                    omega
                  have hk2 := HK.out.add HFR.out HNS.out HFl.out hTn
                  have HK2 : Hid (KInv s (S ++ T) (L ++ [(⟨(x : Int), (y : Int)⟩ : Cell)]) ⟨((x + 1 : Nat) : Int), (y : Int)⟩) := Lib.hid hk2
                  have hm2 : m + 1 ≤ 100 := by
                    have := hk2.llen
                    rw [List.length_append, ← HM.out] at this
                    exact this
                  have HM2 : Hid (m + 1 = (L ++ [(⟨(x : Int), (y : Int)⟩ : Cell)]).length) := Lib.hid (by rw [List.length_append, HM.out]; rfl)
                  have HG3 : Hid (GInv (fun c => shpAt s c ∨ c ∈ S ++ T) G) := Lib.hid (HG2.out.imp fun c => by rw [List.mem_append])
                  obtain ⟨Aq, cq, rfl⟩ := QI.shape H.h0
                  have H2 := H.drop
                  have hyd : decide ((y : Int) < 10) = true := decide_eq_true (by omega)
                  clear hk2 H
                  go_wp2
                  go_roundw
                  case rel =>
                    rw [hyd]
                    (repeat apply Exists.intro)
                    exact ⟨⟨S ++ T, L ++ [⟨(x : Int), (y : Int)⟩], G, x + 1, m + 1, by omega, by go_num, by go_num, hm2, HM2, HK2, HG3, H2⟩, rfl⟩
                  case measure => simp [intOf]; omega
                | cons c Q =>
                  have hTc : T[n]? = some c := by
                    have := congrArg (fun l => l[0]?) HQ.out
                    simp only [List.getElem?_cons_zero, List.getElem?_drop, Nat.add_zero] at this
                    exact this.symm
                  have HTC := Lib.hid hTc
                  have hnT2 : n < T.length := (List.getElem?_eq_some_iff.1 hTc).1
                  have HQ2 : Hid (Q = T.drop (n + 1)) := Lib.hid (by
                    have := congrArg List.tail HQ.out
                    rw [List.tail_cons, List.tail_drop] at this
                    exact this)
                  have hcf := frG_iff.1 (HFl.out.reach c (List.mem_of_getElem? hTc)).2.2
                  obtain ⟨⟨c1, c2'⟩, ⟨c3, c4⟩, _⟩ := hcf
                  have hql : (c :: Q).length = Q.length + 1 := rfl
                  rw [hql] at H
                  have hQ100 : Q.length ≤ 100 := by rw [HQ2.out, List.length_drop]; omega
                  obtain ⟨gq, oq, capq, csq, hqv, _, hbq, hnc, hcm, _, hcells⟩ := QI.at_ H.h0 (by omega)
                  subst hqv
                  have k0 : wr.cell? ⟨gq, oq, none⟩ = some (.int .i64 c.x) := hcells 0 _ rfl
                  have k1 : wr.cell? ⟨gq, oq + 1, none⟩ = some (.int .i64 c.y) := hcells 1 _ rfl
                  have H1 := H.box 39 #[.int .i64 c.x, .int .i64 c.y]
                  obtain ⟨gc, hgc⟩ : ∃ gc, gc = wr.heap.size := ⟨_, rfl⟩
                  rw [← hgc] at H1
                  have HQX : Hid (QI (wr.alloc (.cells #[.int .i64 c.x, .int .i64 c.y] 39)) 0 39 2 (.slice (some ⟨gq, oq, none⟩) (Q.length + 1) capq) (Q.length + 1) (cc (c :: Q))) := Lib.hid H1.h1
                  have hd0 : decide ((0 : Int) < ((Q.length + 1 : Nat) : Int)) = true := decide_eq_true (by omega)
                  have hd1 : decide ((0 : Int) < (Q.length : Int) + 1) = true := decide_eq_true (by omega)
                  clear hTc hql hcells hbq H
                  go_wp2_with (refine wpList_tail_q _ rfl _ 25 rfl 0 39 i0 2 Tryz.underlying25 hi hz1 (by decide) gq oq Q.length capq _ rfl hnc HQX.out ?_; clear HQX; intro tv hq2 htv)
                  clear k0 k1 hd0 hd1
                  have H2 := H1.g1.say (r' := Res.que tv 39 2 Q.length (cc Q)) (fun _ => hq2) (fun b hb => by
                    have hb : tv.ownBlock = some b := hb
                    rw [htv] at hb
                    exact hb)
                  clear H1 hq2 htv
                  generalize wr.alloc (.cells #[.int .i64 c.x, .int .i64 c.y] 39) = W2 at *
                  rw [← hgc]
                  clear hgc
                  refine (sides_c c W2 (by omega) (by omega)).mono ?_
                  rintro e W3 ⟨v3, rfl, o3, ⟨gs, rfl⟩, b3⟩
                  have H3 := (H2.oiNew b3 o3).p3
                  clear H2 o3 b3
                  go_wp2
                  obtain ⟨wp, hwp⟩ : ∃ wp : World, wp = W3 := ⟨_, rfl⟩
                  subst hwp
                  go_loopw [9, 63] (fun qv ev wr => ∃ (e : Nat) (T Q : List Cell) (G : List Bool), e ≤ 4 ∧ ev = .int .i64 e ∧ n < T.length ∧ T.length ≤ 100 ∧ Hid (T[n]? = some c) ∧ Hid (Q = T.drop (n + 1)) ∧ Q.length ≤ 100 ∧ Hid (Fle (frG s) (· ∈ S) ⟨(x : Int), (y : Int)⟩ T n e) ∧ Hid (GInv (fun c => shpAt s c ∨ c ∈ S ∨ c ∈ T) G) ∧ Sep w wr [Res.que qv 39 2 Q.length (cc Q), Res.box gc 39 #[.int .i64 c.x, .int .i64 c.y], Res.box g 59 (gridA G), Res.row (.slice (some ⟨gs, 0, none⟩) 4 4) 39 2 4 (cc [nbi c 0, nbi c 1, nbi c 2, nbi c 3])]) (fun _ ev _ => 4 - (intOf ev).toNat)
                  case atStart => exact ⟨0, T, Q, G, by omega, rfl, hnT2, hT, HTC, HQ2, hQ100, HFl, HG2, H3⟩
                  case round =>
                    clear H3 hnT2 hT HTC HQ2 hQ100 HFl HG2 hnT HQ
                    obtain ⟨e, T, Q, G, he4, rfl, hnT, hT, HTC, HQ, hQ100, HFl, HG2, H⟩ := hrel
                    by_cases hlt : e < 4
                    · obtain ⟨⟨X, Y⟩, hnb⟩ : ∃ nb, nb = nbi c e := ⟨_, rfl⟩
                      have hat : [nbi c 0, nbi c 1, nbi c 2, nbi c 3][e]? = some (⟨X, Y⟩ : Cell) := by
                        rw [hnb]
                        have h4 : e = 0 ∨ e = 1 ∨ e = 2 ∨ e = 3 := by omega
                        rcases h4 with rfl | rfl | rfl | rfl <;> rfl
                      have hadj := (nbi_adj (c := c) hlt).near
                      rw [← hnb] at hadj
                      simp only at hadj
                      have HNB := Lib.hid hnb
                      obtain ⟨q1, q2⟩ := row_at2 H.h3 hat
                      rw [Nat.zero_add] at q1 q2
                      have H1 := H.box 39 #[.int .i64 X, .int .i64 Y]
                      obtain ⟨gd, hgd⟩ : ∃ gd, gd = wr.heap.size := ⟨_, rfl⟩
                      rw [← hgd] at H1
                      obtain ⟨Aq, cq, rfl⟩ := QI.shape H.h0
                      have n1 : -1 ≤ X := by omega
                      have n2 : X ≤ 10 := by omega
                      have n3 : -1 ≤ Y := by omega
                      have n4 : Y ≤ 10 := by omega
                      clear hnb hat hadj H
                      go_upto_region 26 with fail
                      generalize wr.alloc (.cells #[.int .i64 X, .int .i64 Y] 39) = W4 at *
                      rw [← hgd]
                      clear q1 q2 hgd
                      have l0 := Later.cell (W := W4) (p := ⟨gd, 0, none⟩) (v := .int .i64 X) (H1.h0.cell 0) H1.h0.lt
                      have l1 := Later.cell (W := W4) (p := ⟨gd, 1, none⟩) (v := .int .i64 Y) (H1.h0.cell 1) H1.h0.lt
                      cases hnx : inR X 0 9
                      · have HFs : Hid (Fle (frG s) (· ∈ S) ⟨(x : Int), (y : Int)⟩ T n (e + 1)) := Lib.hid (HFl.out.skip HTC.out fun hf => by
                          rw [← HNB.out] at hf
                          have := (frG_iff.1 hf).1
                          unfold inR at hnx
                          simp at hnx
                          simp only at this
                          omega)
                        have HNX : Hid (∀ w : World, Calls Tryz.prog 56 #[.int .i64 X, .int .i64 0, .int .i64 9] w fun e w' => e = .returned (.bool false) ∧ w = w') := Lib.hid fun w => by
                          have := between_r X 0 9 w
                          rw [hnx] at this
                          exact this
                        clear hnx
                        refine wp_region_later (by kernel_rfl) (by kernel_rfl) ?_
                        repeat (go_big_quiet_step ((go_at_call 56; exact Later.same (HNX.out _))))
                        refine wpQuiet_nil ?_
                        intro w5 hw5
                        obtain ⟨u5, hu5⟩ := hw5
                        subst hu5
                        have H2 := H1.later u5
                        clear l0 l1 H1
                        generalize u5.w = w5 at *
                        have H3 := H2.drop
                        clear H2
                        go_wp2
                        go_roundw
                        case rel => exact ⟨e + 1, T, Q, G, by omega, by go_num, hnT, hT, HTC, HQ, hQ100, HFs, HG2, H3⟩
                        case measure => simp [intOf]; omega
                      cases hny : inR Y 0 9
                      · have HFs : Hid (Fle (frG s) (· ∈ S) ⟨(x : Int), (y : Int)⟩ T n (e + 1)) := Lib.hid (HFl.out.skip HTC.out fun hf => by
                          rw [← HNB.out] at hf
                          have := (frG_iff.1 hf).2.1
                          unfold inR at hny
                          simp at hny
                          simp only at this
                          omega)
                        have HNX : Hid (∀ w : World, Calls Tryz.prog 56 #[.int .i64 X, .int .i64 0, .int .i64 9] w fun e w' => e = .returned (.bool true) ∧ w = w') := Lib.hid fun w => by
                          have := between_r X 0 9 w
                          rw [hnx] at this
                          exact this
                        have HNY : Hid (∀ w : World, Calls Tryz.prog 56 #[.int .i64 Y, .int .i64 0, .int .i64 9] w fun e w' => e = .returned (.bool false) ∧ w = w') := Lib.hid fun w => by
                          have := between_r Y 0 9 w
                          rw [hny] at this
                          exact this
                        clear hnx hny
                        refine wp_region_later (by kernel_rfl) (by kernel_rfl) ?_
                        repeat (go_big_quiet_step ((go_at_call 56; first | with_reducible exact Later.same (HNX.out _) | with_reducible exact Later.same (HNY.out _))))
                        refine wpQuiet_nil ?_
                        intro w5 hw5
                        obtain ⟨u5, hu5⟩ := hw5
                        subst hu5
                        have H2 := H1.later u5
                        clear l0 l1 H1
                        generalize u5.w = w5 at *
                        have H3 := H2.drop
                        clear H2
                        go_wp2
                        go_roundw
                        case rel => exact ⟨e + 1, T, Q, G, by omega, by go_num, hnT, hT, HTC, HQ, hQ100, HFs, HG2, H3⟩
                        case measure => simp [intOf]; omega
                      obtain ⟨u, rfl⟩ : ∃ u : Nat, X = (u : Int) := ⟨X.toNat, by unfold inR at hnx; simp at hnx; omega⟩
                      obtain ⟨v, rfl⟩ : ∃ v : Nat, Y = (v : Int) := ⟨Y.toNat, by unfold inR at hny; simp at hny; omega⟩
                      have hu10 : u < 10 := by unfold inR at hnx; simp at hnx; omega
                      have hv10 : v < 10 := by unfold inR at hny; simp at hny; omega
                      obtain ⟨X, hX⟩ : ∃ X : Int, X = (u : Int) := ⟨_, rfl⟩
                      obtain ⟨Y, hY⟩ : ∃ Y : Int, Y = (v : Int) := ⟨_, rfl⟩
                      obtain ⟨f, hf, hfV⟩ := HG2.out.val ⟨(u : Int), (v : Int)⟩ (by simp only; omega) (by simp only; omega)
                      rw [gix_nat] at hf
                      have l2 := Later.cell (gridA_at H1.h3 hf) H1.h3.lt
                      have HF := Lib.hid hf
                      have HFV := Lib.hid hfV
                      have HNX : Hid (∀ w : World, Calls Tryz.prog 56 #[.int .i64 (u : Int), .int .i64 0, .int .i64 9] w fun e w' => e = .returned (.bool true) ∧ w = w') := Lib.hid fun w => by
                        have := between_r (u : Int) 0 9 w
                        rw [hnx] at this
                        exact this
                      have HNY : Hid (∀ w : World, Calls Tryz.prog 56 #[.int .i64 (v : Int), .int .i64 0, .int .i64 9] w fun e w' => e = .returned (.bool true) ∧ w = w') := Lib.hid fun w => by
                        have := between_r (v : Int) 0 9 w
                        rw [hny] at this
                        exact this
                      clear hf hfV hnx hny hX hY X Y
                      cases f
                      rotate_left
                      · have HFs : Hid (Fle (frG s) (· ∈ S) ⟨(x : Int), (y : Int)⟩ T n (e + 1)) := Lib.hid (HFl.out.skip HTC.out fun hf => by
                          rw [← HNB.out] at hf ⊢
                          exact ((HFV.out.1 rfl).resolve_left (frG_iff.1 hf).2.2).symm)
                        refine wp_region_later (by kernel_rfl) (by kernel_rfl) ?_
                        repeat (go_big_quiet_step ((go_at_call 56; first | with_reducible exact Later.same (HNX.out _) | with_reducible exact Later.same (HNY.out _))))
                        refine wpQuiet_nil ?_
                        intro w5 hw5
                        obtain ⟨u5, hu5⟩ := hw5
                        subst hu5
                        have H2 := H1.later u5
                        clear l0 l1 H1
                        generalize u5.w = w5 at *
                        have H3 := H2.drop
                        clear H2
                        go_wp2
                        go_roundw
                        case rel => exact ⟨e + 1, T, Q, G, by omega, by go_num, hnT, hT, HTC, HQ, hQ100, HFs, HG2, H3⟩
                        case measure => simp [intOf]; omega
                      have hnv : ¬ (shpAt s ⟨(u : Int), (v : Int)⟩ ∨ (⟨(u : Int), (v : Int)⟩ : Cell) ∈ S ∨ (⟨(u : Int), (v : Int)⟩ : Cell) ∈ T) := fun h => by have := HFV.out.2 h; cases this
                      have hfu : frG s ⟨(u : Int), (v : Int)⟩ = true := frG_iff.2 ⟨by simp only; omega, by simp only; omega, fun h => hnv (.inl h)⟩
                      have hadd := HFl.out.add HTC.out hlt (by rw [← HNB.out]; exact hfu) (by rw [← HNB.out]; exact fun h => hnv (.inr (.inr h))) (by rw [← HNB.out]; exact fun h => hnv (.inr (.inl h)))
                      rw [← HNB.out] at hadd
                      obtain ⟨T2, hT2⟩ : ∃ T2, T2 = T ++ [(⟨(u : Int), (v : Int)⟩ : Cell)] := ⟨_, rfl⟩
                      obtain ⟨Q2, hQ2⟩ : ∃ Q2, Q2 = Q ++ [(⟨(u : Int), (v : Int)⟩ : Cell)] := ⟨_, rfl⟩
                      rw [← hT2] at hadd
                      have hset := HG2.out.set (d := ⟨(u : Int), (v : Int)⟩) (by simp only; omega) (by simp only; omega)
                      rw [gix_nat] at hset
                      have HG3 : Hid (GInv (fun c => shpAt s c ∨ c ∈ S ∨ c ∈ T2) (G.set (v * 10 + u) true)) := Lib.hid (hset.imp fun c => by rw [hT2, List.mem_append, List.mem_singleton, or_assoc, or_assoc])
                      have hT100 : T2.length ≤ 100 := Nat.le_trans (hadd.len frG_grid) (by rw [gridL_len]; exact Nat.le_refl _)
                      have hlen : T2.length = T.length + 1 := by rw [hT2]; simp
                      have HTC2 : Hid (T2[n]? = some c) := Lib.hid (by rw [hT2, List.getElem?_append_left hnT]; exact HTC.out)
                      have HQQ : Hid (Q2 = T2.drop (n + 1)) := Lib.hid (by rw [hQ2, hT2, HQ.out, List.drop_append_of_le_length (by omega)])
                      have hQ2100 : Q2.length ≤ 100 := by rw [HQQ.out, List.length_drop]; omega
                      have HT2 := Lib.hid hT2
                      have HQ2 := Lib.hid hQ2
                      have HADD := Lib.hid hadd
                      clear hnv hfu hset hT2 hQ2 hadd
                      refine wp_region_later (by kernel_rfl) (by kernel_rfl) ?_
                      repeat (go_big_quiet_step ((go_at_call 56; first | with_reducible exact Later.same (HNX.out _) | with_reducible exact Later.same (HNY.out _))))
                      refine wpQuiet_nil ?_
                      intro w5 hw5
                      obtain ⟨u5, hu5⟩ := hw5
                      subst hu5
                      have H2 := H1.later u5
                      clear l0 l1 H1
                      generalize u5.w = w5 at *
                      have k0 : w5.cell? ⟨gd, 0, none⟩ = some (.int .i64 (u : Int)) := H2.h0.cell 0
                      have k1 : w5.cell? ⟨gd, 1, none⟩ = some (.int .i64 (v : Int)) := H2.h0.cell 1
                      clear l2 HNX HNY
                      go_wp2_with fail
                      refine wp_region_stq 6 (by kernel_rfl) (by kernel_rfl) ?_
                      simp only [List.take_succ_cons, List.take_zero, List.drop_succ_cons, List.drop_zero]
                      repeat (first | go_big_quiet_skip | (go_big_quiet_want; go_big_quiet_op; first | go_big_quiet_on | (apply Exists.intro; refine ⟨?_, ?_⟩; focus (fail); go_big_quiet_on)))
                      refine wpQuiet_nil ?_
                      have kf := H2.drew.h3.frozen (v * 10 + u)
                      have kc := gridA_at H2.drew.h3 HF.out
                      have H3 := (H2.g3.drew.set_ (v * 10 + u) (.bool true)).p3
                      rw [gridA_set] at H3
                      clear H2 k0 k1
                      go_upto_region 28 with fail
                      clear kf kc
                      replace H3 : Sep w ((w5.setCell ⟨g, v * 10 + u, none⟩ (.bool true)).drew) [Res.box gd 39 #[.int .i64 (u : Int), .int .i64 (v : Int)], Res.que (.slice Aq Q.length cq) 39 2 Q.length (cc Q), Res.box gc 39 #[.int .i64 c.x, .int .i64 c.y], Res.box g 59 (gridA (G.set (v * 10 + u) true)), Res.row (.slice (some ⟨gs, 0, none⟩) 4 4) 39 2 4 (cc [nbi c 0, nbi c 1, nbi c 2, nbi c 3])] := H3
                      generalize (w5.setCell ⟨g, v * 10 + u, none⟩ (.bool true)).drew = w6 at *
                      have k0 : w6.cell? ⟨gd, 0, none⟩ = some (.int .i64 (u : Int)) := H3.h0.cell 0
                      have k1 : w6.cell? ⟨gd, 1, none⟩ = some (.int .i64 (v : Int)) := H3.h0.cell 1
                      have H4 := H3.drop
                      have hq4 : QI w6 0 39 2 (.slice Aq Q.length cq) Q.length (cc Q) := H4.h0
                      clear H3
                      go_wp2_with (at_builtin; refine wpList_append_q _ rfl _ _ 25 rfl 0 39 i0 _ 2 16 Tryz.underlying25 hi hz0 hz1 hz2 rfl (by decide) _ _ _ rfl (hq4.alloc _) ⟨w6.heap.size, 0, none⟩ 1 [.int .i64 (u : Int), .int .i64 (v : Int)] rfl rfl (news_alloc w6 #[.int .i64 (u : Int), .int .i64 (v : Int)] _) (by intro u hu; simp at hu; rcases hu with rfl | rfl <;> rfl) (by unfold maxLen; omega) (by omega) (Nat.zero_le _) ?_; intro v' w7 hq7 hgrow hat)
                      have H5 := (H4.alloc (.cells #[.int .i64 (u : Int), .int .i64 (v : Int)] 39)).appQ hq7 hgrow hat
                      clear H4 hq4 hq7 hgrow hat k0 k1
                      have hcq : cc Q ++ [.int .i64 (u : Int), .int .i64 (v : Int)] = cc Q2 := by rw [HQ2.out, cc_append]; rfl
                      have hlq : Q.length + 1 = Q2.length := by rw [HQ2.out, List.length_append]; rfl
                      rw [hcq, hlq] at H5
                      clear hcq hlq
                      go_wp2
                      go_roundw
                      case rel => exact ⟨e + 1, T2, Q2, _, by omega, by go_num, by omega, hT100, HTC2, HQQ, hQ2100, HADD, HG3, H5⟩
                      case measure => simp [intOf]; omega
                    · obtain rfl : e = 4 := by omega
                      have HF2 := Lib.hid (HFl.out.next (Nat.le_refl _))
                      obtain ⟨Aq, cq, rfl⟩ := QI.shape H.h0
                      have H2 := H.drop2.g2.drop
                      clear H
                      go_wp2
                      go_roundg (gk - 1)
                      case rel => exact ⟨n + 1, T, Q, G, by omega, by omega, hT, HQ, HF2, HG2, H2⟩
                      case measure => omega
            · obtain rfl : x = 10 := by omega
              have HK2 : Hid (KInv s S L ⟨0, ((y + 1 : Nat) : Int)⟩) := Lib.hid (HK.out.row (by omega))
              go_wp2
              go_roundw
              case rel => exact ⟨S, L, G, y + 1, m, by omega, by go_num, rfl, hm, HM, HK2, HG, H⟩
              case measure => simp [intOf]; omega
        · obtain rfl : y = 10 := by omega
          have hcnt := count_eq HSH.out HK.out.lnodup (HK.out.last (by omega))
          have hRe : R = (m : Int) - 1 := by rw [HR2.out, HM.out, hcnt]; omega
          have HRE := Lib.hid hRe
          have hbel := H.below
          clear hcnt hRe
          go_wp2
          go_ret
          exact ⟨by rw [HRE.out]; rfl, hbel⟩
end Go.Proofs.YtbdffadhieljbaaGreatDoor
