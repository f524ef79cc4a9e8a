
/-
  A map from pairs of numbers to numbers that the call itself makes: what a look-up and a store do. Packings: how many, with a memory (the program's walk).
-/
import Derived.Test.YtfmkmjebkmimkaaGreatDoorProg
import Derived.Test.YtfmkmjebkmimkaaGreatDoorKinds
import Derived.MapKept
import Derived.ChangeMaps4
import Derived.ChangeKeysEq
import Derived.Test.YtfmkmjebkmimkaaGreatDoorPkPU
import Derived.Test.YtfmkmjebkmimkaaGreatDoorPzG
import Derived.StillTail
import Derived.StillTailTactics
namespace Go.Proofs.YtfmkmjebkmimkaaGreatDoor
open Go.RowKit

theorem Sep.setAllK {w0 w : World} {g : Nat} {t : TypeId} {cs : Array Value} {L : List Res} (h : Sep w0 w (Res.box g t cs :: L)) (cs' : Array Value) : Sep w0 (w.setRow g cs') (Res.box g t cs' :: L) :=
  h.turn ⟨rfl, rfl, rfl, by simp, fun b _ hd => setRow_other w g b cs' hd⟩ (setRow_heap w g cs cs' t (0, 0) h.1) fun _ hb => .inl hb

def kv (c : Int × Int) : Value := .agg #[.int .i64 c.1, .int .i64 c.2]
set_option maxRecDepth 100000 in
theorem karrUnder : Tryz.prog.underlying 170 = some (.array 2 3) := by kernel_rfl
set_option maxRecDepth 100000 in
theorem kintInfo : ∃ i, Tryz.prog.info? 3 = some i := info_of_underlying Tryz.underlying3
set_option maxRecDepth 100000 in
theorem kintSize : Tryz.prog.cellsOf 3 = 1 := by kernel_rfl
set_option maxRecDepth 100000 in
theorem kplain : Tryz.prog.plainKey 3 = true := by kernel_rfl
set_option maxRecDepth 100000 in
theorem krun_int (w : World) (d : Nat) (a b : Int) : (Op.equalIn (d + 1) 3 (.int .i64 a) (.int .i64 b)).run Tryz.prog w = .ok (a == b) w := by
  simp [go_sem, Op.equalIn]
set_option maxRecDepth 100000 in
theorem krun_equalIn (w : World) (d : Nat) (a b : Int × Int) : (Op.equalIn (d + 2) 170 (kv a) (kv b)).run Tryz.prog w = .ok (a.1 == b.1 && a.2 == b.2) w := by
  obtain ⟨i, hi⟩ := kintInfo
  unfold kv
  rw [run_equalIn_array w (d + 1) _ _ karrUnder hi, kintSize]
  have p0 : ∀ x y : Int, (part 3 #[.int .i64 x, .int .i64 y] 0).run Tryz.prog w = .ok (.int .i64 x) w := fun x y => run_part_plain w kplain rfl
  have p1 : ∀ x y : Int, (part 3 #[.int .i64 x, .int .i64 y] 1).run Tryz.prog w = .ok (.int .i64 y) w := fun x y => run_part_plain w kplain rfl
  have hr : List.range 2 = [0, 1] := rfl
  rw [hr]
  simp only [Op.eqItems, Sem.run_bind, Nat.zero_mul, p0, Result.andThen_ok, krun_int]
  by_cases hx : a.1 = b.1 <;> by_cases hy : a.2 = b.2 <;> simp [hx, hy, p1, krun_int]
set_option maxRecDepth 100000 in
theorem krun_equal (w : World) (a b : Int × Int) : (Op.equal 170 (kv a) (kv b)).run Tryz.prog w = .ok (decide (a = b)) w := by
  unfold Op.equal Op.maxDepth
  rw [krun_equalIn w 9998 a b]
  congr 1
  rw [Bool.eq_iff_iff]
  cases a
  cases b
  simp
set_option maxRecDepth 100000 in
theorem krun_checkKey_int (w : World) (em : Bool) (n : Nat) (x : Int) : (Instr.checkKey em (n + 1) 3 (.int .i64 x)).run Tryz.prog w = .ok () w := by
  have hu : Tryz.prog.underlying 3 = some (.int .i64) := Tryz.underlying3
  unfold Instr.checkKey
  simp [Sem.run_bind, run_underlying hu]
set_option maxRecDepth 100000 in
theorem krun_checkKey_aux (w : World) (em : Bool) (n : Nat) (c : Int × Int) : (Instr.checkKey em (n + 1 + 1) 170 (kv c)).run Tryz.prog w = .ok () w := by
  have hs : (sizeOf 3).run Tryz.prog w = .ok 1 w := by kernel_rfl
  have h0 := krun_checkKey_int w em n c.1
  have h1 := krun_checkKey_int w em n c.2
  unfold kv
  unfold Instr.checkKey
  simp only [Sem.run_bind, run_underlying karrUnder, Result.andThen_ok]
  simp only [Std.Legacy.Range.forIn_eq_forIn_range', Std.Legacy.Range.size]
  simp [List.range', go_sem, h0, h1, hs]
/-- block b is a map that holds these numbers, in the order in which they came in -/
def MapKs (w : World) (b : Nat) (l : List ((Int × Int) × Int)) : Prop := ∃ es clock, w.heap[b]? = some (.map es clock) ∧ es.toList.map (fun e => (e.key, e.val)) = l.map fun p => (kv p.1, .int .i64 p.2)
theorem MapKs.keep {w w' : World} {b : Nat} {l : List ((Int × Int) × Int)} (h : MapKs w b l) (hb : w'.heap[b]? = w.heap[b]?) : MapKs w' b l := by
  obtain ⟨es, cl, h1, h2⟩ := h
  exact ⟨es, cl, hb.trans h1, h2⟩
theorem MapKs.lt {w : World} {b : Nat} {l : List ((Int × Int) × Int)} (h : MapKs w b l) : b < w.heap.size := by
  obtain ⟨es, cl, h1, h2⟩ := h
  exact (Array.getElem?_eq_some_iff.1 h1).1
theorem MapKs.made (w : World) : MapKs (w.alloc (.map #[] 0)) w.heap.size [] := ⟨#[], 0, heap_alloc_new w _, rfl⟩

set_option maxRecDepth 100000 in
theorem krun_findAsking (w : World) (c : Int × Int) (es : List MapEntry) (i : Nat) (l : List ((Int × Int) × Int)) (h : es.map (fun e => (e.key, e.val)) = l.map fun p => (kv p.1, .int .i64 p.2)) :
    ∃ r, (Instr.findAsking 170 (kv c) es i).run Tryz.prog w = .ok r w ∧ r.map (·.2) = (l.find? fun p => decide (c = p.1)).map (fun p => .int .i64 p.2) := by
  induction es generalizing i l with
  | nil =>
    cases l with
    | nil => exact ⟨none, by simp [Instr.findAsking], rfl⟩
    | cons p l => simp at h
  | cons e es ih =>
    cases l with
    | nil => simp at h
    | cons p l =>
      simp at h
      obtain ⟨⟨hk, hv⟩, ht⟩ := h
      by_cases hc : c = p.1
      · refine ⟨some (i, e.val), ?_, by simp [hc, hv]⟩
        simp only [Instr.findAsking, Sem.run_bind]
        rw [hk, krun_equal]
        simp [hc, Result.andThen]
      · obtain ⟨r, h1, h2⟩ := ih (i + 1) l (by simpa using ht)
        refine ⟨r, ?_, by simp [hc, h2]⟩
        simp only [Instr.findAsking, Sem.run_bind]
        rw [hk, krun_equal]
        simp [hc, Result.andThen, h1]

set_option maxRecDepth 100000 in
theorem krun_findKey (w : World) (c : Int × Int) (es : List MapEntry) (l : List ((Int × Int) × Int)) (h : es.map (fun e => (e.key, e.val)) = l.map fun p => (kv p.1, .int .i64 p.2)) :
    ∃ r, (Instr.findKey 170 (kv c) es).run Tryz.prog w = .ok r w ∧ r.map (·.2) = (l.find? fun p => decide (c = p.1)).map (fun p => .int .i64 p.2) := by
  cases es with
  | nil =>
    cases l with
    | nil => exact ⟨none, by simp [Instr.findKey, run_underlying karrUnder, Instr.findNow], rfl⟩
    | cons p l => simp at h
  | cons e es =>
    obtain ⟨r, h1, h2⟩ := krun_findAsking w c (e :: es) 0 l h
    refine ⟨r, ?_, h2⟩
    unfold kv at h1 ⊢
    simp only [Instr.findKey, Sem.run_bind, run_underlying karrUnder, Result.andThen_ok, Instr.findNow, Instr.sameNow]
    exact h1

set_option maxRecDepth 100000 in
theorem krun_checkKey (w : World) (em : Bool) (c : Int × Int) : (Instr.checkKey em 10000 170 (kv c)).run Tryz.prog w = .ok () w := krun_checkKey_aux w em 9998 c

set_option maxRecDepth 100000 in
theorem kmapUnder : Tryz.prog.underlying 124 = some (.map 170 3) := by kernel_rfl


/-- what a key is mapped to -/
def kAt (l : List ((Int × Int) × Int)) (c : Int × Int) : Option Int := (l.find? fun p => decide (c = p.1)).map (·.2)

set_option maxRecDepth 100000 in
theorem krun_lookup {w : World} {b : Nat} {l : List ((Int × Int) × Int)} (h : MapKs w b l) (c : Int × Int) :
    (Instr.lookup 124 (.map (some b)) (kv c) false).run Tryz.prog w = .ok (.int .i64 ((kAt l c).getD 0)) w := by
  obtain ⟨es, cl, h1, h2⟩ := h
  obtain ⟨r, h3, h4⟩ := krun_findKey w c es.toList l h2
  simp only [Instr.lookup, Sem.run_bind, run_underlying kmapUnder, MapKept.run_getObj_map h1, Result.andThen_ok, Sem.run_pure, krun_checkKey, h3]
  cases r with
  | none =>
    have : kAt l c = none := by
      unfold kAt
      cases hf : l.find? (fun p => decide (c = p.1)) with
      | none => rfl
      | some p => rw [hf] at h4; simp at h4
    simp [this]
  | some q =>
    obtain ⟨j, v⟩ := q
    cases hf : l.find? (fun p => decide (c = p.1)) with
    | none => rw [hf] at h4; simp at h4
    | some p =>
      rw [hf] at h4
      simp at h4
      subst h4
      simp [kAt, hf]
set_option maxRecDepth 100000 in
theorem krun_lookup_ok {w : World} {b : Nat} {l : List ((Int × Int) × Int)} (h : MapKs w b l) (c : Int × Int) :
    (Instr.lookup 124 (.map (some b)) (kv c) true).run Tryz.prog w = .ok (.tuple #[.int .i64 ((kAt l c).getD 0), .bool (kAt l c).isSome]) w := by
  obtain ⟨es, cl, h1, h2⟩ := h
  obtain ⟨r, h3, h4⟩ := krun_findKey w c es.toList l h2
  simp only [Instr.lookup, Sem.run_bind, run_underlying kmapUnder, MapKept.run_getObj_map h1, Result.andThen_ok, Sem.run_pure, krun_checkKey, h3]
  cases r with
  | none =>
    have : kAt l c = none := by
      unfold kAt
      cases hf : l.find? (fun p => decide (c = p.1)) with
      | none => rfl
      | some p => rw [hf] at h4; simp at h4
    simp [this]
  | some q =>
    obtain ⟨j, v⟩ := q
    cases hf : l.find? (fun p => decide (c = p.1)) with
    | none => rw [hf] at h4; simp at h4
    | some p =>
      rw [hf] at h4
      simp at h4
      subst h4
      simp [kAt, hf]

set_option maxRecDepth 100000 in
/-- a store under a new key -/
theorem krun_update {w : World} {b : Nat} {l : List ((Int × Int) × Int)} (h : MapKs w b l) (c : Int × Int) (d : Int) (hn : kAt l c = none) :
    ∃ w', (Instr.mapUpdate 124 (.map (some b)) (kv c) (.int .i64 d)).run Tryz.prog w = .ok () w' ∧ MapKs w' b (l ++ [(c, d)]) ∧ w.grownBy w' (some b) ∧ w'.heap.size = w.heap.size := by
  have hlt := h.lt
  obtain ⟨es, cl, h1, h2⟩ := h
  obtain ⟨r, h3, h4⟩ := krun_findKey w c es.toList l h2
  have hr : r = none := by
    cases r with
    | none => rfl
    | some q =>
      unfold kAt at hn
      cases hf : l.find? (fun p => decide (c = p.1)) with
      | none => rw [hf] at h4; simp at h4
      | some p => rw [hf] at hn; simp at hn
  subst hr
  refine ⟨{ w with heap := w.heap.setIfInBounds b (.map (es.push { key := kv c, val := .int .i64 d, born := cl }) (cl + 1)) }, ?_, ⟨es.push { key := kv c, val := .int .i64 d, born := cl }, cl + 1, by simp [hlt], by simp [h2]⟩, ⟨rfl, rfl, rfl, by simp, fun k _ hne => ?_⟩, by simp⟩
  · simp only [Instr.mapUpdate, Sem.run_bind, run_underlying kmapUnder, MapKept.run_getObj_map h1, Result.andThen_ok, krun_checkKey, h3, MapKept.run_setObj_map _ h1]
  · have hkb : b ≠ k := fun e => hne (by rw [e])
    simp [hkb]
end Go.Proofs.YtfmkmjebkmimkaaGreatDoor

namespace Go.Proofs.YtfmkmjebkmimkaaGreatDoor
open Go.RowKit

def Res.kmap (b : Nat) (l : List ((Int × Int) × Int)) : Res := ⟨fun x => x = b, fun w => MapKs w b l, fun hs h => h.keep (hs b rfl), fun h hb => by subst hb; exact h.lt⟩
set_option maxRecDepth 100000 in
theorem Sep.kput {w0 w : World} {mb : Nat} {l : List ((Int × Int) × Int)} {L : List Res} (H : Sep w0 w (Res.kmap mb l :: L)) (c : Int × Int) (d : Int) (hn : kAt l c = none) :
    ∃ w', (Instr.mapUpdate 124 (.map (some mb)) (kv c) (.int .i64 d)).run Tryz.prog w = .ok () w' ∧ Sep w0 w' (Res.kmap mb (l ++ [(c, d)]) :: L) := by
  have hm : MapKs w mb l := H.h0
  obtain ⟨w', h1, h2, h3, h4⟩ := krun_update hm c d hn
  have ho := Only.of_grown h3
  exact ⟨w', h1, H.turn ⟨ho.os, ho.tape, ho.output, ho.size, fun b hb hd => ho.block b hb (fun e => hd (by injection e with e; exact e.symm))⟩ h2 (fun b hb => .inl hb)⟩
theorem kAt_none {l : List ((Int × Int) × Int)} {c : Int × Int} (h : ∀ p ∈ l, p.1 ≠ c) : kAt l c = none := by
  unfold kAt
  rw [List.find?_eq_none.2 (fun p hp => by simpa using fun e => h p hp e.symm)]; rfl
theorem kAt_not {l : List ((Int × Int) × Int)} {c : Int × Int} (h : kAt l c = none) : ∀ p ∈ l, p.1 ≠ c := by
  intro p hp e
  unfold kAt at h
  rw [Option.map_eq_none_iff, List.find?_eq_none] at h
  exact h p hp (by simpa using e.symm)
theorem PkM.at {A : List Nat} {l : List ((Int × Int) × Int)} (h : PkM A l) {i u : Nat} {n : Int} (hn : kAt l ((i : Int), (u : Int)) = some n) : n = ((pkN A i u : Nat) : Int) := by
  unfold kAt at hn
  cases hf : l.find? (fun p => decide (((i : Int), (u : Int)) = p.1)) with
  | none => rw [hf] at hn; cases hn
  | some p =>
    rw [hf] at hn
    injection hn with hn
    have h1 := List.find?_some hf
    obtain ⟨i', u', _, rfl⟩ := h p (List.mem_of_find?_eq_some hf)
    simp only [decide_eq_true_eq, Prod.mk.injEq] at h1
    have e1 : i = i' := Int.ofNat_inj.1 h1.1
    have e2 : u = u' := Int.ofNat_inj.1 h1.2
    rw [e1, e2, ← hn]
/-- where the placements lie -/
structure PkD (gs mb k : Nat) (lv : Value) (A : List Nat) (L : List Res) : Prop where
  box : Res.box gs 126 #[lv, .map (some mb)] ∈ L
  row : Res.row lv 3 1 k (ic (nl A)) ∈ L
  len : k = A.length
  len6 : k ≤ 1000000
  msk : ∀ m ∈ A, m < 2 ^ 36
theorem PkD.cons {gs mb k : Nat} {lv : Value} {A : List Nat} {L : List Res} {r : Res} (h : PkD gs mb k lv A L) : PkD gs mb k lv A (r :: L) := ⟨List.mem_cons_of_mem _ h.box, List.mem_cons_of_mem _ h.row, h.len, h.len6, h.msk⟩
theorem PkD.bx {gs mb k : Nat} {lv : Value} {A : List Nat} {w0 w : World} {L : List Res} (h : PkD gs mb k lv A L) (H : Sep w0 w L) : Blk w gs 126 #[lv, .map (some mb)] := (H.inn _ h.box).1
theorem PkD.rw_ {gs mb k : Nat} {lv : Value} {A : List Nat} {w0 w : World} {L : List Res} (h : PkD gs mb k lv A L) (H : Sep w0 w L) : w.ownsRow 0 3 1 lv k (ic (nl A)) := (H.inn _ h.row).1
def MostPost (A : List Nat) (mb i u : Nat) (l : List ((Int × Int) × Int)) (w0 : World) (L : List Res) : Ending → World → Prop := fun e w' => ∃ l', e = .returned (.int .i64 (pkN A i u : Nat)) ∧ PkM A l' ∧ (∀ p ∈ l', p ∈ l ∨ (i : Int) ≤ p.1.1) ∧ Sep w0 w' (Res.kmap mb l' :: L)
theorem MostPost.mk {A : List Nat} {mb i u n : Nat} {l l' : List ((Int × Int) × Int)} {w0 w' : World} {L : List Res} (hn : n = pkN A i u) (h1 : PkM A l') (h2 : ∀ p ∈ l', p ∈ l ∨ (i : Int) ≤ p.1.1) (H : Sep w0 w' (Res.kmap mb l' :: L)) : MostPost A mb i u l w0 L (.returned (.int .i64 (n : Nat))) w' := by
  subst hn
  exact ⟨l', rfl, h1, h2, H⟩
def MostC (gs mb k : Nat) (lv : Value) (A : List Nat) (d : Nat) : Prop := ∀ (w0 w : World) (L : List Res) (l : List ((Int × Int) × Int)) (i u : Nat), PkD gs mb k lv A L → i + d = k → u < 2 ^ 36 → PkM A l → Sep w0 w (Res.kmap mb l :: L) →
  Calls Tryz.prog 133 #[.pointer (some ⟨gs, 0, none⟩), .int .i64 i, .int .i64 u] w (MostPost A mb i u l w0 L)
set_option maxRecDepth 100000 in
set_option maxHeartbeats 1600000 in
theorem most_zero (gs mb k : Nat) (lv : Value) (A : List Nat) : MostC gs mb k lv A 0 := by
  intro w0 w L l i u hd hi hu hl H
  obtain rfl : i = k := by omega
  have hbx := hd.bx H.drop
  obtain ⟨Av, cv, rfl, _, _, _⟩ := Res.row_at (hd.rw_ H.drop)
  have c0 : w.cell? ⟨gs, 0, none⟩ = some (.slice Av i cv) := hbx.cell 0
  have hgs := hbx.lt
  have HP := Lib.hid (pkN_end (u := u) hd.len)
  have HM := Lib.hid hl
  clear hbx hd hl
  go_enter Tryz.func133, Tryz.ntmps133
  go_wp2
  go_ret
  exact MostPost.mk (n := 0) HP.out.symm HM.out (fun p hp => .inl hp) H
set_option maxRecDepth 100000 in
set_option maxHeartbeats 3200000 in
theorem most_step (gs mb k : Nat) (lv : Value) (A : List Nat) (d : Nat) (ih : MostC gs mb k lv A d) : MostC gs mb k lv A (d + 1) := by
  intro w0 w L l i u hd hi hu hl H
  have HIH := Lib.hid ih
  have HD := Lib.hid hd
  have hik : i < k := by omega
  have hk6 := hd.len6
  have hbx := hd.bx H.drop
  obtain ⟨Av, cv, rfl, _, _, _⟩ := Res.row_at (hd.rw_ H.drop)
  have c0 : w.cell? ⟨gs, 0, none⟩ = some (.slice Av k cv) := hbx.cell 0
  have hgs := hbx.lt
  have HI := Lib.hid hi
  have HU := Lib.hid hu
  have HL := Lib.hid hl
  have hik2 : ((i : Int) == (k : Int)) = false := by simp; omega
  obtain ⟨m, hm⟩ : ∃ m, A[i]? = some m := ⟨A[i]'(by rw [← hd.len]; exact hik), List.getElem?_eq_getElem _⟩
  have HM := Lib.hid hm
  have hm36 := hd.msk m (List.mem_of_getElem? hm)
  have hu2 : u < 68719476736 := hu
  have HALL : ((#[.int .i64 i, .int .i64 u] : Array Value).all (·.oneCell')) = true := by simp [Value.oneCell']
  have H1 := (H.box 170 #[.int .i64 0, .int .i64 0]).setAllK #[.int .i64 i, .int .i64 u]
  obtain ⟨gk, hgk⟩ : ∃ gk, gk = w.heap.size := ⟨_, rfl⟩
  obtain ⟨W1, hW1⟩ : ∃ W, W = (w.alloc (.cells #[.int .i64 0, .int .i64 0] 170)).setRow w.heap.size #[.int .i64 i, .int .i64 u] := ⟨_, rfl⟩
  rw [← hW1, ← hgk] at H1
  clear hbx ih hd hi hu hl hm
  go_enter Tryz.func133, Tryz.ntmps133
  go_upto_region 4 with (refine wpList_store_row rfl 170 _ _ rfl w.heap.size #[.int .i64 i, .int .i64 u] rfl rfl 170 _ (H.box 170 #[.int .i64 0, .int .i64 0]).h0 (by kernel_rfl) rfl HALL ?_)
  rw [← hW1, ← hgk]
  clear hW1 hgk H c0 hgs HALL
  have b1 := HD.out.bx H1.drop.drop
  have c1 : W1.cell? ⟨gs, 1, none⟩ = some (.map (some mb)) := b1.cell 1
  have k0 : W1.cell? ⟨gk, 0, none⟩ = some (.int .i64 i) := H1.h0.cell 0
  have k1 : W1.cell? ⟨gk, 1, none⟩ = some (.int .i64 u) := H1.h0.cell 1
  have hm1 : MapKs W1 mb l := H1.h1
  have hlk : ∀ n, (Instr.lookup 124 (.map (some mb)) (.agg #[.int .i64 (i : Int), .int .i64 (u : Int)]) true).run Tryz.prog (W1.drewN n) = .ok (.tuple #[.int .i64 ((kAt l ((i : Int), (u : Int))).getD 0), .bool (kAt l ((i : Int), (u : Int))).isSome]) (W1.drewN n) := fun n => krun_lookup_ok (w := W1.drewN n) (hm1.keep rfl) ((i : Int), (u : Int))
  clear b1 hm1
  cases hka : kAt l ((i : Int), (u : Int)) with
  | some n =>
    obtain rfl := HL.out.at hka
    rw [hka] at hlk
    simp only [Option.getD_some, Option.isSome_some] at hlk
    obtain ⟨n, hn⟩ : ∃ n, n = pkN A i u := ⟨_, rfl⟩
    rw [← hn] at hlk
    have HN := Lib.hid hn
    clear hka hn
    go_wp2_with fail
    go_quiet (fail)
    have H2 := H1.drewN nq
    clear hlk c1 k0 k1 H1
    go_wp2
    go_ret
    exact MostPost.mk HN.out HL.out (fun p hp => .inl hp) H2.drop
  | none =>
    rw [hka] at hlk
    simp only [Option.getD_none, Option.isSome_none] at hlk
    have HKA := Lib.hid (kAt_not hka)
    clear hka
    go_wp2_with fail
    go_quiet (fail)
    have H2 := (H1.drewN nq).g1
    clear hlk c1 k0 k1 H1
    generalize W1.drewN nq = w2 at *
    obtain ⟨i2, hi2⟩ : ∃ i2, i2 = i + 1 := ⟨_, rfl⟩
    have e5 : (i : Int) + 1 = (i2 : Int) := by omega
    have e6 : IntKind.i64.wrap ((i : Int) + 1) = (i2 : Int) := by rw [e5]; exact IntWalk.i64_in _ (by omega)
    have HI2 := Lib.hid hi2
    have HC1 := Lib.hid (HIH.out w0 w2 (Res.box gk 170 #[.int .i64 i, .int .i64 u] :: L) l i2 u HD.out.cons (by have := HI.out; omega) HU.out HL.out H2)
    clear H2 hi2
    go_wp2_with fail
    refine (HC1.out).mono ?_
    rintro e w3 ⟨l1, rfl, hM1, hK1, H3⟩
    have HM1 := Lib.hid hM1
    have HK1 := Lib.hid hK1
    obtain ⟨n1, hn1⟩ : ∃ n, n = pkN A i2 u := ⟨_, rfl⟩
    have hn1b : n1 ≤ 1000000 := by
      rw [hn1]
      have := pkN_le (A := A.drop i2) u
      rw [List.length_drop] at this
      have h2 := HD.out.len
      unfold pkN
      omega
    have HN1 := Lib.hid hn1
    rw [← hn1]
    clear hM1 hK1 hn1 HC1
    have c0 : w3.cell? ⟨gs, 0, none⟩ = some (.slice Av k cv) := (HD.out.bx H3.drop.drop).cell 0
    have hgs := (HD.out.bx H3.drop.drop).lt
    obtain ⟨b, off, rfl, hb, y0⟩ := ints_atZ (row_rdZ (HD.out.rw_ H3.drop.drop) (by simp [nl]; exact HD.out.len)) (show (nl A)[i]? = some (m : Int) by simp [nl, HM.out])
    have hand := i64_and_nat m u (by omega) (by omega)
    have hor := i64_or_nat u m (by omega) (by omega)
    obtain ⟨a, ha⟩ : ∃ a, a = m &&& u := ⟨_, rfl⟩
    rw [← ha] at hand
    have HA := Lib.hid ha
    clear ha
    have HNK : Hid (∀ p ∈ l1, p.1 ≠ ((i : Int), (u : Int))) := Lib.hid (fun p hp e => by
      rcases HK1.out p hp with h | h
      · exact HKA.out p h e
      · rw [e] at h
        have := HI2.out
        simp only at h
        omega)
    by_cases hz : a = 0
    · subst hz
      have HMU : Hid (m &&& u = 0) := Lib.hid HA.out.symm
      have hz1 : (((0 : Nat) : Int) == 0) = true := rfl
      obtain ⟨u2, hu2d⟩ : ∃ u2, u2 = u ||| m := ⟨_, rfl⟩
      rw [← hu2d] at hor
      have hu2b : u2 < 2 ^ 36 := by rw [hu2d]; exact Nat.or_lt_two_pow (HU.out) hm36
      have hu2c : u2 < 68719476736 := hu2b
      have HU2 := Lib.hid hu2d
      have HC2 := Lib.hid (HIH.out w0 w3 (Res.box gk 170 #[.int .i64 i, .int .i64 u] :: L) l1 i2 u2 HD.out.cons (by have := HI.out; have := HI2.out; omega) hu2b HM1.out H3)
      clear hu2d hu2b
      go_wp2_with fail
      refine (HC2.out).mono ?_
      rintro e w4 ⟨l2, rfl, hM2, hK2, H4⟩
      have HM2 := Lib.hid hM2
      have HK2 := Lib.hid hK2
      obtain ⟨n2, hn2⟩ : ∃ n, n = pkN A i2 u2 := ⟨_, rfl⟩
      have hn2b : n2 ≤ 1000000 := by
        rw [hn2]
        have := pkN_le (A := A.drop i2) u2
        rw [List.length_drop] at this
        have h2 := HD.out.len
        unfold pkN
        omega
      have HN2 := Lib.hid hn2
      rw [← hn2]
      clear hM2 hK2 hn2 HC2 H3 y0 c0 hgs hb hand hor
      obtain ⟨q, hq⟩ : ∃ q, q = 1 + n2 := ⟨_, rfl⟩
      have hqb : q ≤ 1000001 := by omega
      have e7 : (1 : Int) + (n2 : Int) = (q : Int) := by omega
      have e8 : IntKind.i64.wrap ((1 : Int) + (n2 : Int)) = (q : Int) := by rw [e7]; exact IntWalk.i64_in _ (by omega)
      have HQ := Lib.hid hq
      clear hq
      obtain ⟨n3, hn3⟩ : ∃ n, n = if n1 < q then q else n1 := ⟨_, rfl⟩
      have hsl : ∀ dd : Decidable (n1 < q), @ite Int (n1 < q) dd (q : Int) (n1 : Int) = (n3 : Int) := fun dd => by rw [hn3]; by_cases h : n1 < q <;> simp [h]
      have HN3 : Hid (n3 = pkN A i u) := Lib.hid (by
        rw [pkN_yes HM.out HMU.out, ← HI2.out, ← HU2.out, ← HN1.out, ← HN2.out, ← HQ.out, hn3]
        split <;> omega)
      have HNK2 : Hid (∀ p ∈ l2, p.1 ≠ ((i : Int), (u : Int))) := Lib.hid (fun p hp e => by
        rcases HK2.out p hp with h | h
        · exact HNK.out p h e
        · rw [e] at h
          have := HI2.out
          simp only at h
          omega)
      have HKL : Hid (∀ p ∈ l2, p ∈ l ∨ (i : Int) ≤ p.1.1) := Lib.hid (fun p hp => by
        have hi2 := HI2.out
        rcases HK2.out p hp with h | h
        · rcases HK1.out p h with h2 | h2
          · exact .inl h2
          · exact .inr (by omega)
        · exact .inr (by omega))
      clear hn3
      go_upto_region 10 with fail
      try rw [hsl]
      clear hsl
      obtain ⟨w7, hup, H7⟩ := H4.drew.kput ((i : Int), (u : Int)) ((n3 : Nat) : Int) (kAt_none HNK2.out)
      unfold kv at hup
      have c1 : w4.cell? ⟨gs, 1, none⟩ = some (.map (some mb)) := (HD.out.bx H4.drop.drop).cell 1
      have k0 : w4.cell? ⟨gk, 0, none⟩ = some (.int .i64 i) := H4.h1.cell 0
      have k1 : w4.cell? ⟨gk, 1, none⟩ = some (.int .i64 u) := H4.h1.cell 1
      have c1' : w4.drew.cell? ⟨gs, 1, none⟩ = some (.map (some mb)) := c1
      have k0' : w4.drew.cell? ⟨gk, 0, none⟩ = some (.int .i64 i) := k0
      have k1' : w4.drew.cell? ⟨gk, 1, none⟩ = some (.int .i64 u) := k1
      have HH7 := Lib.hid H7.drop2
      have HPM : Hid (PkM A (l2 ++ [(((i : Int), (u : Int)), ((n3 : Nat) : Int))])) := Lib.hid (by rw [HN3.out]; exact PkM.snoc HM2.out (by have := HD.out.len; omega))
      have HKK : Hid (∀ p ∈ l2 ++ [(((i : Int), (u : Int)), ((n3 : Nat) : Int))], p ∈ l ∨ (i : Int) ≤ p.1.1) := Lib.hid (fun p hp => by
        rcases List.mem_append.1 hp with hp | hp
        · exact HKL.out p hp
        · simp only [List.mem_singleton] at hp
          rw [hp]
          exact .inr (Int.le_refl _))
      clear H7 H4
      go_wp2_with fail
      go_still_tail 6, (by kernel_rfl)
      change wpList _ _ _ _ _ w4.drew
      go_wp2
      go_ret
      exact MostPost.mk HN3.out HPM.out HKK.out HH7.out
    · have hz1 : ((a : Int) == 0) = false := by simp; omega
      have HMU : Hid (m &&& u ≠ 0) := Lib.hid (by rw [← HA.out]; exact hz)
      clear hz
      have HN3 : Hid (n1 = pkN A i u) := Lib.hid (by rw [pkN_no HM.out HMU.out, ← HI2.out, ← HN1.out])
      have HNK2 := HNK
      have HKL : Hid (∀ p ∈ l1, p ∈ l ∨ (i : Int) ≤ p.1.1) := Lib.hid (fun p hp => by
        have hi2 := HI2.out
        rcases HK1.out p hp with h2 | h2
        · exact .inl h2
        · exact .inr (by omega))
      go_upto_region 10 with fail
      clear y0 c0 hgs hb hand hor
      obtain ⟨w7, hup, H7⟩ := H3.drew.kput ((i : Int), (u : Int)) ((n1 : Nat) : Int) (kAt_none HNK2.out)
      unfold kv at hup
      have c1 : w3.cell? ⟨gs, 1, none⟩ = some (.map (some mb)) := (HD.out.bx H3.drop.drop).cell 1
      have k0 : w3.cell? ⟨gk, 0, none⟩ = some (.int .i64 i) := H3.h1.cell 0
      have k1 : w3.cell? ⟨gk, 1, none⟩ = some (.int .i64 u) := H3.h1.cell 1
      have c1' : w3.drew.cell? ⟨gs, 1, none⟩ = some (.map (some mb)) := c1
      have k0' : w3.drew.cell? ⟨gk, 0, none⟩ = some (.int .i64 i) := k0
      have k1' : w3.drew.cell? ⟨gk, 1, none⟩ = some (.int .i64 u) := k1
      have HH7 := Lib.hid H7.drop2
      have HPM : Hid (PkM A (l1 ++ [(((i : Int), (u : Int)), ((n1 : Nat) : Int))])) := Lib.hid (by rw [HN3.out]; exact PkM.snoc HM1.out (by have := HD.out.len; omega))
      have HKK : Hid (∀ p ∈ l1 ++ [(((i : Int), (u : Int)), ((n1 : Nat) : Int))], p ∈ l ∨ (i : Int) ≤ p.1.1) := Lib.hid (fun p hp => by
        rcases List.mem_append.1 hp with hp | hp
        · exact HKL.out p hp
        · simp only [List.mem_singleton] at hp
          rw [hp]
          exact .inr (Int.le_refl _))
      clear H7 H3
      go_wp2_with fail
      go_still_tail 6, (by kernel_rfl)
      change wpList _ _ _ _ _ w3.drew
      go_wp2
      go_ret
      exact MostPost.mk HN3.out HPM.out HKK.out HH7.out
theorem most_c (gs mb k : Nat) (lv : Value) (A : List Nat) : ∀ d, MostC gs mb k lv A d
  | 0 => most_zero gs mb k lv A
  | d + 1 => most_step gs mb k lv A d (most_c gs mb k lv A d)
end Go.Proofs.YtfmkmjebkmimkaaGreatDoor
