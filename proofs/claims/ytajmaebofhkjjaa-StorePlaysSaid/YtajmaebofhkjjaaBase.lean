import Derived.WalkKit
import Derived.MapKept
import Derived.Maps.OwnSet
import Derived.Maps.OwnOps
import Derived.Maps.AppendAt
import Derived.Deep.AppendLies
import Derived.Laws.AppendOwnNone
import Derived.Lib.Hide
namespace Go.Proofs.Dm
open Go.RowKit Go.MapKept

/-- What a map's entries hold: name by name, in the order in which they came. -/
def KvOf (es : List MapEntry) (kvs : List (ByteArray × Value)) : Prop := es.map (fun e => (e.key, e.val)) = kvs.map (fun p => (Value.string p.1, p.2))

def kvGet {α : Type} : List (ByteArray × α) → ByteArray → Option α
  | [], _ => none
  | (k, v) :: r, x => if k = x then some v else kvGet r x

def kvSet {α : Type} : List (ByteArray × α) → ByteArray → α → List (ByteArray × α)
  | [], x, v => [(x, v)]
  | (k, u) :: r, x, v => if k = x then (k, v) :: r else (k, u) :: kvSet r x v

def kvDel {α : Type} : List (ByteArray × α) → ByteArray → List (ByteArray × α)
  | [], _ => []
  | (k, u) :: r, x => if k = x then r else (k, u) :: kvDel r x

theorem findNow_miss : ∀ (es : List MapEntry) (kvs : List (ByteArray × Value)) (x : ByteArray) (i : Nat), KvOf es kvs → kvGet kvs x = none → Instr.findNow .string (.string x) es i = some none := by
  intro es
  induction es with
  | nil => intro kvs x i h hg; rfl
  | cons e es ih =>
    intro kvs x i h hg
    cases kvs with
    | nil => simp [KvOf] at h
    | cons p kvs =>
      obtain ⟨k, v⟩ := p
      simp only [KvOf, List.map_cons, List.cons.injEq, Prod.mk.injEq] at h
      obtain ⟨⟨h1, h2⟩, h3⟩ := h
      simp only [kvGet] at hg
      by_cases hk : k = x
      · simp [hk] at hg
      · rw [if_neg hk] at hg
        have hb : (x == k) = false := Bool.eq_false_iff.2 (fun h => hk ((bytes_beq _ _).1 h).symm)
        simp only [Instr.findNow, h1, Instr.sameNow, hb]
        exact ih kvs x (i + 1) h3 hg

theorem findNow_hit : ∀ (es : List MapEntry) (kvs : List (ByteArray × Value)) (x : ByteArray) (v : Value) (i : Nat), KvOf es kvs → kvGet kvs x = some v →
    ∃ j e, Instr.findNow .string (.string x) es i = some (some (i + j, v)) ∧ es[j]? = some e ∧ e.key = .string x ∧ e.val = v ∧
      (∀ u, KvOf (es.set j { e with key := .string x, val := u }) (kvSet kvs x u)) ∧ KvOf (es.eraseIdx j) (kvDel kvs x) := by
  intro es
  induction es with
  | nil =>
    intro kvs x v i h hg
    cases kvs with
    | nil => simp [kvGet] at hg
    | cons p kvs => simp [KvOf] at h
  | cons e es ih =>
    intro kvs x v i h hg
    cases kvs with
    | nil => simp [KvOf] at h
    | cons p kvs =>
      obtain ⟨k, u⟩ := p
      simp only [KvOf, List.map_cons, List.cons.injEq, Prod.mk.injEq] at h
      obtain ⟨⟨h1, h2⟩, h3⟩ := h
      simp only [kvGet] at hg
      by_cases hk : k = x
      · subst hk
        simp only [if_true, Option.some.injEq] at hg
        subst hg
        refine ⟨0, e, ?_, by simp, h1, h2, ?_, ?_⟩
        · simp only [Instr.findNow, h1, Instr.sameNow, (bytes_beq k k).2 rfl, h2, Nat.add_zero]
        · intro y
          simp only [KvOf, List.set_cons_zero, List.map_cons, kvSet, if_true]
          rw [h3]
        · simp only [KvOf, List.eraseIdx_cons_zero, kvDel, if_true]; exact h3
      · rw [if_neg hk] at hg
        have hb : (x == k) = false := Bool.eq_false_iff.2 (fun h => hk ((bytes_beq _ _).1 h).symm)
        obtain ⟨j, e', g1, g2, g3, g4, g5, g6⟩ := ih kvs x v (i + 1) h3 hg
        refine ⟨j + 1, e', ?_, by simpa using g2, g3, g4, ?_, ?_⟩
        · simp only [Instr.findNow, h1, Instr.sameNow, hb]
          rw [g1]; congr 3; omega
        · intro y
          have := g5 y
          simp only [KvOf] at this
          simp only [KvOf, List.set_cons_succ, List.map_cons, kvSet, if_neg hk]
          rw [this, h1, h2]
        · simp only [KvOf] at g6
          simp only [KvOf, List.eraseIdx_cons_succ, List.map_cons, kvDel, if_neg hk]
          rw [g6, h1, h2]

theorem kvDel_none {α : Type} {kvs : List (ByteArray × α)} {x : ByteArray} (h : kvGet kvs x = none) : kvDel kvs x = kvs := by
  induction kvs with
  | nil => rfl
  | cons p r ih =>
    obtain ⟨k, v⟩ := p
    simp only [kvGet] at h
    split at h
    · cases h
    · rename_i hk; simp only [kvDel, if_neg hk, ih h]

theorem kvGet_key {es : List MapEntry} {kvs : List (ByteArray × Value)} {x : ByteArray} (h : KvOf es kvs) (hg : kvGet kvs x = none) : ∀ e ∈ es, e.key = .string x → False := by
  induction es generalizing kvs with
  | nil => intro e he; cases he
  | cons e es ih =>
    cases kvs with
    | nil => simp [KvOf] at h
    | cons p kvs =>
      obtain ⟨k, v⟩ := p
      simp only [KvOf, List.map_cons, List.cons.injEq, Prod.mk.injEq] at h
      simp only [kvGet] at hg
      by_cases hk : k = x
      · simp [hk] at hg
      · rw [if_neg hk] at hg
        intro e' he' hx
        rcases List.mem_cons.1 he' with rfl | he'
        · rw [hx] at h
          exact hk (Value.string.inj h.1.1).symm
        · exact ih h.2 hg e' he' hx

theorem kvOf_push {es : List MapEntry} {kvs : List (ByteArray × Value)} {x : ByteArray} (h : KvOf es kvs) (hg : kvGet kvs x = none) (v : Value) (c : Nat) : KvOf (es ++ [{ key := .string x, val := v, born := c }]) (kvSet kvs x v) := by
  induction es generalizing kvs with
  | nil =>
    cases kvs with
    | nil => simp [KvOf, kvSet]
    | cons p kvs => simp [KvOf] at h
  | cons e es ih =>
    cases kvs with
    | nil => simp [KvOf] at h
    | cons p kvs =>
      obtain ⟨k, u⟩ := p
      simp only [KvOf, List.map_cons, List.cons.injEq, Prod.mk.injEq] at h
      simp only [kvGet] at hg
      by_cases hk : k = x
      · simp [hk] at hg
      · rw [if_neg hk] at hg
        have := ih h.2 hg
        simp only [KvOf] at this
        simp only [KvOf, List.cons_append, List.map_cons, kvSet, if_neg hk, this, h.1.1, h.1.2]

def IsMap (w : World) (m : Nat) (kvs : List (ByteArray × Value)) : Prop :=
  ∃ es clock, w.heap[m]? = some (.map es clock) ∧ KvOf es.toList kvs ∧ Stamped es clock

theorem IsMap.new {w : World} {m c : Nat} (hm : w.heap[m]? = some (.map #[] c)) : IsMap w m [] := ⟨#[], c, hm, by simp [KvOf], stamped_empty _⟩
theorem IsMap.kept {w w' : World} {m : Nat} {kvs : List (ByteArray × Value)} (h : IsMap w m kvs) (he : w'.heap[m]? = w.heap[m]?) : IsMap w' m kvs := by
  obtain ⟨es, c, h1, h2⟩ := h
  exact ⟨es, c, he.trans h1, h2⟩

section
variable {P : Program} {T K E : TypeId}
theorem findKey_str (hK : P.underlying K = some .string) (w : World) (x : ByteArray) (es : List MapEntry) (r : Option (Nat × Value)) (h : Instr.findNow .string (.string x) es 0 = some r) : (Instr.findKey K (.string x) es).run P w = .ok r w := by
  simp [Instr.findKey, run_underlying hK, h]
theorem checkKey_str (hK : P.underlying K = some .string) (w : World) (b : Bool) (x : ByteArray) : (Instr.checkKey b 10000 K (.string x)).run P w = .ok () w := by
  exact MapKept.run_checkKey hK (by simp [IsKey]) b 9999

theorem lookup_str (hT : P.underlying T = some (.map K E)) (hK : P.underlying K = some .string) {w : World} {m : Nat} {kvs : List (ByteArray × Value)} {z : Value} (hz : ∀ w, (zeroValue E).run P w = .ok z w) (h : IsMap w m kvs) (x : ByteArray) :
    (Instr.lookup T (.map (some m)) (.string x) true).run P w = .ok (.tuple #[(kvGet kvs x).getD z, .bool (kvGet kvs x).isSome]) w := by
  obtain ⟨es, c, h1, h2, h3⟩ := h
  cases hg : kvGet kvs x with
  | none => simp [Instr.lookup, run_underlying hT, MapKept.run_getObj_map h1, checkKey_str hK, findKey_str hK _ _ _ _ (findNow_miss _ _ _ 0 h2 hg), hz]
  | some v =>
    obtain ⟨j, e, g1, _⟩ := findNow_hit _ _ _ _ 0 h2 hg
    simp [Instr.lookup, run_underlying hT, MapKept.run_getObj_map h1, checkKey_str hK, findKey_str hK _ _ _ _ g1]

theorem lookup1_str (hT : P.underlying T = some (.map K E)) (hK : P.underlying K = some .string) {w : World} {m : Nat} {kvs : List (ByteArray × Value)} {z : Value} (hz : ∀ w, (zeroValue E).run P w = .ok z w) (h : IsMap w m kvs) (x : ByteArray) :
    (Instr.lookup T (.map (some m)) (.string x) false).run P w = .ok ((kvGet kvs x).getD z) w := by
  obtain ⟨es, c, h1, h2, h3⟩ := h
  cases hg : kvGet kvs x with
  | none => simp [Instr.lookup, run_underlying hT, MapKept.run_getObj_map h1, checkKey_str hK, findKey_str hK _ _ _ _ (findNow_miss _ _ _ 0 h2 hg), hz]
  | some v =>
    obtain ⟨j, e, g1, _⟩ := findNow_hit _ _ _ _ 0 h2 hg
    simp [Instr.lookup, run_underlying hT, MapKept.run_getObj_map h1, checkKey_str hK, findKey_str hK _ _ _ _ g1]

theorem update_str (hT : P.underlying T = some (.map K E)) (hK : P.underlying K = some .string) {w : World} {m : Nat} {kvs : List (ByteArray × Value)} (h : IsMap w m kvs) (x : ByteArray) (v : Value) :
    ∃ o, (Instr.mapUpdate T (.map (some m)) (.string x) v).run P w = .ok () { w with heap := w.heap.setIfInBounds m o } ∧ IsMap { w with heap := w.heap.setIfInBounds m o } m (kvSet kvs x v) := by
  obtain ⟨es, c, h1, h2, h3⟩ := h
  have hlt : m < w.heap.size := (Array.getElem?_eq_some_iff.1 h1).1
  cases hg : kvGet kvs x with
  | none =>
    refine ⟨.map (es.push { key := .string x, val := v, born := c }) (c + 1), ?_, _, _, (heap_set h1).1, ?_, stamped_push h3 ?_⟩
    · simp [Instr.mapUpdate, run_underlying hT, MapKept.run_getObj_map h1, checkKey_str hK, findKey_str hK _ _ _ _ (findNow_miss _ _ _ 0 h2 hg), MapKept.run_setObj_map _ h1]
    · rw [Array.toList_push]; exact kvOf_push h2 hg v c
    · intro e he e1
      exact kvGet_key h2 hg e he e1
  | some u =>
    obtain ⟨j, e, g1, g2, g3, g4, g5, g6⟩ := findNow_hit _ _ _ _ 0 h2 hg
    simp only [Nat.zero_add] at g1
    have hj : es[j]? = some e := by simpa using g2
    refine ⟨.map (es.modify j fun e => { e with key := .string x, val := v }) c, ?_, _, _, (heap_set h1).1, ?_, stamped_modify h3 _ _ (fun _ _ => rfl) (fun e' _ he' => ?_)⟩
    · simp [Instr.mapUpdate, run_underlying hT, MapKept.run_getObj_map h1, checkKey_str hK, findKey_str hK _ _ _ _ g1, hj, g3, MapKept.run_keyThatStays (d := .string) (k := .string x) (by simp [IsKey]), MapKept.run_setObj_map _ h1]
    · have : (es.modify j fun e => { e with key := .string x, val := v }).toList = es.toList.set j { e with key := .string x, val := v } := by
        apply List.ext_getElem?
        intro i
        simp only [Array.getElem?_toList, Array.getElem?_modify, List.getElem?_set]
        by_cases hij : j = i
        · subst hij
          obtain ⟨hlt', heq⟩ := Array.getElem?_eq_some_iff.1 hj
          simp [hlt', heq]
        · simp [hij]
      rw [this]
      exact g5 v
    · rw [hj] at he'; cases he'; exact g3.symm

theorem delete_str (hT : P.underlying T = some (.map K E)) (hK : P.underlying K = some .string) {w : World} {m : Nat} {kvs : List (ByteArray × Value)} (h : IsMap w m kvs) (x : ByteArray) (A : TypeId) (ty : TypeId) :
    ∃ o, (Builtin.delete_ #[T, A] ty #[.map (some m), .string x]).run P w = .ok (.tuple #[]) { w with heap := w.heap.setIfInBounds m o } ∧ IsMap { w with heap := w.heap.setIfInBounds m o } m (kvDel kvs x) := by
  obtain ⟨es, c, h1, h2, h3⟩ := h
  cases hg : kvGet kvs x with
  | none =>
    refine ⟨.map es c, ?_, _, _, (heap_set h1).1, ?_, h3⟩
    · simp [Builtin.delete_, run_underlying hT, MapKept.run_getObj_map h1, checkKey_str hK, findKey_str hK _ _ _ _ (findNow_miss _ _ _ 0 h2 hg), MapKept.run_setObj_map _ h1]
    · rw [kvDel_none hg]; exact h2
  | some u =>
    obtain ⟨j, e, g1, g2, g3, g4, g5, g6⟩ := findNow_hit _ _ _ _ 0 h2 hg
    simp only [Nat.zero_add] at g1
    have hj : es[j]? = some e := by simpa using g2
    refine ⟨.map (es.eraseIdxIfInBounds j) c, ?_, _, _, (heap_set h1).1, ?_, stamped_erase h3 j⟩
    · simp [Builtin.delete_, run_underlying hT, MapKept.run_getObj_map h1, checkKey_str hK, findKey_str hK _ _ _ _ g1, MapKept.run_setObj_map _ h1]
    · have : (es.eraseIdxIfInBounds j).toList = es.toList.eraseIdx j := by
        simp [Array.eraseIdxIfInBounds, (Array.getElem?_eq_some_iff.1 hj).1]
      rw [this]; exact g6
end
/-- From w to w' old blocks outside S are as they were. -/
structure Upd (S : Nat → Prop) (w w' : World) : Prop where
  os : w'.os = w.os
  tape : w'.tape = w.tape
  output : w'.output = w.output
  size : w.heap.size ≤ w'.heap.size
  block : ∀ k, k < w.heap.size → ¬ S k → w'.heap[k]? = w.heap[k]?

theorem Upd.refl (S : Nat → Prop) (w : World) : Upd S w w := ⟨rfl, rfl, rfl, Nat.le_refl _, fun _ _ _ => rfl⟩
theorem Upd.trans {S S' : Nat → Prop} {a b c : World} (h : Upd S a b) (k : Upd S' b c) (hs : ∀ i, i < a.heap.size → S' i → S i) : Upd S a c :=
  ⟨k.os.trans h.os, k.tape.trans h.tape, k.output.trans h.output, Nat.le_trans h.size k.size, fun i hi hn => (k.block i (Nat.lt_of_lt_of_le hi h.size) (fun e => hn (hs i hi e))).trans (h.block i hi hn)⟩
theorem Upd.mono {S S' : Nat → Prop} {a b : World} (h : Upd S a b) (hs : ∀ i, i < a.heap.size → S i → S' i) : Upd S' a b :=
  ⟨h.os, h.tape, h.output, h.size, fun i hi hn => h.block i hi (fun e => hn (hs i hi e))⟩
theorem Upd.alloc {S : Nat → Prop} {a w : World} (h : Upd S a w) (o : Obj) : Upd S a (w.alloc o) :=
  h.trans (S' := S) ⟨rfl, rfl, rfl, by simp, fun k hk _ => Below.heap_alloc _ _ _ hk⟩ (fun _ _ h => h)
theorem Upd.drew {S : Nat → Prop} {a w : World} (h : Upd S a w) : Upd S a w.drew := ⟨h.os, h.tape, h.output, h.size, h.block⟩
theorem Upd.setCell {S : Nat → Prop} {a w : World} (h : Upd S a w) {p : Addr} (hp : p.block < a.heap.size → S p.block) (u : Value) : Upd S a (w.setCell p u) :=
  h.trans (S' := fun k => k = p.block) ⟨rfl, rfl, rfl, by simp [World.setCell], fun k hk hn => Below.heap_setCell _ _ _ _ hn⟩ (fun i hi e => by subst e; exact hp hi)
theorem Upd.setObj {S : Nat → Prop} {a w : World} (h : Upd S a w) {m : Nat} (hp : m < a.heap.size → S m) (o : Obj) : Upd S a { w with heap := w.heap.setIfInBounds m o } :=
  h.trans (S' := fun k => k = m) ⟨rfl, rfl, rfl, by simp, fun k hk hn => by simp [Ne.symm hn]⟩ (fun i hi e => by subst e; exact hp hi)
theorem Upd.grown {S : Nat → Prop} {a w w' : World} {row : Option Nat} (h : Upd S a w) (hg : w.grownBy w' row) (hr : ∀ k, k < a.heap.size → row = some k → S k) : Upd S a w' :=
  h.trans (S' := fun k => some k = row) ⟨hg.os, hg.tape, hg.output, hg.size, fun k hk hn => hg.block k hk hn⟩ (fun i hi e => hr i hi e.symm)
theorem Upd.below {w w' : World} (h : Upd (fun _ => False) w w') : Below w.heap.size w w' := ⟨h.os, h.tape, h.output, h.size, fun k hk => h.block k hk (fun h => h)⟩
theorem Upd.ofBelow {w w' : World} (h : Below w.heap.size w w') (S : Nat → Prop) : Upd S w w' := ⟨h.os, h.tape, h.output, h.size, fun k hk _ => h.block k hk⟩

theorem update_str' {P : Program} {T K E : TypeId} (hT : P.underlying T = some (.map K E)) (hK : P.underlying K = some .string) {w : World} {m : Nat} {kvs : List (ByteArray × Value)} (h : IsMap w m kvs) (x : ByteArray) (v : Value) :
    ∃ w', (Instr.mapUpdate T (.map (some m)) (.string x) v).run P w = .ok () w' ∧ IsMap w' m (kvSet kvs x v) ∧ Upd (fun k => k = m) w w' := by
  obtain ⟨ob, hrun, hm'⟩ := update_str hT hK h x v
  exact ⟨_, hrun, hm', Upd.setObj (S := fun k => k = m) (Upd.refl _ w) (fun _ => rfl) _⟩

section
variable {P : Program} {ops : Array Oper} {Q : Exit → Act → World → Prop} {a : Act} {w : World} {rest : List Oper} {o : Oper} {T K E : TypeId}

theorem wpList_lookup_str (hg : o.guard = none) (m x : Operand) (hop : o.op = Op.lookup T m x true)
    (hT : P.underlying T = some (.map K E)) (hK : P.underlying K = some .string) (z : Value) (hz : ∀ w, (zeroValue E).run P w = .ok z w) (b : Nat) (kvs : List (ByteArray × Value)) (hm : a.eval m = .map (some b)) (h : IsMap w b kvs)
    (key : ByteArray) (hx : a.eval x = .string key)
    (hK' : wpList P ops Q rest (a.put o.dst (.tuple #[(kvGet kvs key).getD z, .bool (kvGet kvs key).isSome])) w) :
    wpList P ops Q (o :: rest) a w := by
  refine wpList_plain hg fun K' hK'' => ?_
  have hrun := lookup_str hT hK hz h key
  unfold Oper.wp
  simp [execOp, hop, hm, hx, hrun, Result.andThen]
  exact hK'' _ _ hK'

theorem wpList_update_str (hg : o.guard = none) (m x v : Operand) (hop : o.op = Op.mapUpdate T m x v)
    (hT : P.underlying T = some (.map K E)) (hK : P.underlying K = some .string) (b : Nat) (kvs : List (ByteArray × Value)) (hm : a.eval m = .map (some b)) (h : IsMap w b kvs)
    (key : ByteArray) (val : Value) (hx : a.eval x = .string key) (hv : a.eval v = val)
    (hK' : ∀ w', IsMap w' b (kvSet kvs key val) → Upd (fun k => k = b) w w' → w'.heap.size = w.heap.size → wpList P ops Q rest (a.put o.dst undef) w') :
    wpList P ops Q (o :: rest) a w := by
  refine wpList_plain hg fun K' hK'' => ?_
  obtain ⟨ob, hrun, hm'⟩ := update_str hT hK h key val
  unfold Oper.wp
  simp [execOp, hop, hm, hx, hv, hrun, Result.andThen]
  exact hK'' _ _ (hK' _ hm' (Upd.setObj (S := fun k => k = b) (Upd.refl _ w) (fun _ => rfl) _) (by simp))

theorem wpList_delete_str {A : TypeId} (hg : o.guard = none) (m x : Operand) (hop : o.op = Op.call { callee := Callee.builtin Builtin.delete, args := #[m, x], argTypes := #[T, A] })
    (hT : P.underlying T = some (.map K E)) (hK : P.underlying K = some .string) (b : Nat) (kvs : List (ByteArray × Value)) (hm : a.eval m = .map (some b)) (h : IsMap w b kvs)
    (key : ByteArray) (hx : a.eval x = .string key)
    (hK' : ∀ w', IsMap w' b (kvDel kvs key) → Upd (fun k => k = b) w w' → w'.heap.size = w.heap.size → wpList P ops Q rest (a.put o.dst (.tuple #[])) w') :
    wpList P ops Q (o :: rest) a w := by
  refine wpList_plain hg fun K' hK'' => ?_
  obtain ⟨ob, hrun, hm'⟩ := delete_str hT hK h key A o.type
  unfold Oper.wp
  simp [execOp, hop, resolve, invoke, builtin, hm, hx, hrun, Result.andThen]
  exact hK'' _ _ (hK' _ hm' (Upd.setObj (S := fun k => k = b) (Upd.refl _ w) (fun _ => rfl) _) (by simp))
end
theorem cell_blk {w : World} {b : Nat} {c : Array Value} {t : TypeId} {f : Nat × Nat} (h : w.heap[b]? = some (.cells c t f)) (i : Nat) (v : Value) (hv : c[i]? = some v) : w.cell? ⟨b, i, none⟩ = some v := by
  simp [World.cell?, h, hv]
theorem free_blk {w : World} {b : Nat} {c : Array Value} {t : TypeId} (h : w.heap[b]? = some (.cells c t (0, 0))) (i : Nat) : w.frozen? ⟨b, i, none⟩ = false := by
  simp [World.frozen?, h]
theorem blk_setCell {w : World} {b : Nat} {c : Array Value} {t : TypeId} {f : Nat × Nat} (h : w.heap[b]? = some (.cells c t f)) (i : Nat) (v : Value) : (w.setCell ⟨b, i, none⟩ v).heap[b]? = some (.cells (c.setIfInBounds i v) t f) := by
  simp [World.setCell, Array.getElem?_modify, h]
theorem lt_of_blk {w : World} {b : Nat} {o : Obj} (h : w.heap[b]? = some o) : b < w.heap.size := (Array.getElem?_eq_some_iff.1 h).1
theorem Upd.keep {S : Nat → Prop} {w w' : World} (h : Upd S w w') {b : Nat} {o : Obj} (hb : w.heap[b]? = some o) (hn : ¬ S b) : w'.heap[b]? = some o := (h.block b (lt_of_blk hb) hn).trans hb
theorem grown_keep {w w' : World} {row : Option Nat} (hg : w.grownBy w' row) {b : Nat} {o : Obj} (hb : w.heap[b]? = some o) (hn : some b ≠ row) : w'.heap[b]? = some o := (hg.block b (lt_of_blk hb) hn).trans hb
theorem alloc_keep {w : World} {b : Nat} {o : Obj} (hb : w.heap[b]? = some o) (o' : Obj) : (w.alloc o').heap[b]? = some o := (Below.heap_alloc _ _ _ (lt_of_blk hb)).trans hb
theorem drew_keep {w : World} {b : Nat} {o : Obj} (hb : w.heap[b]? = some o) : w.drew.heap[b]? = some o := hb
theorem setCell_keep {w : World} {b : Nat} {o : Obj} (hb : w.heap[b]? = some o) (a : Addr) (v : Value) (hn : b ≠ a.block) : (w.setCell a v).heap[b]? = some o := (Below.heap_setCell _ _ _ _ hn).trans hb
theorem IsMap.lt {w : World} {m : Nat} {kvs : List (ByteArray × Value)} (h : IsMap w m kvs) : m < w.heap.size := by obtain ⟨_, _, h, _⟩ := h; exact lt_of_blk h
theorem IsMap.ne_blk {w : World} {m : Nat} {kvs : List (ByteArray × Value)} (h : IsMap w m kvs) {b : Nat} {c : Array Value} {t : TypeId} {f : Nat × Nat} (hb : w.heap[b]? = some (.cells c t f)) : m ≠ b := by
  obtain ⟨_, _, h, _⟩ := h
  intro e; subst e; rw [h] at hb; cases hb

/-- What lies in the cells behind an address (a row of cells that are read): in a block of F whose element type is one of T. -/
def RowAt (w : World) (F : Nat → Prop) (T : TypeId → Prop) (a : Option Addr) (cs : List Value) : Prop :=
  cs ≠ [] → ∃ g o arr t f, a = some ⟨g, o, none⟩ ∧ F g ∧ T t ∧ w.heap[g]? = some (.cells arr t f) ∧ ∀ i u, cs[i]? = some u → arr[o + i]? = some u

/-- A slice of n elements, whose cells read as cs, in a block of F. -/
def IsRow (w : World) (F : Nat → Prop) (T : TypeId → Prop) (v : Value) (n : Nat) (cs : List Value) : Prop :=
  ∃ a cap, v = .slice a n cap ∧ (a = none → cap = 0 ∧ n = 0) ∧ n ≤ cap ∧ RowAt w F T a cs

def bv (u : UInt8) : Value := .int .u8 u.toNat

/-- A slice of bytes that reads as bs. -/
def IsB (w : World) (F : Nat → Prop) (T : TypeId → Prop) (v : Value) (bs : List UInt8) : Prop := IsRow w F T v bs.length (bs.map bv)

theorem RowAt.kept {w w' : World} {F F' : Nat → Prop} {T : TypeId → Prop} {a : Option Addr} {cs : List Value} (h : RowAt w F T a cs) (hF : ∀ g, g < w.heap.size → F g → F' g)
    (hk : ∀ g, g < w.heap.size → F g → (∃ arr t f, T t ∧ w.heap[g]? = some (.cells arr t f)) → w'.heap[g]? = w.heap[g]?) : RowAt w' F' T a cs := by
  intro hne
  obtain ⟨g, o, arr, t, f, h1, h2, h5, h3, h4⟩ := h hne
  exact ⟨g, o, arr, t, f, h1, hF g (lt_of_blk h3) h2, h5, (hk g (lt_of_blk h3) h2 ⟨_, _, _, h5, h3⟩).trans h3, h4⟩
theorem IsRow.kept {w w' : World} {F F' : Nat → Prop} {T : TypeId → Prop} {v : Value} {n : Nat} {cs : List Value} (h : IsRow w F T v n cs) (hF : ∀ g, g < w.heap.size → F g → F' g)
    (hk : ∀ g, g < w.heap.size → F g → (∃ arr t f, T t ∧ w.heap[g]? = some (.cells arr t f)) → w'.heap[g]? = w.heap[g]?) : IsRow w' F' T v n cs := by
  obtain ⟨a, cap, h1, h2, h3, h4⟩ := h
  exact ⟨a, cap, h1, h2, h3, h4.kept hF hk⟩
theorem IsRow.reF {w : World} {F F' : Nat → Prop} {T : TypeId → Prop} {v : Value} {n : Nat} {cs : List Value} (h : IsRow w F T v n cs) (hF : ∀ g, F g → (∃ arr t f, T t ∧ w.heap[g]? = some (.cells arr t f)) → F' g) : IsRow w F' T v n cs := by
  obtain ⟨a, cap, h1, h2, h3, h4⟩ := h
  refine ⟨a, cap, h1, h2, h3, fun hne => ?_⟩
  obtain ⟨g, o, arr, t, f, e1, e2, e5, e3, e4⟩ := h4 hne
  exact ⟨g, o, arr, t, f, e1, hF g e2 ⟨_, _, _, e5, e3⟩, e5, e3, e4⟩
theorem RowAt.cells {w : World} {F : Nat → Prop} {T : TypeId → Prop} {a : Option Addr} {cs : List Value} (h : RowAt w F T a cs) {ad : Addr} (ha : a = some ad) : ∀ j u, cs[j]? = some u → w.cell? (ad.add j) = some u := by
  intro j u hu
  obtain ⟨g, o, arr, t, f, h1, h2, h5, h3, h4⟩ := h (by rintro rfl; simp at hu)
  rw [ha] at h1
  cases h1
  have hadd : (⟨g, o, none⟩ : Addr).add j = ⟨g, o + j, none⟩ := by unfold Addr.add; split <;> simp_all
  rw [hadd]
  exact cell_blk h3 _ _ (h4 j u hu)

theorem news_blk {w : World} {r : Nat} {cs : List Value} {t : TypeId} {f : Nat × Nat} (hr : w.heap[r]? = some (.cells cs.toArray t f)) : ∀ j u, cs[j]? = some u → w.cell? ((⟨r, 0, none⟩ : Addr).add j) = some u := by
  intro j u hu
  have hadd : (⟨r, 0, none⟩ : Addr).add j = ⟨r, j, none⟩ := by unfold Addr.add; split <;> simp_all
  rw [hadd]
  exact cell_blk hr j u (by simpa using hu)

/-- A slice that is owned: it reads as its cells; the block is its own. -/
theorem ownsRow_row {w : World} {e : TypeId} {size : Nat} {a : Option Addr} {n c : Nat} {xs : List Value} (h : w.ownsRow 0 e size (.slice a n c) n xs) (F : Nat → Prop) (hF : ∀ g, a.map (·.block) = some g → F g) (T : TypeId → Prop) (hT : T e) : IsRow w F T (.slice a n c) n xs := by
  obtain ⟨hl, h | ⟨g, cap, cur, hv, _, hg, hn, hc, hs, ht⟩⟩ := h
  · obtain ⟨h1, rfl⟩ := h
    cases h1
    refine ⟨none, 0, rfl, fun _ => ⟨rfl, rfl⟩, Nat.le_refl _, fun hne => ?_⟩
    simp at hl
    exact absurd hl hne
  · cases hv
    refine ⟨_, _, rfl, (fun h => by cases h), hn, fun _ => ⟨g, 0, cur, e, (0, 0), rfl, hF g rfl, hT, hg, fun i u hu => ?_⟩⟩
    rw [← ht, List.getElem?_take] at hu
    split at hu
    · simpa using hu
    · cases hu

/-- Two lists, member by member. -/
def Rel2 {α β : Type} (R : α → β → Prop) : List α → List β → Prop
  | [], [] => True
  | a :: l, b :: r => R a b ∧ Rel2 R l r
  | _, _ => False

theorem Rel2.mono {α β : Type} {R R' : α → β → Prop} {l : List α} {r : List β} (h : Rel2 R l r) (hR : ∀ a b, R a b → R' a b) : Rel2 R' l r := by
  induction l generalizing r with
  | nil => cases r <;> simp_all [Rel2]
  | cons a l ih => cases r with
    | nil => simp [Rel2] at h
    | cons b r => exact ⟨hR _ _ h.1, ih h.2⟩
theorem Rel2.length {α β : Type} {R : α → β → Prop} {l : List α} {r : List β} (h : Rel2 R l r) : l.length = r.length := by
  induction l generalizing r with
  | nil => cases r <;> simp_all [Rel2]
  | cons a l ih => cases r with
    | nil => simp [Rel2] at h
    | cons b r => simp [ih h.2]
theorem Rel2.append {α β : Type} {R : α → β → Prop} {l l' : List α} {r r' : List β} (h : Rel2 R l r) (h' : Rel2 R l' r') : Rel2 R (l ++ l') (r ++ r') := by
  induction l generalizing r with
  | nil => cases r <;> simp_all [Rel2]
  | cons a l ih => cases r with
    | nil => simp [Rel2] at h
    | cons b r => exact ⟨h.1, ih h.2⟩
theorem Rel2.get {α β : Type} {R : α → β → Prop} {l : List α} {r : List β} (h : Rel2 R l r) (i : Nat) (b : β) (hb : r[i]? = some b) : ∃ a, l[i]? = some a ∧ R a b := by
  induction l generalizing r i with
  | nil => cases r <;> simp_all [Rel2]
  | cons a l ih => cases r with
    | nil => simp [Rel2] at h
    | cons b' r => cases i with
      | zero => simp at hb; subst hb; exact ⟨a, by simp, h.1⟩
      | succ i => simpa using ih h.2 i (by simpa using hb)

/-- Two tables: the same names in the same order, what they hold member by member. -/
def KRel {α β : Type} (R : α → β → Prop) : List (ByteArray × α) → List (ByteArray × β) → Prop := Rel2 (fun p q => p.1 = q.1 ∧ R p.2 q.2)

theorem KRel.get_none {α β : Type} {R : α → β → Prop} {l : List (ByteArray × α)} {r : List (ByteArray × β)} (h : KRel R l r) (x : ByteArray) (hx : kvGet r x = none) : kvGet l x = none := by
  induction l generalizing r with
  | nil => rfl
  | cons p l ih => cases r with
    | nil => simp [KRel, Rel2] at h
    | cons q r =>
      obtain ⟨⟨h1, h2⟩, h3⟩ := h
      obtain ⟨k, v⟩ := p; obtain ⟨k', v'⟩ := q
      simp only at h1 h2; subst h1
      simp only [kvGet] at hx ⊢
      split at hx
      · cases hx
      · rename_i hk; rw [if_neg hk]; exact ih h3 hx
theorem KRel.get_some {α β : Type} {R : α → β → Prop} {l : List (ByteArray × α)} {r : List (ByteArray × β)} (h : KRel R l r) (x : ByteArray) (b : β) (hx : kvGet r x = some b) : ∃ a, kvGet l x = some a ∧ R a b := by
  induction l generalizing r with
  | nil => cases r <;> simp_all [KRel, Rel2, kvGet]
  | cons p l ih => cases r with
    | nil => simp [KRel, Rel2] at h
    | cons q r =>
      obtain ⟨⟨h1, h2⟩, h3⟩ := h
      obtain ⟨k, v⟩ := p; obtain ⟨k', v'⟩ := q
      simp only at h1 h2; subst h1
      simp only [kvGet] at hx ⊢
      split at hx
      · rename_i hk; cases hx; rw [if_pos hk]; exact ⟨_, rfl, h2⟩
      · rename_i hk; rw [if_neg hk]; exact ih h3 hx
theorem KRel.set {α β : Type} {R : α → β → Prop} {l : List (ByteArray × α)} {r : List (ByteArray × β)} (h : KRel R l r) (x : ByteArray) (a : α) (b : β) (hR : R a b) : KRel R (kvSet l x a) (kvSet r x b) := by
  induction l generalizing r with
  | nil => cases r with
    | nil => exact ⟨⟨rfl, hR⟩, trivial⟩
    | cons q r => simp [KRel, Rel2] at h
  | cons p l ih => cases r with
    | nil => simp [KRel, Rel2] at h
    | cons q r =>
      obtain ⟨⟨h1, h2⟩, h3⟩ := h
      obtain ⟨k, v⟩ := p; obtain ⟨k', v'⟩ := q
      simp only at h1 h2; subst h1
      simp only [kvSet]
      split
      · exact ⟨⟨rfl, hR⟩, h3⟩
      · exact ⟨⟨rfl, h2⟩, ih h3⟩
theorem KRel.del {α β : Type} {R : α → β → Prop} {l : List (ByteArray × α)} {r : List (ByteArray × β)} (h : KRel R l r) (x : ByteArray) : KRel R (kvDel l x) (kvDel r x) := by
  induction l generalizing r with
  | nil => cases r with
    | nil => trivial
    | cons q r => simp [KRel, Rel2] at h
  | cons p l ih => cases r with
    | nil => simp [KRel, Rel2] at h
    | cons q r =>
      obtain ⟨⟨h1, h2⟩, h3⟩ := h
      obtain ⟨k, v⟩ := p; obtain ⟨k', v'⟩ := q
      simp only at h1 h2; subst h1
      simp only [kvDel]
      split
      · exact h3
      · exact ⟨⟨rfl, h2⟩, ih h3⟩

section
variable {P : Program} {ops : Array Oper} {rest : List Oper} {o : Oper} {a : Act} {Q : Exit → Act → World → Prop} {w : World}
/-- 'append(s, x)': one element, which was laid into a block of its own. -/
theorem wpList_append1 (hgd : o.guard = none) (s x : Operand) (t : TypeId)
    (ho : o.op = .call { callee := .builtin .append, args := #[s, x], argTypes := #[t, t] })
    (e : TypeId) (i : TypeInfo) (z : Value) (size bytes : Nat) (ht : P.underlying t = some (.slice e)) (hi : P.info? e = some i) (hz : i.zero = some z)
    (hsize : i.size = size) (hby : i.bytes = bytes) (hzs : z.cells.size = size) (hsz : 0 < size)
    (sa : Option Addr) (n sc : Nat) (xs : List Value) (hs : a.eval s = .slice sa n sc) (hown : w.ownsRow 0 e size (.slice sa n sc) n xs)
    (r : Nat) (cs : List Value) (t' : TypeId) (f : Nat × Nat) (hx : a.eval x = .slice (some ⟨r, 0, none⟩) 1 1) (hr : w.heap[r]? = some (.cells cs.toArray t' f)) (hl : cs.length = size) (h1 : ∀ u ∈ cs, u.oneCell' = true)
    (h63 : n + 1 ≤ 1048576 * 1048576) (hbytes : bytes ≤ 128)
    (h : ∀ g cap w', w'.ownsRow 0 e size (.slice (some ⟨g, 0, none⟩) (n + 1) cap) (n + 1) (xs ++ cs) → w.grownBy w' (sa.map (·.block)) → (sa.map (·.block) = some g ∨ w.heap.size ≤ g) → g < w'.heap.size → wpList P ops Q rest (a.put o.dst (.slice (some ⟨g, 0, none⟩) (n + 1) cap)) w') : wpList P ops Q (o :: rest) a w :=
  wpList_append_lies w hgd s x t ho 0 e i z size bytes ht hi hz hsize hby hzs hsz (.slice sa n sc) n xs hs hown ⟨r, 0, none⟩ 1 1 cs hx (by rw [hl]; omega) (news_blk hr) h1 (by decide) (by unfold maxLen; omega)
    (Nat.le_trans (Nat.mul_le_mul h63 hbytes) (by decide)) (Nat.zero_le _) _ rfl fun g cap w' h2 h3 h4 h5 => h g cap w' h2 (by cases sa <;> simpa [Value.ownBlock] using h3) (by cases sa <;> simp_all [Value.ownBlock] <;> omega) h5

/-- 'append(s, x...)': whatever x is, nil too. -/
theorem wpList_appendN (hgd : o.guard = none) (s x : Operand) (t : TypeId)
    (ho : o.op = .call { callee := .builtin .append, args := #[s, x], argTypes := #[t, t] })
    (e : TypeId) (i : TypeInfo) (z : Value) (size bytes : Nat) (ht : P.underlying t = some (.slice e)) (hi : P.info? e = some i) (hz : i.zero = some z)
    (hsize : i.size = size) (hby : i.bytes = bytes) (hzs : z.cells.size = size) (hsz : 0 < size)
    (sa : Option Addr) (n sc : Nat) (xs : List Value) (hs : a.eval s = .slice sa n sc) (hown : w.ownsRow 0 e size (.slice sa n sc) n xs)
    (xa : Option Addr) (m xc : Nat) (news : List Value) (hx : a.eval x = .slice xa m xc) (F : Nat → Prop) (T : TypeId → Prop) (hr : IsRow w F T (.slice xa m xc) m news) (hl : news.length = m * size) (h1 : ∀ u ∈ news, u.oneCell' = true)
    (h63 : n + m ≤ 9223372036854775807) (hbytes : (n + m) * bytes ≤ 140737488355328)
    (h : ∀ a' c' w', w'.ownsRow 0 e size (.slice a' (n + m) c') (n + m) (xs ++ news) → w.grownBy w' (sa.map (·.block)) → (∀ g, a'.map (·.block) = some g → (sa.map (·.block) = some g ∨ w.heap.size ≤ g) ∧ g < w'.heap.size) → (m = 0 → sa = none → a' = none) → wpList P ops Q rest (a.put o.dst (.slice a' (n + m) c')) w') : wpList P ops Q (o :: rest) a w := by
  obtain ⟨_, _, he, hnil, hcap, hrow⟩ := hr
  cases he
  cases xa with
  | none =>
    obtain ⟨rfl, rfl⟩ := hnil rfl
    have hn0 : news = [] := List.eq_nil_of_length_eq_zero (by simpa using hl)
    subst hn0
    refine wpList_append_own_none hgd s x t ho 0 e i size ht hi _ n xs hs hown hx ?_
    refine h sa sc w ?_ ⟨rfl, rfl, rfl, Nat.le_refl _, fun _ _ _ => rfl⟩ (fun g hg => ⟨.inl hg, ?_⟩) (fun _ h => h)
    · simpa using hown
    · exact (hown.lt g (by cases sa with | none => simp at hg | some _ => simpa [Value.ownBlock] using hg)).2
  | some ad =>
    refine wpList_append_own_at w hgd s x t ho 0 e i z size bytes ht hi hz hsize hby hzs hsz _ n xs hs hown ad m xc news hx hl (hrow.cells rfl) h1 (by unfold maxLen; omega) hbytes (Nat.zero_le _) ?_
    intro v' w' h2 h3 h4 h5
    have hv : ∃ a' c', v' = .slice a' (n + m) c' := by
      rcases h2.2 with ⟨rfl, e0⟩ | ⟨g, cap, cur, rfl, _⟩
      · exact ⟨none, 0, by rw [e0]⟩
      · exact ⟨_, _, rfl⟩
    obtain ⟨a', c', rfl⟩ := hv
    refine h a' c' w' h2 (by cases sa <;> simpa [Value.ownBlock] using h3) (fun g hg => ⟨?_, (h2.lt g (by cases a' with | none => simp at hg | some _ => simpa [Value.ownBlock] using hg)).2⟩) (fun hm hs0 => ?_)
    · cases a' with
      | none => simp at hg
      | some b =>
        simp only [Value.ownBlock] at h5
        simp only [Option.map_some, Option.some.injEq] at hg
        subst hg
        rcases h5 with h5 | h5
        · left; cases sa <;> simp_all [Value.ownBlock]
        · right; simp at h5; omega
    · subst hm; subst hs0
      rcases hown.2 with ⟨hv, _⟩ | ⟨g, cap, cur, hv, _⟩
      · cases hv
        have := h4.2 ⟨rfl, rfl⟩
        cases this; rfl
      · cases hv
end
end Go.Proofs.Dm
