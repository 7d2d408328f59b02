import Derived.Test.YtajmaebofhkjjaaRnames
import Derived.Test.YtajmaebofhkjjaaIter
namespace Go.Proofs.Ytajmaebofhkjjaa
open Go.RowKit Go.Proofs.Dm Go.MapKept Go.Maps Go.Sort Go.Shelf

def keyList {α : Type} (kvs : List (ByteArray × α)) : List (List UInt8) := kvs.map fun p => p.1.data.toList
/-- The names of a table, sorted. -/
def sortedNames {α : Type} (kvs : List (ByteArray × α)) : List ByteArray := ((keyList kvs).mergeSort (fun x y => decide (x ≤ y))).map fun l => ⟨l.toArray⟩

abbrev anyR : Value → Option (DataW Unit × List MemPlace) := fun _ => some (.nil, [])

theorem isMap_owns {P : Program} {K : TypeId} (hK : P.underlying K = some .string) {w : World} {m : Nat} {kvs : List (ByteArray × Value)} (h : IsMap w m kvs) (hn : kvs.length ≤ maxLen) (hk : ∀ p ∈ kvs, p.1.size ≤ maxLen) :
    ∃ D0 : DataW Unit, w.ownsMap P K anyR m kvs.length D0 ∧ (strKeys D0).Perm (keyList kvs) ∧ Maps.size D0 = kvs.length := by
  obtain ⟨es, c, h1, h2, h3⟩ := h
  have hlen : es.size = kvs.length := by
    have := congrArg List.length h2
    simpa using this
  have hrd : ∀ x ∈ es.toList, ∃ s : ByteArray, x.key = .string s ∧ Go.WideElems.rd P K anyR x = some (.string s.data.toList, .nil) ∧ s.size ≤ maxLen := by
    intro x hx
    have hm : (x.key, x.val) ∈ kvs.map (fun p => (Value.string p.1, p.2)) := by
      rw [← h2]; exact List.mem_map.2 ⟨x, hx, rfl⟩
    obtain ⟨p, hp, he⟩ := List.mem_map.1 hm
    obtain ⟨he1, he2⟩ := Prod.mk.inj he
    have hs := hk p hp
    refine ⟨p.1, he1.symm, ?_, hs⟩
    simp [Go.WideElems.rd, keyOf, mapKey, hK, ← he1, hs]
  refine ⟨_, ⟨es, c, h1, ⟨by omega, h3, fun x hx => ?_⟩, by omega, rfl⟩, ?_, ?_⟩
  · obtain ⟨s, _, hr, _⟩ := hrd x hx; exact ⟨_, hr⟩
  · show ((((es.toList.map (Go.WideElems.rg P K anyR)).foldr DataW.insert []).map fun p => strOf p.1)).Perm _
    refine ((Go.WideShapes.sorted_perm _).map _).trans (List.Perm.of_eq ?_)
    rw [List.map_map]
    have : ∀ (l : List MapEntry) (k : List (ByteArray × Value)), (∀ x ∈ l, x ∈ es.toList) → l.map (fun e => (e.key, e.val)) = k.map (fun p => (Value.string p.1, p.2)) → l.map ((fun p => strOf p.1) ∘ Go.WideElems.rg P K anyR) = keyList k := by
      intro l
      induction l with
      | nil => intro k _ hk; cases k <;> simp_all [keyList]
      | cons e l ih =>
        intro k hm hk
        cases k with
        | nil => simp at hk
        | cons p k =>
          simp only [List.map_cons, List.cons.injEq, Prod.mk.injEq] at hk
          obtain ⟨s, e1, e2, _⟩ := hrd e (hm e List.mem_cons_self)
          have hsp : s = p.1 := by have := hk.1.1; rw [e1] at this; exact Value.string.inj this
          simp only [List.map_cons, keyList, Function.comp, List.cons.injEq]
          refine ⟨?_, ih k (fun x hx => hm x (List.mem_cons_of_mem _ hx)) hk.2⟩
          simp [Go.WideElems.rg, e2, strOf, hsp]
    exact this es.toList kvs (fun _ h => h) h2
  · show ((es.toList.map (Go.WideElems.rg P K anyR)).foldr DataW.insert []).length = _
    rw [length_sorted]; simpa using hlen

theorem sorted_post {w w' : World} {kvs : List (ByteArray × Value)} {D0 : DataW Unit} (hp : (strKeys D0).Perm (keyList kvs)) {e : Ending}
    (h : ∃ (v : Value) (ss : List (List UInt8)), e = .returned v ∧ ss.Perm (strKeys D0) ∧ w'.ownsRow w.heap.size 9 1 v ss.length ((ss.mergeSort (fun x y => decide (x ≤ y))).map Go.Proofs.encStr) ∧ (v = .slice none 0 0 ↔ ss = []) ∧ Below w.heap.size w w') :
    StrsPost w (sortedNames kvs) e w' := by
  obtain ⟨v, ss, rfl, hS, hrow, hnil, hb⟩ := h
  have hm : ss.mergeSort (fun x y => decide (x ≤ y)) = (keyList kvs).mergeSort (fun x y => decide (x ≤ y)) := mergeSort_of_perm (hS.trans hp)
  have hl : ss.length = (sortedNames kvs).length := by
    have := (hS.trans hp).length_eq
    simp [sortedNames, this]
  have hcs : (ss.mergeSort (fun x y => decide (x ≤ y))).map Go.Proofs.encStr = (sortedNames kvs).map sv := by
    rw [hm]; simp [sortedNames, sv, Function.comp_def]
  rw [hcs, hl] at hrow
  have hU : Upd (fun _ => False) w w' := Upd.ofBelow hb _
  rcases hrow.2 with ⟨rfl, h0⟩ | ⟨g, cap, cur, rfl, hg, hbk, h1, h2, h3, h4⟩
  · refine ⟨none, 0, by rw [h0], ⟨hrow.1, .inl ⟨by rw [h0], h0⟩⟩, fun g hg => by simp at hg, hU⟩
  · exact ⟨_, cap, rfl, ⟨hrow.1, .inr ⟨g, cap, cur, rfl, Nat.zero_le _, hbk, h1, h2, h3, h4⟩⟩, fun x hx => by simp at hx; subst hx; exact ⟨hg, lt_of_blk hbk⟩, hU⟩

theorem sorted_ch (w : World) (m : Nat) (kvs : List (ByteArray × Value)) (h : IsMap w m kvs) (hn : kvs.length ≤ 1048576 * 1048576) (hk : ∀ p ∈ kvs, p.1.size ≤ maxLen) :
    Calls Try.prog 32 #[.func (.func 54) #[] #[.pointer (some ⟨w.heap.size, 0, none⟩)]] (w.alloc (.cells #[.map (some m)] 61))
      (StrsPost (w.alloc (.cells #[.map (some m)] 61)) (sortedNames kvs)) := by
  obtain ⟨D0, ho, hp, hs⟩ := isMap_owns (P := Try.prog) Try.underlying9 h (by unfold maxLen; omega) hk
  refine ((callsIn_wide (n := 5)).1 (Try.slices_Sorted_keys_32_33 m kvs.length D0 anyR w ho (by rw [hs]; unfold maxLen; omega) (by rw [hs]; omega))).mono ?_
  rintro e w' he
  exact sorted_post hp he

theorem sorted_b (w : World) (m : Nat) (kvs : List (ByteArray × Value)) (h : IsMap w m kvs) (hn : kvs.length ≤ 1048576 * 1048576) (hk : ∀ p ∈ kvs, p.1.size ≤ maxLen) :
    Calls Try.prog 32 #[.func (.func 66) #[] #[.pointer (some ⟨w.heap.size, 0, none⟩)]] (w.alloc (.cells #[.map (some m)] 44))
      (StrsPost (w.alloc (.cells #[.map (some m)] 44)) (sortedNames kvs)) := by
  obtain ⟨D0, ho, hp, hs⟩ := isMap_owns (P := Try.prog) Try.underlying9 h (by unfold maxLen; omega) hk
  refine ((callsIn_wide (n := 5)).1 (Try.slices_Sorted_keys_32_60 m kvs.length D0 anyR w ho (by rw [hs]; unfold maxLen; omega) (by rw [hs]; omega))).mono ?_
  rintro e w' he
  exact sorted_post hp he
end Go.Proofs.Ytajmaebofhkjjaa
