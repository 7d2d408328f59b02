import Derived.Test.YtajmaebofhkjjaaRroll
import Derived.Test.YtajmaebofhkjjaaRflip
import Derived.Test.YtajmaebofhkjjaaRswap
import Derived.Test.YtajmaebofhkjjaaRrep
import Derived.Test.YtajmaebofhkjjaaRoll
import Derived.Sort.Walk0
namespace Go.Proofs.Ytajmaebofhkjjaa
open Go.RowKit Go.Proofs.Dm Go.MapKept

theorem name_eq {a b : ByteArray} : (a.toList == b.toList) = true ↔ a = b := by
  rw [beq_iff_eq]
  constructor
  · intro h
    rw [ByteArray.toList_eq, ByteArray.toList_eq] at h
    obtain ⟨⟨x⟩⟩ := a; obtain ⟨⟨y⟩⟩ := b
    simp at h; rw [h]
  · rintro rfl; rfl
theorem nl_lt (a b : ByteArray) : nl a b = true ↔ a.toList < b.toList := by unfold nl; rw [Go.Proofs.bytesLess_eq]; simp
theorem nl_irrefl (a : ByteArray) : nl a a = false := by
  cases h : nl a a with
  | false => rfl
  | true => rw [nl_lt] at h; exact absurd h (List.lt_irrefl _)
theorem nl_trans {a b c : ByteArray} (h : nl a b = true) (k : nl b c = true) : nl a c = true := by
  rw [nl_lt] at *; exact List.lt_trans h k

/-- The names rise. -/
def Rises (L : List RC) : Prop := L.Pairwise fun a b => nl a.name b.name = true
def cellOf (L : List RC) (x : ByteArray) : Option RC := L.find? fun c => c.name.toList == x.toList

theorem cellOf_nil (x : ByteArray) : cellOf [] x = none := rfl
theorem cellOf_cons (c : RC) (L : List RC) (x : ByteArray) : cellOf (c :: L) x = if c.name = x then some c else cellOf L x := by
  unfold cellOf
  rw [List.find?_cons]
  by_cases h : c.name = x
  · rw [if_pos h, name_eq.2 h]
  · rw [if_neg h]
    cases hq : (c.name.toList == x.toList) with
    | true => exact absurd (name_eq.1 hq) h
    | false => rfl
theorem cellOf_low {L : List RC} {x : ByteArray} (h : ∀ c ∈ L, nl x c.name = true) : cellOf L x = none := by
  induction L with
  | nil => rfl
  | cons c L ih =>
    rw [cellOf_cons, if_neg, ih (fun d hd => h d (List.mem_cons_of_mem _ hd))]
    rintro rfl
    have := h c List.mem_cons_self
    rw [nl_irrefl] at this; cases this

theorem rat_cons (c : RC) (L : List RC) (x : ByteArray) : ratK (c :: L) x = if nl c.name x = true then ratK L x + 1 else 0 := by
  unfold ratK
  rw [List.takeWhile_cons]
  by_cases h : nl c.name x = true
  · rw [if_pos h, if_pos h]; simp
  · rw [if_neg h, if_neg h]; rfl

theorem rat_cell {L : List RC} (h : Rises L) (x : ByteArray) : (ratF L x = true ∧ L[ratK L x]? = cellOf L x ∧ ∃ c, cellOf L x = some c ∧ c.name = x) ∨ (ratF L x = false ∧ cellOf L x = none) := by
  induction L with
  | nil => right; exact ⟨rfl, rfl⟩
  | cons c L ih =>
    obtain ⟨h1, h2⟩ := List.pairwise_cons.1 h
    by_cases hc : nl c.name x = true
    · have hk : ratK (c :: L) x = ratK L x + 1 := by rw [rat_cons, if_pos hc]
      have hF : ratF (c :: L) x = ratF L x := by unfold ratF; rw [hk]; simp
      have hne : c.name ≠ x := by rintro rfl; rw [nl_irrefl] at hc; cases hc
      rw [hF, hk, cellOf_cons, if_neg hne]
      simpa using ih h2
    · have hk : ratK (c :: L) x = 0 := by rw [rat_cons, if_neg hc]
      by_cases he : c.name = x
      · left
        refine ⟨by unfold ratF; rw [hk]; simpa using name_eq.2 he, by rw [hk, cellOf_cons, if_pos he]; rfl, c, by rw [cellOf_cons, if_pos he], he⟩
      · right
        refine ⟨?_, ?_⟩
        · unfold ratF; rw [hk]
          simp only [List.getElem?_cons_zero]
          cases hq : (c.name.toList == x.toList) with
          | true => exact absurd (name_eq.1 hq) he
          | false => rfl
        · rw [cellOf_cons, if_neg he]
          refine cellOf_low fun d hd => ?_
          have hxc : nl x c.name = true := by
            rw [nl_lt] at hc ⊢
            rcases List.le_total x.toList c.name.toList with h | h
            · rcases Classical.em (x.toList < c.name.toList) with h' | h'
              · exact h'
              · exact absurd (name_eq.1 (by rw [List.le_antisymm (show c.name.toList ≤ x.toList from h') h]; simp)) he
            · rcases Classical.em (x.toList < c.name.toList) with h' | h'
              · exact h'
              · exact absurd (name_eq.1 (by rw [List.le_antisymm h (show x.toList ≤ c.name.toList from hc)]; simp)) he
          exact nl_trans hxc (h1 d hd)

theorem cellOf_name {L : List RC} {x : ByteArray} {c : RC} (h : cellOf L x = some c) : c.name = x := by
  unfold cellOf at h
  have := List.find?_some (p := fun c : RC => c.name.toList == x.toList) h
  exact name_eq.1 this

theorem Rises.set {L : List RC} (h : Rises L) {k : Nat} {c c' : RC} (hk : L[k]? = some c) (hn : c'.name = c.name) : Rises (L.set k c') := by
  have : (L.set k c').map RC.name = L.map RC.name := by
    rw [List.map_set]
    apply List.ext_getElem?
    intro i
    rw [List.getElem?_set]
    by_cases e : k = i
    · subst e
      obtain ⟨hlt, hc⟩ := List.getElem?_eq_some_iff.1 hk
      rw [if_pos rfl, if_pos (by simpa using hlt), List.getElem?_map, hk, hn]; rfl
    · rw [if_neg e]
  unfold Rises at *
  have h' : (L.map RC.name).Pairwise (fun a b => nl a b = true) := List.pairwise_map.2 h
  rw [← this] at h'
  exact List.pairwise_map.1 h'

theorem cellOf_set {L : List RC} (h : Rises L) {k : Nat} {c c' : RC} (hk : L[k]? = some c) (hn : c'.name = c.name) (x : ByteArray) : cellOf (L.set k c') x = if x = c.name then some c' else cellOf L x := by
  induction L generalizing k with
  | nil => simp at hk
  | cons d L ih =>
    obtain ⟨h1, h2⟩ := List.pairwise_cons.1 h
    cases k with
    | zero =>
      simp at hk; subst hk
      rw [List.set_cons_zero, cellOf_cons, cellOf_cons, hn]
      by_cases e : d.name = x
      · rw [if_pos e, if_pos e.symm]
      · rw [if_neg e, if_neg (Ne.symm e), if_neg e]
    | succ k =>
      have hk' : L[k]? = some c := by simpa using hk
      rw [List.set_cons_succ, cellOf_cons, cellOf_cons, ih h2 hk']
      by_cases e : d.name = x
      · rw [if_pos e, if_pos e]
        have hlt := h1 c (List.mem_of_getElem? hk')
        rw [if_neg]
        rintro rfl
        rw [e, nl_irrefl] at hlt; cases hlt
      · rw [if_neg e, if_neg e]

/-- A new name, laid in its place. -/
theorem rins_cons (d : RC) (L : List RC) (k : Nat) (x : ByteArray) : rins (d :: L) (k + 1) x = d :: rins L k x := by simp [rins]
theorem cellOf_ins {L : List RC} (h : Rises L) (x : ByteArray) (hf : cellOf L x = none) : Rises (rins L (ratK L x) x) ∧ (rins L (ratK L x) x)[ratK L x]? = some ⟨x, false, [], []⟩ ∧ ∀ y, cellOf (rins L (ratK L x) x) y = if y = x then some ⟨x, false, [], []⟩ else cellOf L y := by
  induction L with
  | nil =>
    refine ⟨List.pairwise_singleton _ _, rfl, fun y => ?_⟩
    show cellOf [⟨x, false, [], []⟩] y = _
    rw [cellOf_cons]
    by_cases e : y = x
    · rw [if_pos e, if_pos e.symm]
    · rw [if_neg e, if_neg (Ne.symm e)]
  | cons d L ih =>
    obtain ⟨h1, h2⟩ := List.pairwise_cons.1 h
    rw [cellOf_cons] at hf
    have hdx : d.name ≠ x := by intro e; rw [if_pos e] at hf; cases hf
    rw [if_neg hdx] at hf
    rw [rat_cons]
    by_cases hc : nl d.name x = true
    · rw [if_pos hc, rins_cons]
      obtain ⟨g1, g2, g3⟩ := ih h2 hf
      refine ⟨List.pairwise_cons.2 ⟨fun e he => ?_, g1⟩, by simpa using g2, fun y => ?_⟩
      · unfold rins at he
        rcases List.mem_append.1 he with he | he
        · exact h1 e (List.mem_of_mem_take he)
        · rcases List.mem_cons.1 he with rfl | he
          · exact hc
          · exact h1 e (List.mem_of_mem_drop he)
      · rw [cellOf_cons, cellOf_cons, g3]
        by_cases e : d.name = y
        · rw [if_pos e, if_pos e, if_neg (by rintro rfl; exact hdx e)]
        · rw [if_neg e, if_neg e]
    · rw [if_neg hc]
      have hxd : nl x d.name = true := by
        rw [nl_lt] at hc ⊢
        rcases Classical.em (x.toList < d.name.toList) with h' | h'
        · exact h'
        · exact absurd (name_eq.1 (by rw [List.le_antisymm (show d.name.toList ≤ x.toList from h') (show x.toList ≤ d.name.toList from hc)]; simp)) hdx
      refine ⟨?_, rfl, fun y => ?_⟩
      · show Rises (⟨x, false, [], []⟩ :: d :: L)
        refine List.pairwise_cons.2 ⟨fun e he => ?_, h⟩
        rcases List.mem_cons.1 he with rfl | he
        · exact hxd
        · exact nl_trans hxd (h1 e he)
      · show cellOf (⟨x, false, [], []⟩ :: d :: L) y = _
        rw [cellOf_cons]
        by_cases e : y = x
        · rw [if_pos e, if_pos e.symm]
        · rw [if_neg e, if_neg (Ne.symm e)]
end Go.Proofs.Ytajmaebofhkjjaa
