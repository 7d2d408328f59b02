import Derived.Test.YtajmaebofhkjjaaSim
namespace Go.Proofs.Ytajmaebofhkjjaa
open Go.RowKit Go.Proofs.Dm Go.MapKept

theorem kvGet_set {α : Type} (k : List (ByteArray × α)) (x y : ByteArray) (v : α) : kvGet (kvSet k x v) y = if x = y then some v else kvGet k y := by
  induction k with
  | nil => simp [kvSet, kvGet]
  | cons p k ih =>
    obtain ⟨a, b⟩ := p
    simp only [kvSet]
    by_cases h : a = x
    · rw [if_pos h]; subst h
      simp only [kvGet]
      by_cases e : a = y
      · rw [if_pos e, if_pos e]
      · rw [if_neg e, if_neg e, if_neg e]
    · rw [if_neg h]
      simp only [kvGet]
      by_cases e : a = y
      · rw [if_pos e, if_pos e, if_neg (by rintro rfl; exact h e)]
      · rw [if_neg e, if_neg e, ih]

def KvNd {α : Type} (k : List (ByteArray × α)) : Prop := (k.map (·.1)).Nodup
theorem kvGet_out {α : Type} {k : List (ByteArray × α)} {x : ByteArray} (h : x ∉ k.map (·.1)) : kvGet k x = none := by
  induction k with
  | nil => rfl
  | cons p k ih =>
    obtain ⟨a, b⟩ := p
    simp only [List.map_cons, List.mem_cons, not_or] at h
    simp only [kvGet]
    rw [if_neg (Ne.symm h.1), ih h.2]
theorem kvGet_del {α : Type} {k : List (ByteArray × α)} (h : KvNd k) (x y : ByteArray) : kvGet (kvDel k x) y = if x = y then none else kvGet k y := by
  induction k with
  | nil => simp [kvDel, kvGet]
  | cons p k ih =>
    obtain ⟨a, b⟩ := p
    obtain ⟨h1, h2⟩ := List.nodup_cons.1 (show (a :: k.map (·.1)).Nodup from h)
    simp only [kvDel]
    by_cases e : a = x
    · rw [if_pos e]; subst e
      by_cases e' : a = y
      · rw [if_pos e']; subst e'; exact kvGet_out h1
      · rw [if_neg e']; simp only [kvGet]; rw [if_neg e']
    · rw [if_neg e]
      simp only [kvGet]
      by_cases e' : a = y
      · rw [if_pos e', if_pos e', if_neg (by rintro rfl; exact e e')]
      · rw [if_neg e', if_neg e', ih h2]
theorem kvSet_keys {α : Type} (k : List (ByteArray × α)) (x : ByteArray) (v : α) : (x ∈ k.map (·.1) ∧ (kvSet k x v).map (·.1) = k.map (·.1)) ∨ (x ∉ k.map (·.1) ∧ (kvSet k x v).map (·.1) = k.map (·.1) ++ [x]) := by
  induction k with
  | nil => right; simp [kvSet]
  | cons p k ih =>
    obtain ⟨a, b⟩ := p
    simp only [kvSet]
    by_cases e : a = x
    · left; rw [if_pos e]; exact ⟨by simp [e], rfl⟩
    · rw [if_neg e]
      rcases ih with ⟨h1, h2⟩ | ⟨h1, h2⟩
      · left; exact ⟨List.mem_cons_of_mem _ h1, by rw [List.map_cons, h2]; rfl⟩
      · right; exact ⟨fun h => (List.mem_cons.1 h).elim (fun h => e h.symm) h1, by rw [List.map_cons, h2]; rfl⟩
theorem KvNd.set {α : Type} {k : List (ByteArray × α)} (h : KvNd k) (x : ByteArray) (v : α) : KvNd (kvSet k x v) := by
  unfold KvNd at *
  rcases kvSet_keys k x v with ⟨_, h2⟩ | ⟨h1, h2⟩
  · rw [h2]; exact h
  · rw [h2]
    exact List.nodup_append.2 ⟨h, by simp, fun a ha b hb => by simp at hb; subst hb; rintro rfl; exact h1 ha⟩
theorem kvDel_sub {α : Type} (k : List (ByteArray × α)) (x : ByteArray) : (kvDel k x).Sublist k := by
  induction k with
  | nil => exact List.Sublist.refl _
  | cons p k ih =>
    obtain ⟨a, b⟩ := p
    simp only [kvDel]
    split
    · exact List.sublist_cons_self _ _
    · exact ih.cons_cons _
theorem KvNd.del {α : Type} {k : List (ByteArray × α)} (h : KvNd k) (x : ByteArray) : KvNd (kvDel k x) := List.Nodup.sublist ((kvDel_sub k x).map _) h

/-- What a list of the reference says that a name shows. -/
def showOf (L : List RC) (x : ByteArray) : Option (List UInt8) := (cellOf L x).bind fun c => if c.shows then some c.b else none
/-- What a name showed ahead of change p. -/
def wound (st : St) (p : Nat) (x : ByteArray) : Option (List UInt8) :=
  match (st.chs.drop p).find? (fun c => c.name.toList == x.toList) with | some c => if c.is then some c.b else none | none => kvGet st.shows x

structure Sim (st : St) (rs : RSt) : Prop where
  rises : Rises rs.L
  shows : ∀ x, kvGet st.shows x = showOf rs.L x
  vers : ∀ x, (kvGet st.vers x).getD [] = ((cellOf rs.L x).map RC.all).getD []
  nd : KvNd st.shows
  names : ∀ c ∈ st.chs, (cellOf rs.L c.name).isSome = true
  len : st.puts.length = rs.old.length
  puts : ∀ (i p : Nat) (o : List RC), st.puts[i]? = some p → rs.old[i]? = some o → p < st.chs.length ∧ Rises o ∧ ∀ x, wound st p x = showOf o x

theorem St.get_set {st : St} (h : KvNd st.shows) (name : ByteArray) (v : Option (List UInt8)) (x : ByteArray) : kvGet (st.set name v).shows x = if name = x then v else kvGet st.shows x := by
  unfold St.set
  cases v with
  | some b => exact kvGet_set _ _ _ _
  | none => exact kvGet_del h _ _

theorem wound_set {st : St} (h : KvNd st.shows) (name : ByteArray) (v : Option (List UInt8)) {p : Nat} (hp : p ≤ st.chs.length) (x : ByteArray) : wound (st.set name v) p x = wound st p x := by
  unfold wound
  have hc : (st.set name v).chs.drop p = st.chs.drop p ++ [⟨name, (kvGet st.shows name).getD [], (kvGet st.shows name).isSome⟩] := by
    unfold St.set; exact List.drop_append_of_le_length hp
  rw [hc, List.find?_append]
  cases hf : (st.chs.drop p).find? (fun c => c.name.toList == x.toList) with
  | some c => rfl
  | none =>
    by_cases e : name = x
    · subst e
      have : (name.toList == name.toList) = true := by simp
      simp only [Option.none_or, List.find?_cons, this]
      cases kvGet st.shows name <;> rfl
    · have : (name.toList == x.toList) = false := by
        cases hq : (name.toList == x.toList) with
        | true => exact absurd (name_eq.1 hq) e
        | false => rfl
      simp only [Option.none_or, List.find?_cons, this, List.find?_nil]
      rw [St.get_set h, if_neg e]

theorem cellOf_mem {L : List RC} (h : Rises L) {k : Nat} {c : RC} (hk : L[k]? = some c) : cellOf L c.name = some c := by
  have h1 := cellOf_set h hk (c' := c) rfl c.name
  have h2 : L.set k c = L := by
    apply List.ext_getElem?
    intro i
    rw [List.getElem?_set]
    by_cases e : k = i
    · subst e
      obtain ⟨hlt, hc⟩ := List.getElem?_eq_some_iff.1 hk
      rw [if_pos rfl, if_pos hlt, hk]
    · rw [if_neg e]
  rw [h2, if_pos rfl] at h1; exact h1

theorem Sim.set {st : St} {rs : RSt} (h : Sim st rs) {k : Nat} {c : RC} (hk : rs.L[k]? = some c) (s : Bool) (b : List UInt8) : Sim (st.set c.name (if s then some b else none)) { rs with L := rs.L.set k { c with shows := s, b := b } } := by
  have hcs : ∀ x, cellOf (rs.L.set k { c with shows := s, b := b }) x = if x = c.name then some { c with shows := s, b := b } else cellOf rs.L x := fun x => cellOf_set h.rises hk (c' := { c with shows := s, b := b }) rfl x
  have hcm := cellOf_mem h.rises hk
  have hch : (st.set c.name (if s then some b else none)).chs = st.chs ++ [⟨c.name, (kvGet st.shows c.name).getD [], (kvGet st.shows c.name).isSome⟩] := rfl
  refine ⟨h.rises.set hk (c' := { c with shows := s, b := b }) rfl, fun x => ?_, fun x => ?_, ?_, fun d hd => ?_, h.len, fun i p o hp ho => ?_⟩
  · rw [St.get_set h.nd]
    unfold showOf
    rw [hcs]
    by_cases e : c.name = x
    · rw [if_pos e, if_pos e.symm]; rfl
    · rw [if_neg e, if_neg (Ne.symm e)]; exact h.shows x
  · show (kvGet st.vers x).getD [] = _
    rw [hcs, h.vers x]
    by_cases e : x = c.name
    · rw [if_pos e, e, hcm]; rfl
    · rw [if_neg e]
  · unfold St.set
    cases s with
    | true => exact h.nd.set _ _
    | false => exact h.nd.del _
  · rw [hcs]
    rw [hch] at hd
    rcases List.mem_append.1 hd with hd | hd
    · by_cases e : d.name = c.name
      · rw [if_pos e]; rfl
      · rw [if_neg e]; exact h.names d hd
    · simp at hd; subst hd; rw [if_pos rfl]; rfl
  · obtain ⟨h1, h2, h3⟩ := h.puts i p o hp ho
    refine ⟨by rw [hch]; simp; omega, h2, fun x => ?_⟩
    rw [wound_set h.nd _ _ (by omega)]; exact h3 x
end Go.Proofs.Ytajmaebofhkjjaa
