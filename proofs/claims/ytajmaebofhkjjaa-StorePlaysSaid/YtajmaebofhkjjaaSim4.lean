import Derived.Test.YtajmaebofhkjjaaSim3
namespace Go.Proofs.Ytajmaebofhkjjaa
open Go.RowKit Go.Proofs.Dm Go.MapKept

/-- A name's cell is there; nothing else changes. -/
theorem Sim.cell {st : St} {rs : RSt} (h : Sim st rs) (x : ByteArray) : Sim st { rs with L := rput1 rs.L x } ∧ ∃ c, (rput1 rs.L x)[ratK rs.L x]? = some c ∧ c.name = x := by
  rcases rat_cell h.rises x with ⟨h1, h2, c, h3, h4⟩ | ⟨h1, h2⟩
  · have e : rput1 rs.L x = rs.L := by simp [rput1, h1]
    rw [e]
    exact ⟨h, c, h2.trans h3, h4⟩
  · have e : rput1 rs.L x = rins rs.L (ratK rs.L x) x := by simp [rput1, h1]
    obtain ⟨g1, g2, g3⟩ := cellOf_ins h.rises x h2
    rw [e]
    refine ⟨⟨g1, fun y => ?_, fun y => ?_, h.nd, fun c hc => ?_, h.len, h.puts⟩, _, g2, rfl⟩
    · rw [h.shows y]
      show showOf rs.L y = showOf (rins rs.L (ratK rs.L x) x) y
      unfold showOf
      rw [g3 y]
      by_cases e : y = x
      · rw [if_pos e, e, h2]; rfl
      · rw [if_neg e]
    · rw [h.vers y]
      show _ = ((cellOf (rins rs.L (ratK rs.L x) x) y).map RC.all).getD []
      rw [g3 y]
      by_cases e : y = x
      · rw [if_pos e, e, h2]; rfl
      · rw [if_neg e]
    · show (cellOf (rins rs.L (ratK rs.L x) x) c.name).isSome = true
      rw [g3]
      by_cases e : c.name = x
      · rw [if_pos e]; rfl
      · rw [if_neg e]; exact h.names c hc

theorem wound_now (st : St) (x : ByteArray) : wound st st.chs.length x = kvGet st.shows x := by
  unfold wound
  rw [List.drop_length]; rfl

theorem Sim.put {st : St} {rs : RSt} (h : Sim st rs) (x : ByteArray) (b : List UInt8) : Sim (st.put x b) ⟨rput rs.L x b, rs.old ++ [rs.L]⟩ := by
  obtain ⟨h1, c, hc, hx⟩ := h.cell x
  have hs := h1.set hc true b
  rw [if_pos rfl, hx] at hs
  subst hx
  dsimp only at hs
  have hp : rput rs.L c.name b = (rput1 rs.L c.name).set (ratK rs.L c.name) { c with shows := true, b := b, all := c.all ++ [b] } := by simp [rput, hc]
  rw [hp]
  have c1 : ∀ y, cellOf ((rput1 rs.L c.name).set (ratK rs.L c.name) { c with shows := true, b := b }) y = if y = c.name then some { c with shows := true, b := b } else cellOf (rput1 rs.L c.name) y := fun y => cellOf_set h1.rises hc (c' := { c with shows := true, b := b }) rfl y
  have c2 : ∀ y, cellOf ((rput1 rs.L c.name).set (ratK rs.L c.name) { c with shows := true, b := b, all := c.all ++ [b] }) y = if y = c.name then some { c with shows := true, b := b, all := c.all ++ [b] } else cellOf (rput1 rs.L c.name) y := fun y => cellOf_set h1.rises hc (c' := { c with shows := true, b := b, all := c.all ++ [b] }) rfl y
  have hw : ∀ p y, p ≤ st.chs.length → wound (st.put c.name b) p y = wound st p y := fun p y hle => wound_set h.nd c.name (some b) hle y
  have hcl : (st.put c.name b).chs.length = st.chs.length + 1 := by simp [St.put, St.set]
  refine ⟨h1.rises.set hc (c' := { c with shows := true, b := b, all := c.all ++ [b] }) rfl, fun y => ?_, fun y => ?_, hs.nd, fun d hd => ?_, by simp [St.put, St.set, h.len], fun i p o hi ho => ?_⟩
  · refine (hs.shows y).trans ?_
    unfold showOf
    dsimp only
    rw [c1, c2]
    by_cases e : y = c.name
    · rw [if_pos e, if_pos e]; rfl
    · rw [if_neg e, if_neg e]
  · show (kvGet (kvSet st.vers c.name ((kvGet st.vers c.name).getD [] ++ [b])) y).getD [] = ((cellOf _ y).map RC.all).getD []
    rw [kvGet_set, c2]
    by_cases e : c.name = y
    · rw [if_pos e, if_pos e.symm]
      have hv := h1.vers c.name
      have hcm := cellOf_mem h1.rises hc
      have hcm' : cellOf (rput1 rs.L c.name) c.name = some c := hcm
      simp only [hcm', Option.map_some, Option.getD_some] at hv ⊢
      rw [hv]
    · rw [if_neg e, if_neg (Ne.symm e)]; exact h1.vers y
  · have := hs.names d hd
    show (cellOf _ d.name).isSome = true
    rw [c2]
    have e1 := c1 d.name
    dsimp only at this
    rw [e1] at this
    by_cases e : d.name = c.name
    · rw [if_pos e]; rfl
    · rw [if_neg e] at this ⊢; exact this
  · have hi' : (st.puts ++ [st.chs.length])[i]? = some p := hi
    rw [List.getElem?_append] at hi' ho
    split at hi'
    · rename_i hlt
      rw [if_pos (by rw [← h.len]; exact hlt)] at ho
      obtain ⟨g1, g2, g3⟩ := h.puts i p o hi' ho
      exact ⟨by omega, g2, fun y => (hw p y (by omega)).trans (g3 y)⟩
    · rename_i hlt
      rw [if_neg (by rw [← h.len]; exact hlt)] at ho
      have hi0 : i - st.puts.length = 0 := by
        by_cases e : i - st.puts.length = 0
        · exact e
        · rw [List.getElem?_cons, if_neg e] at hi'; simp at hi'
      rw [hi0] at hi'; rw [← h.len, hi0] at ho
      simp at hi' ho
      subst hi'; subst ho
      refine ⟨by omega, h.rises, fun y => ?_⟩
      rw [hw _ y (Nat.le_refl _), wound_now]; exact h.shows y

theorem wasS_get (d : List Ch) (x : ByteArray) : kvGet (wasS d) x = d.find? (fun c => c.name.toList == x.toList) := by
  induction d with
  | nil => rfl
  | cons c d ih =>
    have e : wasS (c :: d) = kvSet (wasS d) c.name c := by simp [wasS]
    rw [e, kvGet_set, List.find?_cons]
    by_cases h : c.name = x
    · rw [if_pos h, name_eq.2 h]
    · rw [if_neg h, ih]
      cases hq : (c.name.toList == x.toList) with
      | true => exact absurd (name_eq.1 hq) h
      | false => rfl

theorem KvNd.wasS (d : List Ch) : KvNd (wasS d) := by
  induction d with
  | nil => exact List.nodup_nil
  | cons c d ih =>
    have e : Go.Proofs.Ytajmaebofhkjjaa.wasS (c :: d) = kvSet (Go.Proofs.Ytajmaebofhkjjaa.wasS d) c.name c := by simp [Go.Proofs.Ytajmaebofhkjjaa.wasS]
    rw [e]; exact ih.set _ _

theorem mem_sorted {α : Type} {k : List (ByteArray × α)} {x : ByteArray} : x ∈ sortedNames k ↔ x ∈ k.map (·.1) := by
  unfold sortedNames keyList
  simp only [List.mem_map, List.mem_mergeSort]
  constructor
  · rintro ⟨l, ⟨p, hp, rfl⟩, rfl⟩; exact ⟨p, hp, by simp⟩
  · rintro ⟨p, hp, rfl⟩; exact ⟨_, ⟨p, hp, rfl⟩, by simp⟩

theorem kvGet_in {α : Type} {k : List (ByteArray × α)} {x : ByteArray} : x ∈ k.map (·.1) ↔ (kvGet k x).isSome = true := by
  constructor
  · intro h
    obtain ⟨p, hp, he⟩ := List.mem_map.1 h
    obtain ⟨v, hv⟩ := kvGet_mem ⟨p, hp, he⟩
    rw [hv]; rfl
  · intro h
    rcases Classical.em (x ∈ k.map (·.1)) with h' | h'
    · exact h'
    · rw [kvGet_out h'] at h; cases h

/-- What a walk of rollSet over some names leaves. -/
structure Rolled (was : List (ByteArray × Ch)) (l : List ByteArray) (st st' : St) : Prop where
  nd : KvNd st'.shows
  shows : ∀ x, (x ∈ l → kvGet st'.shows x = (kvGet was x).bind fun c => if c.is then some c.b else none) ∧ (x ∉ l → kvGet st'.shows x = kvGet st.shows x)
  vers : st'.vers = st.vers
  puts : st'.puts = st.puts
  len : st'.chs.length = st.chs.length + l.length
  names : ∀ c ∈ st'.chs, c ∈ st.chs ∨ c.name ∈ l
  wound : ∀ p x, p ≤ st.chs.length → wound st' p x = wound st p x

theorem rolled (was : List (ByteArray × Ch)) : ∀ (l : List ByteArray) (st : St), KvNd st.shows → (∀ x ∈ l, ∃ c, kvGet was x = some c) → Rolled was l st (l.foldl (rollSet was) st) := by
  intro l
  induction l with
  | nil => intro st h _; exact ⟨h, fun x => ⟨fun h => by simp at h, fun _ => rfl⟩, rfl, rfl, rfl, fun c hc => .inl hc, fun _ _ _ => rfl⟩
  | cons a l ih =>
    intro st h hm
    obtain ⟨c, hc⟩ := hm a List.mem_cons_self
    have e : rollSet was st a = st.set a (if c.is then some c.b else none) := by simp [rollSet, hc]
    have hn : KvNd (rollSet was st a).shows := by
      rw [e]; unfold St.set
      cases c.is with
      | true => exact h.set _ _
      | false => exact h.del _
    have hR := ih (rollSet was st a) hn (fun x hx => hm x (List.mem_cons_of_mem _ hx))
    have hl : (rollSet was st a).chs = st.chs ++ [⟨a, (kvGet st.shows a).getD [], (kvGet st.shows a).isSome⟩] := by rw [e]; rfl
    have hl1 : (rollSet was st a).chs.length = st.chs.length + 1 := by rw [hl]; simp
    refine ⟨hR.nd, fun x => ?_, hR.vers.trans (by rw [e]; rfl), hR.puts.trans (by rw [e]; rfl), by rw [List.foldl_cons, hR.len, hl1, List.length_cons]; omega, fun d hd => ?_, fun p x hp => ?_⟩
    · rw [List.foldl_cons]
      rcases Classical.em (x ∈ l) with hx | hx
      · exact ⟨fun _ => (hR.shows x).1 hx, fun hn => absurd (List.mem_cons_of_mem _ hx) hn⟩
      · rw [(hR.shows x).2 hx, e, St.get_set h]
        refine ⟨fun hm => ?_, fun hn => ?_⟩
        · rcases List.mem_cons.1 hm with rfl | hm
          · rw [if_pos rfl, hc]; rfl
          · exact absurd hm hx
        · rw [if_neg (by rintro rfl; exact hn List.mem_cons_self)]
    · rcases hR.names d hd with h' | h'
      · rw [hl] at h'
        rcases List.mem_append.1 h' with h' | h'
        · exact .inl h'
        · simp at h'; subst h'; exact .inr List.mem_cons_self
      · exact .inr (List.mem_cons_of_mem _ h')
    · rw [List.foldl_cons, hR.wound p x (by omega), e, wound_set h _ _ hp]

theorem rollCell_eq {o : List RC} (h : Rises o) (c : RC) : rollCell o c = match cellOf o c.name with | some d => { c with shows := d.shows, b := d.b } | none => { c with shows := false, b := [] } := by
  have hg : ∀ (o : List RC) (a : RC) (n : ByteArray), Rises o → a.name = n → o.foldl (rollStep n) a = match cellOf o n with | some d => { a with shows := d.shows, b := d.b } | none => a := by
    intro o
    induction o with
    | nil => intro a n _ _; rfl
    | cons d o ih =>
      intro a n hr ha
      obtain ⟨r1, r2⟩ := List.pairwise_cons.1 hr
      rw [List.foldl_cons, cellOf_cons]
      by_cases e : d.name = n
      · rw [if_pos e]
        have hs : rollStep n a d = { a with shows := d.shows, b := d.b } := by simp [rollStep, name_eq.2 e]
        have hn : cellOf o n = none := cellOf_low fun f hf => by rw [← e]; exact r1 f hf
        rw [ih _ n r2 (by rw [hs]; exact ha), hn, hs]
      · rw [if_neg e]
        have hs : rollStep n a d = a := by
          unfold rollStep
          rw [if_neg]
          exact fun h => e (name_eq.1 h)
        rw [hs]; exact ih a n r2 ha
  exact hg o _ c.name h rfl

theorem cellOf_map {L : List RC} (g : RC → RC) (hg : ∀ c, (g c).name = c.name) (x : ByteArray) : cellOf (L.map g) x = (cellOf L x).map g := by
  induction L with
  | nil => rfl
  | cons c L ih =>
    rw [List.map_cons, cellOf_cons, cellOf_cons, hg, ih]
    split <;> rfl

theorem wound_was (st : St) (p : Nat) (x : ByteArray) : (x ∈ sortedNames (wasS (st.chs.drop p)) → wound st p x = (kvGet (wasS (st.chs.drop p)) x).bind fun c => if c.is then some c.b else none) ∧ (x ∉ sortedNames (wasS (st.chs.drop p)) → wound st p x = kvGet st.shows x) := by
  unfold wound
  rw [← wasS_get, mem_sorted, kvGet_in]
  cases hq : kvGet (wasS (st.chs.drop p)) x with
  | none => exact ⟨fun h => (by cases h), fun _ => rfl⟩
  | some c => exact ⟨fun _ => rfl, fun h => absurd rfl h⟩

theorem rolledSt {st : St} (h : KvNd st.shows) (p : Nat) : Rolled (wasS (st.chs.drop p)) (sortedNames (wasS (st.chs.drop p))) st (rollSt st p) :=
  rolled _ _ st h fun _ hx => sorted_mem hx

theorem Rolled.wound_now {st st' : St} {p : Nat} (hR : Rolled (wasS (st.chs.drop p)) (sortedNames (wasS (st.chs.drop p))) st st') (x : ByteArray) : kvGet st'.shows x = Go.Proofs.Ytajmaebofhkjjaa.wound st p x := by
  rcases Classical.em (x ∈ sortedNames (wasS (st.chs.drop p))) with hx | hx
  · rw [(hR.shows x).1 hx, (wound_was st p x).1 hx]
  · rw [(hR.shows x).2 hx, (wound_was st p x).2 hx]

theorem Sim.rollSt {st : St} {rs : RSt} (h : Sim st rs) {i p : Nat} {o : List RC} (hp : st.puts[i]? = some p) (ho : rs.old[i]? = some o) : Sim (rollSt st p) { rs with L := rs.L.map (rollCell o) } := by
  obtain ⟨h1, h2, h3⟩ := h.puts i p o hp ho
  have hR := rolledSt h.nd p
  have hcm : ∀ x, cellOf (rs.L.map (rollCell o)) x = (cellOf rs.L x).map (rollCell o) := cellOf_map _ (rollCell_name o)
  refine ⟨?_, fun x => ?_, fun x => ?_, hR.nd, fun c hc => ?_, by rw [hR.puts]; exact h.len, fun i' p' o' hp' ho' => ?_⟩
  · show Rises (rs.L.map (rollCell o))
    unfold Rises
    rw [List.pairwise_map]
    exact List.Pairwise.imp (fun {a b} hab => by rw [rollCell_name, rollCell_name]; exact hab) h.rises
  · rw [hR.wound_now x, h3 x]
    show showOf o x = showOf (rs.L.map (rollCell o)) x
    have hw := h3 x
    have hsh := h.shows x
    unfold showOf at hw hsh ⊢
    rw [hcm]
    cases hc : cellOf rs.L x with
    | none =>
      have hnf : (st.chs.drop p).find? (fun c => c.name.toList == x.toList) = none := by
        rw [List.find?_eq_none]
        intro c hcm' hq
        have := h.names c (List.mem_of_mem_drop hcm')
        rw [name_eq.1 hq, hc] at this; cases this
      unfold wound at hw
      rw [hnf] at hw
      rw [hc] at hsh
      simp only at hw
      rw [← hw, hsh]; rfl
    | some c =>
      have hn := cellOf_name hc
      show _ = if (rollCell o c).shows = true then some (rollCell o c).b else none
      rw [rollCell_eq h2, hn]
      cases cellOf o x <;> rfl
  · show (kvGet (Go.Proofs.Ytajmaebofhkjjaa.rollSt st p).vers x).getD [] = ((cellOf (rs.L.map (rollCell o)) x).map RC.all).getD []
    rw [hR.vers, h.vers x, hcm]
    cases cellOf rs.L x with
    | none => rfl
    | some c =>
      show c.all = (rollCell o c).all
      rw [rollCell_eq h2]
      cases cellOf o c.name <;> rfl
  · show (cellOf (rs.L.map (rollCell o)) c.name).isSome = true
    rw [hcm, Option.isSome_map]
    rcases hR.names c hc with h' | h'
    · exact h.names c h'
    · rw [mem_sorted, kvGet_in, wasS_get] at h'
      obtain ⟨d, hd⟩ := Option.isSome_iff_exists.1 h'
      have := h.names d (List.mem_of_mem_drop (List.mem_of_find?_eq_some hd))
      rwa [name_eq.1 (List.find?_some (p := fun d : Ch => d.name.toList == c.name.toList) hd)] at this
  · rw [hR.puts] at hp'
    obtain ⟨g1, g2, g3⟩ := h.puts i' p' o' hp' ho'
    exact ⟨by rw [hR.len]; omega, g2, fun x => (hR.wound p' x (by omega)).trans (g3 x)⟩

theorem Sim.roll {st : St} {rs : RSt} (h : Sim st rs) (n : Int) : canRoll st n = rcanRoll rs n ∧ Sim (roll st n) { rs with L := rroll rs n } := by
  have hc : canRoll st n = rcanRoll rs n := by simp [canRoll, rcanRoll, h.len]
  refine ⟨hc, ?_⟩
  unfold Go.Proofs.Ytajmaebofhkjjaa.roll rroll
  rw [hc]
  by_cases hq : rcanRoll rs n = true ∧ n ≠ 0
  · rw [if_pos hq, if_pos hq]
    obtain ⟨hq1, hq2⟩ := hq
    simp only [rcanRoll, Bool.and_eq_true, decide_eq_true_eq] at hq1
    have hlt : st.puts.length - n.toNat < st.puts.length := by have := h.len; omega
    have hlt' : rs.old.length - n.toNat < rs.old.length := by omega
    obtain ⟨p, hp⟩ : ∃ p, st.puts[st.puts.length - n.toNat]? = some p := ⟨_, List.getElem?_eq_getElem hlt⟩
    obtain ⟨o, ho⟩ : ∃ o, rs.old[rs.old.length - n.toNat]? = some o := ⟨_, List.getElem?_eq_getElem hlt'⟩
    rw [hp, ho]
    exact h.rollSt hp (by rw [h.len]; exact ho)
  · rw [if_neg hq, if_neg hq]; exact h

theorem Sim.names' {st : St} {rs : RSt} (h : Sim st rs) : sortedNames st.shows = rnames rs.L := by
  have hN : ∀ x, x ∈ st.shows.map (·.1) ↔ x ∈ rnames rs.L := by
    intro x
    rw [kvGet_in, h.shows x]
    unfold rnames showOf
    simp only [List.mem_map, List.mem_filter]
    constructor
    · intro hs
      cases hc : cellOf rs.L x with
      | none => rw [hc] at hs; cases hs
      | some c =>
        rw [hc] at hs
        have hcs : c.shows = true := by
          cases hq : c.shows with
          | true => rfl
          | false => simp [hq] at hs
        exact ⟨c, ⟨List.mem_of_find?_eq_some hc, hcs⟩, cellOf_name hc⟩
    · rintro ⟨c, ⟨hm, hs⟩, rfl⟩
      obtain ⟨k, hk⟩ := List.mem_iff_getElem?.1 hm
      rw [cellOf_mem h.rises hk]
      simp [hs]
  have hR : (rnames rs.L).Pairwise (fun a b => nl a b = true) := by
    unfold rnames
    rw [List.pairwise_map]
    exact h.rises.filter _
  have hRd : ((rnames rs.L).map (fun x => x.data.toList)).Pairwise (· < ·) := by
    rw [List.pairwise_map]
    refine List.Pairwise.imp (fun {a b} hab => ?_) hR
    rw [nl_lt, ByteArray.toList_eq, ByteArray.toList_eq] at hab; exact hab
  have hnd1 : (keyList st.shows).Nodup := by
    have : keyList st.shows = (st.shows.map (·.1)).map (fun x => x.data.toList) := by simp [keyList]
    rw [this]
    unfold List.Nodup
    rw [List.pairwise_map]
    refine List.Pairwise.imp (fun {a b} hab hq => hab ?_) (show (st.shows.map (·.1)).Pairwise (· ≠ ·) from h.nd)
    obtain ⟨⟨a⟩⟩ := a; obtain ⟨⟨b⟩⟩ := b
    simp at hq; rw [hq]
  have hnd2 : ((rnames rs.L).map (fun x => x.data.toList)).Nodup := List.Pairwise.imp (fun {a b} hab hq => by rw [hq] at hab; exact List.lt_irrefl _ hab) hRd
  have hperm : (keyList st.shows).Perm ((rnames rs.L).map (fun x => x.data.toList)) := by
    rw [List.perm_ext_iff_of_nodup hnd1 hnd2]
    intro l
    have e : keyList st.shows = (st.shows.map (·.1)).map (fun x => x.data.toList) := by simp [keyList]
    rw [e, List.mem_map, List.mem_map]
    exact ⟨fun ⟨x, hx, e⟩ => ⟨x, (hN x).1 hx, e⟩, fun ⟨x, hx, e⟩ => ⟨x, (hN x).2 hx, e⟩⟩
  unfold sortedNames
  rw [mergeSort_of_perm hperm, List.mergeSort_of_pairwise (List.Pairwise.imp (fun {a b} hab => by simpa using List.le_of_lt hab) hRd)]
  simp [Function.comp_def]
end Go.Proofs.Ytajmaebofhkjjaa
