import Derived.Test.YtajmaebofhkjjaaSim4
namespace Go.Proofs.Ytajmaebofhkjjaa
open Go.RowKit Go.Proofs.Dm Go.MapKept

/-- A cell within its bounds, behind so many rounds. -/
structure Cok (i : Nat) (c : RC) : Prop where
  all : c.all.length ≤ i
  b : c.b.length ≤ 300
  alls : ∀ v ∈ c.all, v.length ≤ 300
  name : c.name.size ≤ maxLen

structure Bnd (st : St) (rs : RSt) (i : Nat) : Prop where
  l : rs.L.length ≤ i
  chs : st.chs.length ≤ 200 * i
  old : rs.old.length ≤ i
  olds : ∀ o ∈ rs.old, o.length ≤ i
  cells : ∀ c ∈ rs.L, Cok i c
  ocells : ∀ o ∈ rs.old, ∀ c ∈ o, c.b.length ≤ 300

theorem Cok.up {i j : Nat} {c : RC} (h : Cok i c) (hij : i ≤ j) : Cok j c := ⟨Nat.le_trans h.all hij, h.b, h.alls, h.name⟩
theorem Bnd.up {st : St} {rs : RSt} {i j : Nat} (h : Bnd st rs i) (hij : i ≤ j) : Bnd st rs j :=
  ⟨Nat.le_trans h.l hij, Nat.le_trans h.chs (by omega), Nat.le_trans h.old hij, fun o ho => Nat.le_trans (h.olds o ho) hij, fun c hc => (h.cells c hc).up hij, h.ocells⟩

theorem mem_set_cases {α : Type} {L : List α} {k : Nat} {x y : α} (h : y ∈ L.set k x) : y = x ∨ y ∈ L := (List.mem_or_eq_of_mem_set h).symm.imp id id

/-- One set keeps the bounds. -/
theorem Bnd.set {st : St} {rs : RSt} {i : Nat} (h : Bnd st rs i) {x : ByteArray} {v : Option (List UInt8)} {k : Nat} {c : RC} (hc : Cok i c) {m : Nat} (hm : st.chs.length + 1 ≤ m) (hmi : m ≤ 200 * i) :
    Bnd (st.set x v) { rs with L := rs.L.set k c } i :=
  ⟨by simpa using h.l, by simp [St.set]; omega, h.old, h.olds, fun d hd => (mem_set_cases hd).elim (fun e => e ▸ hc) (h.cells d), h.ocells⟩

theorem set_len (st : St) (x : ByteArray) (v : Option (List UInt8)) : (st.set x v).chs.length = st.chs.length + 1 := by simp [St.set]

theorem Bnd.of {st st' : St} {rs rs' : RSt} {i : Nat} (h : Bnd st rs i) (hold : rs'.old = rs.old) (hl : rs'.L.length = rs.L.length) (hcs : ∀ c ∈ rs'.L, Cok (i + 1) c) (hch : st'.chs.length ≤ st.chs.length + 200) : Bnd st' rs' (i + 1) :=
  ⟨by rw [hl]; have := h.l; omega, by have := h.chs; omega, by rw [hold]; have := h.old; omega, fun o ho => by rw [hold] at ho; have := h.olds o ho; omega, hcs, fun o ho => by rw [hold] at ho; exact h.ocells o ho⟩

theorem Bnd.del {st : St} {rs : RSt} {i : Nat} (h : Bnd st rs i) (x : ByteArray) : Bnd (if (kvGet st.shows x).isSome then st.set x none else st) { rs with L := rdel rs.L x } (i + 1) := by
  have hl : (rdel rs.L x).length = rs.L.length := by unfold rdel; split <;> (try split) <;> simp
  refine h.of rfl hl (fun c hc => ?_) (by split <;> simp [set_len])
  have hc : c ∈ rdel rs.L x := hc
  unfold rdel at hc
  split at hc
  · split at hc
    · rename_i d hd
      have hk := (h.cells d (List.mem_of_getElem? hd)).up (Nat.le_succ i)
      rcases mem_set_cases hc with rfl | hc
      · exact ⟨hk.all, Nat.zero_le _, hk.alls, hk.name⟩
      · exact (h.cells c hc).up (Nat.le_succ i)
    · exact (h.cells c hc).up (Nat.le_succ i)
  · exact (h.cells c hc).up (Nat.le_succ i)

theorem Bnd.rep {st : St} {rs : RSt} {i : Nat} (h : Bnd st rs i) (x : ByteArray) (n : Int) : Bnd (st.replay x n) { rs with L := rrep rs.L x n } (i + 1) := by
  have hl : (rrep rs.L x n).length = rs.L.length := by unfold rrep; split <;> (try split) <;> simp
  refine h.of rfl hl (fun c hc => ?_) (by unfold St.replay; split <;> simp [set_len])
  have hc : c ∈ rrep rs.L x n := hc
  unfold rrep at hc
  split at hc
  · split at hc
    · rename_i d hd
      have hk := (h.cells d (List.mem_of_getElem? hd)).up (Nat.le_succ i)
      rcases mem_set_cases hc with rfl | hc
      · refine ⟨hk.all, ?_, hk.alls, hk.name⟩
        show (d.all.getD n.toNat []).length ≤ 300
        rw [List.getD_eq_getElem?_getD]
        cases hq : d.all[n.toNat]? with
        | none => exact Nat.zero_le _
        | some v => exact hk.alls v (List.mem_of_getElem? hq)
      · exact (h.cells c hc).up (Nat.le_succ i)
    · exact (h.cells c hc).up (Nat.le_succ i)
  · exact (h.cells c hc).up (Nat.le_succ i)

theorem Bnd.flip {st : St} {rs : RSt} {i : Nat} (h : Bnd st rs i) (x : ByteArray) (n : Int) : Bnd (st.flip x n) { rs with L := rflip rs.L x n } (i + 1) := by
  have hl : (rflip rs.L x n).length = rs.L.length := by unfold rflip; split <;> (try split) <;> (try split) <;> simp
  refine h.of rfl hl (fun c hc => ?_) (by unfold St.flip; split <;> simp [set_len])
  have hc : c ∈ rflip rs.L x n := hc
  unfold rflip at hc
  split at hc
  · split at hc
    · split at hc
      · rename_i d hd
        have hk := (h.cells d (List.mem_of_getElem? hd)).up (Nat.le_succ i)
        rcases mem_set_cases hc with rfl | hc
        · exact ⟨hk.all, by show (flipped d.b n.toNat).length ≤ 300; unfold flipped; simpa using hk.b, hk.alls, hk.name⟩
        · exact (h.cells c hc).up (Nat.le_succ i)
      · exact (h.cells c hc).up (Nat.le_succ i)
    · exact (h.cells c hc).up (Nat.le_succ i)
  · exact (h.cells c hc).up (Nat.le_succ i)

theorem Bnd.swap {st : St} {rs : RSt} {i : Nat} (h : Bnd st rs i) (a b : ByteArray) : Bnd (st.swap a b) { rs with L := rswap rs.L a b } (i + 1) := by
  have hl : (rswap rs.L a b).length = rs.L.length := by unfold rswap; split <;> (try split) <;> (try split) <;> simp
  refine h.of rfl hl (fun c hc => ?_) (by unfold St.swap; split <;> simp [set_len])
  have hc : c ∈ rswap rs.L a b := hc
  have hup : ∀ d ∈ rs.L, Cok (i + 1) d := fun d hd => (h.cells d hd).up (Nat.le_succ i)
  unfold rswap at hc
  split at hc
  · split at hc
    · exact hup c hc
    · split at hc
      · rename_i d e hd he
        have hkd := hup d (List.mem_of_getElem? hd)
        have hke := hup e (List.mem_of_getElem? he)
        rcases mem_set_cases hc with rfl | hc
        · exact ⟨hke.all, hkd.b, hke.alls, hke.name⟩
        · rcases mem_set_cases hc with rfl | hc
          · exact ⟨hkd.all, hke.b, hkd.alls, hkd.name⟩
          · exact hup c hc
      · exact hup c hc
  · exact hup c hc

theorem rput1_len (L : List RC) (x : ByteArray) : (rput1 L x).length ≤ L.length + 1 := by
  unfold rput1; split
  · omega
  · unfold rins; simp; have := ratK_le L x; omega

theorem rput1_mem {L : List RC} {x : ByteArray} {c : RC} (h : c ∈ rput1 L x) : c ∈ L ∨ c = ⟨x, false, [], []⟩ := by
  unfold rput1 at h; split at h
  · exact .inl h
  · unfold rins at h
    rcases List.mem_append.1 h with h | h
    · exact .inl (List.mem_of_mem_take h)
    · rcases List.mem_cons.1 h with h | h
      · exact .inr h
      · exact .inl (List.mem_of_mem_drop h)

theorem Bnd.put {st : St} {rs : RSt} {i : Nat} (h : Bnd st rs i) (x : ByteArray) (b : List UInt8) (hx : x.size ≤ maxLen) (hb : b.length ≤ 300) : Bnd (st.put x b) ⟨rput rs.L x b, rs.old ++ [rs.L]⟩ (i + 1) := by
  have h1 : ∀ c ∈ rput1 rs.L x, Cok i c := fun c hc => (rput1_mem hc).elim (h.cells c) (fun e => by subst e; exact ⟨Nat.zero_le _, Nat.zero_le _, fun v hv => (by cases hv), hx⟩)
  have hl := rput1_len rs.L x
  have hl0 := h.l
  refine ⟨?_, ?_, ?_, fun o ho => ?_, fun c hc => ?_, fun o ho => ?_⟩
  · show (rput rs.L x b).length ≤ i + 1
    unfold rput; split
    · rw [List.length_set]; omega
    · omega
  · have := h.chs; simp [St.put, St.set]; omega
  · have := h.old; simp; omega
  · rcases List.mem_append.1 ho with ho | ho
    · have := h.olds o ho; omega
    · rw [List.mem_singleton] at ho; subst ho; omega
  · have hc : c ∈ rput rs.L x b := hc
    unfold rput at hc
    split at hc
    · rename_i d hd
      have hk := h1 d (List.mem_of_getElem? hd)
      rcases mem_set_cases hc with rfl | hc
      · refine ⟨by have := hk.all; simp; omega, hb, fun v hv => ?_, hk.name⟩
        rcases List.mem_append.1 hv with hv | hv
        · exact hk.alls v hv
        · rw [List.mem_singleton] at hv; subst hv; exact hb
      · exact (h1 c hc).up (Nat.le_succ i)
    · exact (h1 c hc).up (Nat.le_succ i)
  · rcases List.mem_append.1 ho with ho | ho
    · exact h.ocells o ho
    · rw [List.mem_singleton] at ho; subst ho; exact fun c hc => (h.cells c hc).b

/-- No more names are rolled back than the reference has. -/
theorem roll_few {st : St} {rs : RSt} (h : Sim st rs) (p : Nat) : (sortedNames (wasS (st.chs.drop p))).length ≤ rs.L.length := by
  have e : (sortedNames (wasS (st.chs.drop p))).length = ((wasS (st.chs.drop p)).map (·.1)).length := by simp [sortedNames, keyList]
  rw [e, ← List.length_map (f := RC.name)]
  refine List.Nodup.length_le_of_subset (KvNd.wasS _) fun x hx => ?_
  rw [kvGet_in, wasS_get] at hx
  obtain ⟨d, hd⟩ := Option.isSome_iff_exists.1 hx
  have hn := h.names d (List.mem_of_mem_drop (List.mem_of_find?_eq_some hd))
  rw [name_eq.1 (List.find?_some (p := fun d : Ch => d.name.toList == x.toList) hd)] at hn
  obtain ⟨c, hc⟩ := Option.isSome_iff_exists.1 hn
  exact List.mem_map.2 ⟨c, List.mem_of_find?_eq_some hc, cellOf_name hc⟩

theorem Bnd.roll {st : St} {rs : RSt} {i : Nat} (hM : Sim st rs) (h : Bnd st rs i) (hi : i ≤ 100) (n : Int) : Bnd (roll st n) { rs with L := rroll rs n } (i + 1) := by
  have hl : (rroll rs n).length = rs.L.length := by unfold rroll; split <;> (try split) <;> simp
  refine h.of rfl hl (fun c hc => ?_) ?_
  · have hc : c ∈ rroll rs n := hc
    have hup : ∀ d ∈ rs.L, Cok (i + 1) d := fun d hd => (h.cells d hd).up (Nat.le_succ i)
    unfold rroll at hc
    split at hc
    · split at hc
      · rename_i o ho
        obtain ⟨d, hd, rfl⟩ := List.mem_map.1 hc
        have hk := hup d hd
        have hoc := h.ocells o (List.mem_of_getElem? ho)
        have hg : ∀ (l : List RC) (a : RC), (∀ e ∈ l, e.b.length ≤ 300) → Cok (i + 1) a → Cok (i + 1) (l.foldl (rollStep d.name) a) := by
          intro l
          induction l with
          | nil => intro a _ ha; exact ha
          | cons e l ih =>
            intro a hl ha
            refine ih _ (fun f hf => hl f (List.mem_cons_of_mem _ hf)) ?_
            unfold rollStep
            split
            · exact ⟨ha.all, hl e List.mem_cons_self, ha.alls, ha.name⟩
            · exact ha
        exact hg o _ hoc ⟨hk.all, Nat.zero_le _, hk.alls, hk.name⟩
      · exact hup c hc
    · exact hup c hc
  · unfold Go.Proofs.Ytajmaebofhkjjaa.roll
    split
    · split
      · rename_i p _
        rw [(rolledSt hM.nd p).len]
        have := roll_few hM p
        have := h.l
        omega
      · omega
    · omega
end Go.Proofs.Ytajmaebofhkjjaa
