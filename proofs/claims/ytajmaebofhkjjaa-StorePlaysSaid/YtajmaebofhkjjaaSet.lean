import Derived.Test.YtajmaebofhkjjaaSt
namespace Go.Proofs.Ytajmaebofhkjjaa
open Go.RowKit Go.Proofs.Dm Go.MapKept

theorem getD_b {w : World} {F : Nat → Prop} {k : List (ByteArray × Value)} {r : List (ByteArray × List UInt8)} (h : KRel (IsB w F tB) k r) (x : ByteArray) :
    ∃ wa wl wc, (kvGet k x).getD (.slice none 0 0) = .slice wa wl wc ∧ IsB w F tB (.slice wa wl wc) ((kvGet r x).getD []) ∧ (kvGet k x).isSome = (kvGet r x).isSome := by
  cases hx : kvGet r x with
  | none => rw [h.get_none x hx]; exact ⟨none, 0, 0, rfl, ⟨none, 0, rfl, fun _ => ⟨rfl, rfl⟩, Nat.le_refl _, fun h => absurd rfl h⟩, rfl⟩
  | some b =>
    obtain ⟨a, ha, hb⟩ := h.get_some x b hx
    obtain ⟨a', c', rfl, hb'⟩ := hb
    rw [ha]
    exact ⟨a', _, c', rfl, ⟨a', c', rfl, hb'⟩, rfl⟩

/-- Behind a change: the block of changes has one more, the store's block names it, the first table has turned. -/
theorem set_done {w w1 w2 : World} {F : Nat → Prop} {B m1 m2 : Nat} {ca : Option Addr} {cc : Nat} {pa : Option Addr} {pc : Nat} {k1 k2 : List (ByteArray × Value)} {xs : List Value} {st : St} (h : Parts w F B m1 m2 ca cc pa pc k1 k2 xs st)
    {o : Obj} (hgrow : (w.alloc o).grownBy w1 (ca.map (·.block))) {g cap : Nat} (c : Ch) (v : Value)
    (hown : w1.ownsRow 0 66 3 (.slice (some ⟨g, 0, none⟩) (st.chs.length + 1) cap) (st.chs.length + 1) (xs ++ [.string c.name, v, .bool c.is])) (hv : IsB w F tB v c.b)
    (hat : ca.map (·.block) = some g ∨ (w.alloc o).heap.size ≤ g) (hlt : g < w1.heap.size) (k1' : List (ByteArray × Value)) (sh' : List (ByteArray × List UInt8)) (hrel : KRel (IsB w F tB) k1' sh')
    (hm2 : IsMap w2 m1 k1') (hU2 : Upd (fun k => k = m1) (w1.setCell ⟨B, 2, none⟩ (.slice (some ⟨g, 0, none⟩) (st.chs.length + 1) cap)) w2) :
    IsStore w2 (Plus F w w2) B { st with chs := st.chs ++ [c], shows := sh' } ∧ Upd F w w2 ∧ KeepB w w2 := by
  have hcT : ∀ b, ca.map (·.block) = some b → ∃ arr, w.heap[b]? = some (.cells arr 66 (0, 0)) := by
    intro b e
    cases ca with
    | none => simp at e
    | some ad =>
      simp only [Option.map_some, Option.some.injEq] at e
      rcases h.own.2 with ⟨h', _⟩ | ⟨g', cap', cur, h', _, hg, _⟩
      · cases h'
      · cases h'; subst e; exact ⟨cur, hg⟩
  have hkeep : ∀ b, b < w.heap.size → b ≠ B → b ≠ m1 → ca.map (·.block) ≠ some b → w2.heap[b]? = w.heap[b]? := by
    intro b hb h1 h2 h3
    have hb' : b < w1.heap.size := Nat.lt_of_lt_of_le hb (Nat.le_trans (by simp) hgrow.size)
    rw [hU2.block b (by simpa [World.setCell] using hb') h2, Below.heap_setCell _ _ _ _ h1, hgrow.block b (by simp; omega) (Ne.symm h3), Below.heap_alloc _ _ _ hb]
  have hsz : w.heap.size ≤ w2.heap.size := Nat.le_trans (Nat.le_trans (by simp) hgrow.size) (by simpa [World.setCell] using hU2.size)
  have hlt2 : g < w2.heap.size := Nat.lt_of_lt_of_le hlt (by simpa [World.setCell] using hU2.size)
  have hmne : ∀ {m k}, IsMap w m k → m ≠ B ∧ ca.map (·.block) ≠ some m := by
    intro m k hm
    refine ⟨hm.ne_blk h.blk, fun e => ?_⟩
    obtain ⟨arr, ha⟩ := hcT m e
    exact hm.ne_blk ha rfl
  have hF : ∀ b, b < w.heap.size → F b → Plus F w w2 b := fun b _ hf => .inl hf
  have hkT' : ∀ b, b < w.heap.size → (∃ arr t f, (t = 5 ∨ t = 31 ∨ t = 3) ∧ w.heap[b]? = some (.cells arr t f)) → w2.heap[b]? = w.heap[b]? := by
    rintro b hb ⟨arr, t, f, ht, hbk⟩
    refine hkeep b hb ?_ ?_ ?_
    · rintro rfl; rw [h.blk] at hbk; cases hbk; revert ht; decide
    · rintro rfl; exact h.map1.ne_blk hbk rfl
    · intro e; obtain ⟨arr', ha⟩ := hcT b e; rw [ha] at hbk; cases hbk; revert ht; decide
  have hkT : ∀ b, b < w.heap.size → F b → (∃ arr t f, (t = 5 ∨ t = 31 ∨ t = 3) ∧ w.heap[b]? = some (.cells arr t f)) → w2.heap[b]? = w.heap[b]? := fun b hb _ h => hkT' b hb h
  have hgB : g ≠ B := by
    rintro rfl
    rcases hat with e | e
    · obtain ⟨arr', ha⟩ := hcT _ e; rw [h.blk] at ha; cases ha
    · have := lt_of_blk h.blk; simp at e; omega
  have hgm : g ≠ m1 := by
    rintro rfl
    rcases hat with e | e
    · exact (hmne h.map1).2 e
    · have := h.map1.lt; simp at e; omega
  have hB1 : w1.heap[B]? = w.heap[B]? := by
    have hb := lt_of_blk h.blk
    rw [hgrow.block B (by simp; omega) (fun e => ?_), Below.heap_alloc _ _ _ hb]
    obtain ⟨arr', ha⟩ := hcT B e.symm; rw [h.blk] at ha; cases ha
  have hBm : B ≠ m1 := fun e => (hmne h.map1).1 e.symm
  have hB2 : w2.heap[B]? = some (.cells #[.map (some m1), .map (some m2), .slice (some ⟨g, 0, none⟩) (st.chs.length + 1) cap, .slice pa st.puts.length pc] 49 (0, 0)) := by
    rw [hU2.block B (by simpa [World.setCell] using (Nat.lt_of_lt_of_le (lt_of_blk h.blk) (Nat.le_trans (by simp) hgrow.size))) hBm, blk_setCell (hB1.trans h.blk) 2 _]
    rfl
  refine ⟨⟨m1, m2, some ⟨g, 0, none⟩, cap, pa, pc, k1', k2, xs ++ [.string c.name, v, .bool c.is], ?_⟩, ⟨hU2.os.trans hgrow.os, hU2.tape.trans hgrow.tape, hU2.output.trans hgrow.output, hsz, fun b hb hf => hkeep b hb ?_ ?_ ?_⟩, fun b hb ⟨arr, t, f, ht, hbk⟩ => hkT' b hb ⟨arr, t, f, ht.elim .inl (fun h => .inr (.inl h)), hbk⟩⟩
  · refine ⟨.inl h.fB, .inl h.f1, .inl h.f2, h.ne, by simpa using hB2, hm2, h.map2.kept (hkeep m2 h.map2.lt (hmne h.map2).1 (Ne.symm h.ne) (hmne h.map2).2), ?_, ?_, ?_, ?_, ?_, ?_, ?_⟩
    · exact Rel2.mono hrel (fun a b hab => ⟨hab.1, IsRow.kept hab.2 hF (fun b hb hf ⟨arr, t, f, ht, hbk⟩ => hkT b hb hf ⟨arr, t, f, .inl ht, hbk⟩)⟩)
    · exact Rel2.mono h.rel2 (fun a b hab => ⟨hab.1, hab.2.kept hF (fun b hb hf ⟨arr, t, f, ht, hbk⟩ => hkT b hb hf ⟨arr, t, f, ht.elim .inl (fun h => .inr (.inl h)), hbk⟩)⟩)
    · have := hown
      obtain ⟨l1, l2⟩ := hown
      refine ⟨by simpa using l1, l2.elim (fun h => by obtain ⟨h, _⟩ := h; cases h) (fun h => .inr ?_)⟩
      obtain ⟨g', cap', cur, e1, h3, h4, h5⟩ := h
      cases e1
      refine ⟨g, cap, cur, by simp, h3, ?_, by simpa using h5⟩
      rw [hU2.block g (by simpa [World.setCell] using hlt) hgm, Below.heap_setCell _ _ _ _ hgB]; exact h4
    · intro b e
      simp at e; subst e
      rcases hat with e | e
      · exact .inl (h.fc _ e)
      · exact .inr ⟨by simp at e; omega, hlt2⟩
    · have h1 : ChRel w F (xs ++ [.string c.name, v, .bool c.is]) (st.chs ++ [c]) := h.rel.snoc c v hv
      exact h1.kept hF (fun b hb hf ⟨arr, t, f, ht, hbk⟩ => hkT b hb hf ⟨arr, t, f, .inl ht, hbk⟩)
    · obtain ⟨l1, l2⟩ := h.pown
      refine ⟨l1, l2.imp id ?_⟩
      rintro ⟨g', cap', cur, e1, h3, h4, h5⟩
      refine ⟨g', cap', cur, e1, h3, (hkT g' (lt_of_blk h4) (h.fp g' (by cases e1; rfl)) ⟨_, _, _, .inr (.inr rfl), h4⟩).trans h4, h5⟩
    · exact fun b e => .inl (h.fp b e)
  · rintro rfl; exact hf h.fB
  · rintro rfl; exact hf h.f1
  · intro e; exact hf (h.fc b e)

set_option maxRecDepth 100000 in
set_option maxHeartbeats 400000 in
theorem set_any (w : World) (F : Nat → Prop) (B : Nat) (st : St) (hS : IsStore w F B st) (name : ByteArray) (a : Option Addr) (n c : Nat) (b : List UInt8) (is : Bool) (hb : IsB w F tB (.slice a n c) b)
    (hn : st.chs.length < 1048576 * 1048576) :
    Calls Try.prog 26 #[.pointer (some ⟨B, 0, none⟩), .string name, .slice a n c, .bool is] w fun e w' => e = .returned (.tuple #[]) ∧
      IsStore w' (Plus F w w') B (st.set name (if is then some b else none)) ∧ Upd F w w' ∧ KeepB w w' := by
  obtain ⟨m1, m2, ca, cc, pa, pc, k1, k2, xs, P0⟩ := hS
  obtain ⟨i0, hi, hz0, hz1, hz2⟩ := info_parts info_ch
  obtain ⟨wa, wl, wc, hw1, hwb, hw2⟩ := getD_b P0.rel1 name
  generalize hq : (kvGet st.shows name).isSome = q at hw2
  have hc0 := cell_blk P0.blk 0 _ rfl
  have hc2 := cell_blk P0.blk 2 _ rfl
  have hf2 := free_blk P0.blk 2
  have hm := P0.map1
  have hch := P0.own
  have HS : Hid (Parts w F B m1 m2 ca cc pa pc k1 k2 xs st) := P0
  have HW1 := Lib.hid hw1
  have HW2 := Lib.hid hw2
  have HQ := Lib.hid hq
  have HWB := Lib.hid hwb
  have HB := Lib.hid hb
  have hcB : ca.map (·.block) ≠ some B := by
    intro e
    cases ca with
    | none => simp at e
    | some ad =>
      simp only [Option.map_some, Option.some.injEq] at e
      rcases P0.own.2 with ⟨h, _⟩ | ⟨g, cap, cur, h, _, hg, _⟩
      · cases h
      · cases h; subst e; rw [P0.blk] at hg; cases hg
  have hcm : ∀ m k, IsMap w m k → ca.map (·.block) ≠ some m := by
    intro m k hmm e
    cases ca with
    | none => simp at e
    | some ad =>
      simp only [Option.map_some, Option.some.injEq] at e
      rcases P0.own.2 with ⟨h, _⟩ | ⟨g, cap, cur, h, _, hg, _⟩
      · cases h
      · cases h; subst e; exact hmm.ne_blk hg rfl
  have hcm1 := hcm m1 k1 P0.map1
  have HCM := Lib.hid hcm
  have HCB := Lib.hid hcB
  have HCM1 := Lib.hid hcm1
  clear P0 hw1 hw2 hq hwb hb hcB hcm hcm1
  cases is with
  | true =>
    go_enter Try.func26, Try.ntmps26
    go_wp2_with (first
      | (at_lookup; refine wpList_lookup_str rfl _ _ rfl Try.underlying44 Try.underlying9 _ zero_b m1 k1 rfl hm name rfl ?_; rw [HW1.out, HW2.out])
      | (at_builtin; refine wpList_append1 rfl _ _ 46 rfl 66 i0 _ 3 48 Try.underlying46 hi hz0 hz1 hz2 rfl (by decide) ca st.chs.length cc xs rfl (hch.alloc _) w.heap.size [.string name, .slice wa wl wc, .bool q] 66 _ rfl (heap_alloc_new _ _) rfl (by simp [Value.oneCell']) (by omega) (by decide) ?_; intro g cap w1 hown1 hgrow hat hlt
         have hB1 := grown_keep hgrow (alloc_keep HS.out.blk _) (Ne.symm HCB.out)
         have hc10 := cell_blk hB1 0 _ rfl
         have hc12 := cell_blk hB1 2 _ rfl
         have hf12 := free_blk hB1 2
         have HB1 := Lib.hid hB1
         clear hB1)
      | (at_mapUpdate; refine wpList_update_str rfl _ _ _ rfl Try.underlying44 Try.underlying9 m1 k1 rfl ?hmap name _ rfl rfl ?_; rotate_left; intro w2 hm2 hU2 hz2))
    case hmap => exact hm.kept ((Below.heap_setCell _ _ _ _ (hm.ne_blk HS.out.blk)).trans ((hgrow.block m1 (by have := hm.lt; simp; omega) (Ne.symm HCM1.out)).trans (Below.heap_alloc _ _ _ hm.lt)))
    go_end0
    exact ⟨rfl, by simpa [St.set, HQ.out] using set_done HS.out hgrow ⟨name, (kvGet st.shows name).getD [], q⟩ _ hown1 HWB.out hat hlt _ _ (HS.out.rel1.set name _ b HB.out) hm2 hU2⟩
  | false =>
    go_enter Try.func26, Try.ntmps26
    go_wp2_with (first
      | (at_lookup; refine wpList_lookup_str rfl _ _ rfl Try.underlying44 Try.underlying9 _ zero_b m1 k1 rfl hm name rfl ?_; rw [HW1.out, HW2.out])
      | (at_builtin; refine wpList_append1 rfl _ _ 46 rfl 66 i0 _ 3 48 Try.underlying46 hi hz0 hz1 hz2 rfl (by decide) ca st.chs.length cc xs rfl (hch.alloc _) w.heap.size [.string name, .slice wa wl wc, .bool q] 66 _ rfl (heap_alloc_new _ _) rfl (by simp [Value.oneCell']) (by omega) (by decide) ?_; intro g cap w1 hown1 hgrow hat hlt
         have hB1 := grown_keep hgrow (alloc_keep HS.out.blk _) (Ne.symm HCB.out)
         have hc10 := cell_blk hB1 0 _ rfl
         have hc12 := cell_blk hB1 2 _ rfl
         have hf12 := free_blk hB1 2
         have HB1 := Lib.hid hB1
         clear hB1)
      | (at_delete; refine wpList_delete_str rfl _ _ rfl Try.underlying44 Try.underlying9 m1 k1 rfl ?hmap name rfl ?_; rotate_left; intro w2 hm2 hU2 hz2))
    case hmap => exact hm.kept ((Below.heap_setCell _ _ _ _ (hm.ne_blk HS.out.blk)).trans ((hgrow.block m1 (by have := hm.lt; simp; omega) (Ne.symm HCM1.out)).trans (Below.heap_alloc _ _ _ hm.lt)))
    go_end0
    exact ⟨rfl, by simpa [St.set, HQ.out] using set_done HS.out hgrow ⟨name, (kvGet st.shows name).getD [], q⟩ _ hown1 HWB.out hat hlt _ _ (HS.out.rel1.del name) hm2 hU2⟩
end Go.Proofs.Ytajmaebofhkjjaa
