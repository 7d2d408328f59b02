import Derived.Test.YtajmaebofhkjjaaShown
import Derived.Test.YtajmaebofhkjjaaDraw
namespace Go.Proofs.Ytajmaebofhkjjaa
open Go.RowKit Go.Proofs.Dm Go.MapKept
attribute [local go_sem ↓] Go.wp_at_zero Go.wp_at_succ

theorem info_cell : (Try.prog.info? 59).map (fun i => (i.zero, i.size, i.bytes)) = some (some (.agg #[.string ⟨#[]⟩, .bool false, .slice none 0 0, .slice none 0 0]), 4, 72) := by kernel_rfl

theorem CRel.set {w : World} {F : Nat → Prop} {xs : List Value} {cs : List RC} (h : CRel w F xs cs) (k : Nat) (hk : k < cs.length) (c : RC) (b a : Value) (hb : IsB w F tB b c.b) (ha : IsBB w F a c.all) :
    CRel w F ((((xs.set (k * 4) (.string c.name)).set (k * 4 + 1) (.bool c.shows)).set (k * 4 + 2) b).set (k * 4 + 3) a) (cs.set k c) := by
  induction cs generalizing xs k with
  | nil => simp at hk
  | cons d cs ih =>
    match xs, h with
    | n :: s :: b' :: a' :: r, h =>
      cases k with
      | zero => exact ⟨rfl, rfl, hb, ha, h.2.2.2.2⟩
      | succ k =>
        have e3 : (k + 1) * 4 + 3 = k * 4 + 3 + 1 + 1 + 1 + 1 := by omega
        have e2 : (k + 1) * 4 + 2 = k * 4 + 2 + 1 + 1 + 1 + 1 := by omega
        have e1 : (k + 1) * 4 + 1 = k * 4 + 1 + 1 + 1 + 1 + 1 := by omega
        have e0 : (k + 1) * 4 = k * 4 + 1 + 1 + 1 + 1 := by omega
        rw [e3, e2, e1, e0]
        simp only [List.set_cons_succ]
        exact ⟨h.1, h.2.1, h.2.2.1, h.2.2.2.1, ih h.2.2.2.2 k (by simpa using hk)⟩

def set4 (w : World) (g i : Nat) (a b c d : Value) : World := (((w.setCell ⟨g, i, none⟩ a).setCell ⟨g, i + 1, none⟩ b).setCell ⟨g, i + 2, none⟩ c).setCell ⟨g, i + 3, none⟩ d

theorem set4_blk {w : World} {g : Nat} {arr : Array Value} {t : TypeId} {f : Nat × Nat} (h : w.heap[g]? = some (.cells arr t f)) (i : Nat) (a b c d : Value) :
    (set4 w g i a b c d).heap[g]? = some (.cells ((((arr.setIfInBounds i a).setIfInBounds (i + 1) b).setIfInBounds (i + 2) c).setIfInBounds (i + 3) d) t f) :=
  blk_setCell (blk_setCell (blk_setCell (blk_setCell h _ _) _ _) _ _) _ _
theorem set4_other {w : World} {g k : Nat} (i : Nat) (a b c d : Value) (hk : k ≠ g) : (set4 w g i a b c d).heap[k]? = w.heap[k]? := by
  unfold set4
  rw [Below.heap_setCell _ _ _ _ hk, Below.heap_setCell _ _ _ _ hk, Below.heap_setCell _ _ _ _ hk, Below.heap_setCell _ _ _ _ hk]

theorem set4d {w : World} {g b : Nat} {o : Obj} (h : w.heap[b]? = some o) (hb : b ≠ g) (i j k l : Nat) (v1 v2 v3 v4 : Value) :
    ((((w.setCell ⟨g, i, none⟩ v1).setCell ⟨g, j, none⟩ v2).setCell ⟨g, k, none⟩ v3).setCell ⟨g, l, none⟩ v4).drew.heap[b]? = some o :=
  drew_keep (setCell_keep (setCell_keep (setCell_keep (setCell_keep h _ _ hb) _ _ hb) _ _ hb) _ _ hb)

theorem rset_done {w w2 : World} {F : Nat → Prop} {R : Nat} {la : Option Addr} {lc : Nat} {oa : Option Addr} {oc : Nat} {ovs : List Value} {st : RSt} (h : RParts w F R la lc oa oc ovs st) {cs : List Value} (hrel : CRel w F cs st.L)
    {k : Nat} (hk : k < st.L.length) (c : RC) {b a : Value} (hb : IsB w F tB b c.b) (ha : IsBB w F a c.all) {g cap : Nat} {cur : Array Value}
    (hU : Upd (fun b => b = R) w w2) (hR : w2.heap[R]? = some (.cells #[.slice (some ⟨g, 0, none⟩) st.L.length cap, .slice oa st.old.length oc] 29 (0, 0)))
    (hg : w.heap.size ≤ g) (hgb : w2.heap[g]? = some (.cells cur 59 (0, 0))) (hn : st.L.length ≤ cap) (hcs : cur.size = cap * 4) (ht : cur.toList.take (st.L.length * 4) = cs) :
    let w3 := set4 w2 g (k * 4) (.string c.name) (.bool c.shows) b a
    IsRef w3 (Plus F w w3) R { st with L := st.L.set k c } ∧ Upd (fun b => b = R) w w3 := by
  intro w3
  have hlt : R < w.heap.size := lt_of_blk h.blk
  have hgR : R ≠ g := by omega
  have hsz : w3.heap.size = w2.heap.size := by simp [w3, set4, World.setCell]
  have hU3 : Upd (fun b => b = R) w w3 := by
    exact (((hU.setCell (fun h => by simp at h; omega) _).setCell (fun h => by simp at h; omega) _).setCell (fun h => by simp at h; omega) _).setCell (fun h => by simp at h; omega) _
  have hk3 : ∀ x, x < w.heap.size → F x → (∃ arr t f, (tB t ∨ tBB t ∨ tC t ∨ t = 26) ∧ w.heap[x]? = some (.cells arr t f)) → w3.heap[x]? = w.heap[x]? := by
    rintro x hx _ ⟨arr, t, f, ht, hbk⟩
    refine hU3.block x hx ?_
    rintro rfl
    rw [h.blk] at hbk; cases hbk; revert ht; unfold tB tBB tC; decide
  have hF : ∀ x, x < w.heap.size → F x → Plus F w w3 x := fun x _ hf => .inl hf
  refine ⟨⟨some ⟨g, 0, none⟩, cap, oa, oc, ovs, .inl h.fR, ?_, ?_, ?_, fun x hx => .inl (h.fo x hx), ?_⟩, hU3⟩
  · have := set4_other (w := w2) (g := g) (k * 4) (.string c.name) (.bool c.shows) b a hgR
    rw [show (st.L.set k c).length = st.L.length by simp]
    exact this.trans hR
  · have hrel' : CRel w3 (Plus F w w3) ((((cs.set (k * 4) (.string c.name)).set (k * 4 + 1) (.bool c.shows)).set (k * 4 + 2) b).set (k * 4 + 3) a) (st.L.set k c) :=
      (hrel.set k hk c b a hb ha).kept hF (fun x hx hf ⟨arr, t, f, ht, hbk⟩ => hk3 x hx hf ⟨arr, t, f, ht.elim .inl (fun h => .inr (.inl h)), hbk⟩)
    refine ⟨_, ?_, hrel'⟩
    have hl := hrel.length
    rw [show (st.L.set k c).length = st.L.length by simp]
    refine ⟨_, cap, rfl, (fun h => by cases h), hn, fun _ => ⟨g, 0, _, _, _, rfl, .inr ⟨hg, by rw [hsz]; exact lt_of_blk hgb⟩, rfl, set4_blk hgb _ _ _ _ _, fun i u hu => ?_⟩⟩
    have hlt : i < cs.length := by
      have := (List.getElem?_eq_some_iff.1 hu).1
      simpa using this
    have hcur : ∀ i, i < cs.length → cur[i]? = cs[i]? := by
      intro i hi
      rw [← ht, List.getElem?_take, if_pos (by omega)]; simp
    simp only [Nat.zero_add]
    simp only [List.getElem?_set, List.length_set] at hu
    simp only [Array.getElem?_setIfInBounds, Array.size_setIfInBounds]
    have hsz' : i < cur.size := by rw [hcs]; omega
    have hb4 : k * 4 + 3 < cs.length := by omega
    have hb5 : k * 4 + 3 < cur.size := by omega
    by_cases g3 : k * 4 + 3 = i
    · rw [if_pos g3] at hu ⊢; rw [if_pos (by omega)] at hu ⊢; exact hu
    · rw [if_neg g3] at hu ⊢
      by_cases g2 : k * 4 + 2 = i
      · rw [if_pos g2] at hu ⊢; rw [if_pos (by omega)] at hu ⊢; exact hu
      · rw [if_neg g2] at hu ⊢
        by_cases g1 : k * 4 + 1 = i
        · rw [if_pos g1] at hu ⊢; rw [if_pos (by omega)] at hu ⊢; exact hu
        · rw [if_neg g1] at hu ⊢
          by_cases g0 : k * 4 = i
          · rw [if_pos g0] at hu ⊢; rw [if_pos (by omega)] at hu ⊢; exact hu
          · rw [if_neg g0] at hu ⊢; rw [hcur i hlt]; exact hu
  · obtain ⟨l1, l2⟩ := h.own
    refine ⟨l1, l2.imp id ?_⟩
    rintro ⟨g', cap', cur', e1, h3, h4, h5⟩
    cases e1
    exact ⟨g', _, cur', rfl, h3, (hk3 g' (lt_of_blk h4) (h.fo g' rfl) ⟨_, _, _, .inr (.inr (.inr rfl)), h4⟩).trans h4, h5⟩
  · exact h.rel.mono (fun _ _ hab => hab.kept hF (fun x hx hf ⟨arr, t, f, ht, hbk⟩ => hk3 x hx hf ⟨arr, t, f, ht.elim .inl (fun h => .inr (h.elim .inl (fun h => .inr (.inl h)))), hbk⟩))

set_option maxRecDepth 100000 in
set_option maxHeartbeats 2000000 in
theorem rset_any (w : World) (F : Nat → Prop) (R : Nat) (st : RSt) (hS : IsRef w F R st) (k : Nat) (hk : k < st.L.length) (c : RC) (ba : Option Addr) (bn bc : Nat) (hb : IsB w F tB (.slice ba bn bc) c.b) (aa : Option Addr) (an ac : Nat) (ha : IsBB w F (.slice aa an ac) c.all) (hn : st.L.length ≤ 1048576 * 1048576) :
    Calls Try.prog 28 #[.pointer (some ⟨R, 0, none⟩), .int .i64 k, .agg #[.string c.name, .bool c.shows, .slice ba bn bc, .slice aa an ac]] w fun e w' => e = .returned (.tuple #[]) ∧
      IsRef w' (Plus F w w') R { st with L := st.L.set k c } ∧ Upd (fun b => b = R) w w' := by
  obtain ⟨i0, hi, hz0, hz1, hz2⟩ := info_parts info_cell
  obtain ⟨la, lc, oa, oc, ovs, P0⟩ := hS
  obtain ⟨cs, hrow, hrel⟩ := P0.row
  have hl4 := hrel.length
  have h1 := hrel.one
  have hc0 := cell_blk P0.blk 0 _ rfl
  have hf0 := free_blk P0.blk 0
  have hc0' : ∀ o, (w.alloc o).cell? ⟨R, 0, none⟩ = some (.slice la st.L.length lc) := fun o => cell_blk (alloc_keep P0.blk o) 0 _ rfl
  have hf0' : ∀ o, (w.alloc o).frozen? ⟨R, 0, none⟩ = false := fun o => free_blk (alloc_keep P0.blk o) 0
  have hrow' : ∀ o, IsRow (w.alloc o) F tC (.slice la st.L.length lc) st.L.length cs := fun o => hrow.kept (fun _ _ h => h) (fun g hg _ _ => Below.heap_alloc _ _ _ hg)
  have HP := Lib.hid P0
  have HROW := Lib.hid hrow'
  have HL4 := Lib.hid hl4
  have HREL := Lib.hid hrel
  have H1 := Lib.hid h1
  clear P0 hrow hrow' hrel hl4 h1
  go_enter Try.func28, Try.ntmps28
  go_wp2_with (first
    | (at_builtin; refine wpList_appendN rfl _ _ 26 rfl 59 i0 _ 4 72 Try.underlying26 hi hz0 hz1 hz2 rfl (by decide) none 0 0 [] rfl (World.ownsRow_nil _ _ _ _) la st.L.length lc cs rfl F tC (HROW.out _) HL4.out H1.out (by omega) (by omega) ?_; intro a' c' w1 hown hgrow hat hnil
       have hB1 := grown_keep hgrow (alloc_keep HP.out.blk _) (by simp)
       have hc10 := cell_blk hB1 0 _ rfl
       have hf10 := free_blk hB1 0
       have HB1 := Lib.hid hB1
       clear hB1))
  simp only [Nat.zero_add, List.nil_append] at hown
  have hg0 := hgrow.size
  obtain ⟨g, cap, cur, he, hgb, hgn, hgc, hgt, hgs⟩ : ∃ g cap cur, Value.slice a' st.L.length c' = .slice (some ⟨g, 0, none⟩) st.L.length cap ∧ w1.heap[g]? = some (.cells cur 59 (0, 0)) ∧ st.L.length ≤ cap ∧ cur.size = cap * 4 ∧ cur.toList.take (st.L.length * 4) = cs ∧ w.heap.size < g := by
    rcases hown.2 with ⟨_, h0⟩ | ⟨g, cap, cur, hv, _, hb, h2, _, h3, h4⟩
    · omega
    · cases hv
      refine ⟨g, _, cur, rfl, hb, h2, h3, h4, ?_⟩
      have := (hat g rfl).1
      simp at this; omega
  obtain ⟨rfl, hcc⟩ : a' = some ⟨g, 0, none⟩ ∧ cap = c' := by cases he; exact ⟨rfl, rfl⟩
  subst hcc
  have hRg : R ≠ g := by have := lt_of_blk HP.out.blk; omega
  have hbox : w1.heap[w.heap.size]? = some (.cells #[.string c.name, .bool c.shows, .slice ba bn bc, .slice aa an ac] 59 (0, 0)) := grown_keep hgrow (heap_alloc_new w _) (by simp)
  obtain ⟨w2, hw2⟩ : ∃ w2, w2 = w1.setCell ⟨R, 0, none⟩ (.slice (some ⟨g, 0, none⟩) st.L.length cap) := ⟨_, rfl⟩
  rw [← hw2]
  have hU2 : Upd (fun b => b = R) w w2 := by
    rw [hw2]
    exact Upd.setCell (S := fun b => b = R) (((Upd.refl _ w).alloc _).grown hgrow (fun _ _ h => by simp at h)) (p := ⟨R, 0, none⟩) (fun _ => rfl) _
  have hR2 : w2.heap[R]? = some (.cells #[.slice (some ⟨g, 0, none⟩) st.L.length cap, .slice oa st.old.length oc] 29 (0, 0)) := by rw [hw2, blk_setCell HB1.out 0 _]; rfl
  have hg2 : w2.heap[g]? = some (.cells cur 59 (0, 0)) := by rw [hw2]; exact setCell_keep hgb _ _ (Ne.symm hRg)
  have hb2 : w2.heap[w.heap.size]? = some (.cells #[.string c.name, .bool c.shows, .slice ba bn bc, .slice aa an ac] 59 (0, 0)) := by rw [hw2]; exact setCell_keep hbox _ _ (by have := lt_of_blk HP.out.blk; simp; omega)
  have d0 := cell_blk hR2 0 _ rfl
  have b0 := cell_blk hb2 0 _ rfl
  have b1 := cell_blk hb2 1 _ rfl
  have b2 := cell_blk hb2 2 _ rfl
  have b3 := cell_blk hb2 3 _ rfl
  have hcur : ∀ i, i < cs.length → ∃ v, cur[i]? = some v := fun i hi => by
    have : i < cur.size := by rw [hgc]; have := HL4.out; omega
    exact ⟨cur[i], by simp [this]⟩
  have hl4 := HL4.out
  obtain ⟨v0, q0⟩ := hcur (k * 4) (by omega)
  obtain ⟨v1, q1⟩ := hcur (k * 4 + 1) (by omega)
  obtain ⟨v2, q2⟩ := hcur (k * 4 + 2) (by omega)
  obtain ⟨v3, q3⟩ := hcur (k * 4 + 3) (by omega)
  have r0 := cell_blk hg2 _ _ q0
  have r1 := cell_blk hg2 _ _ q1
  have r2 := cell_blk hg2 _ _ q2
  have r3 := cell_blk hg2 _ _ q3
  have z0 := free_blk hg2 (k * 4)
  have z1 := free_blk hg2 (k * 4 + 1)
  have z2 := free_blk hg2 (k * 4 + 2)
  have z3 := free_blk hg2 (k * 4 + 3)
  have HW := Lib.hid (rset_done HP.out HREL.out hk c hb ha hU2 hR2 (by omega) hg2 hgn hgc hgt)
  have hbg : w.heap.size ≠ g := by omega
  have HRG := Lib.hid hRg
  have HBG := Lib.hid hbg
  have HR2 := Lib.hid hR2
  have HB2 := Lib.hid hb2
  have hk0 : (0 : Int) ≤ (k : Int) := by omega
  have hk1 : (k : Int) < (st.L.length : Int) := by omega
  clear hown hgrow hat hnil hc10 hf10 hg0 hgb hgn hgc hgt hw2 hbox hU2 hR2 hg2 hb2 hcur hl4 q0 q1 q2 q3 hc0 hf0 hgs hRg hbg HB1 hb ha
  go_region_held3 (fun w' => w'.cell? ⟨R, 0, none⟩ = some (.slice (some ⟨g, 0, none⟩) st.L.length cap) ∧ w'.cell? ⟨w.heap.size, 0, none⟩ = some (.string c.name) ∧ w'.cell? ⟨w.heap.size, 1, none⟩ = some (.bool c.shows) ∧ w'.cell? ⟨w.heap.size, 2, none⟩ = some (.slice ba bn bc) ∧ w'.cell? ⟨w.heap.size, 3, none⟩ = some (.slice aa an ac))
    (first
      | exact ⟨d0, b0, b1, b2, b3⟩
      | exact ⟨cell_blk (set4d HR2.out HRG.out _ _ _ _ _ _ _ _) 0 _ rfl, cell_blk (set4d HB2.out HBG.out _ _ _ _ _ _ _ _) 0 _ rfl, cell_blk (set4d HB2.out HBG.out _ _ _ _ _ _ _ _) 1 _ rfl, cell_blk (set4d HB2.out HBG.out _ _ _ _ _ _ _ _) 2 _ rfl, cell_blk (set4d HB2.out HBG.out _ _ _ _ _ _ _ _) 3 _ rfl⟩
      | go_keep)
    (fail)
  go_wp2_with fail
  go_end0
  exact ⟨rfl, HW.out.1.kept (fun _ _ h => h) (fun _ _ _ => rfl), HW.out.2.drew⟩
end Go.Proofs.Ytajmaebofhkjjaa
