import Derived.Test.YtajmaebofhkjjaaRset
import Derived.Deep.DeepCutAuto
namespace Go.Proofs.Ytajmaebofhkjjaa
open Go.RowKit Go.Proofs.Dm Go.MapKept
attribute [local go_sem ↓] Go.wp_at_zero Go.wp_at_succ

theorem info_cells : (Try.prog.info? 26).map (fun i => (i.zero, i.size, i.bytes)) = some (some (.slice none 0 0), 1, 24) := by kernel_rfl

def RMid (w : World) (F : Nat → Prop) (R : Nat) (st : RSt) (wx : World) : Prop := IsRef wx (Plus F w wx) R st ∧ Upd F w wx

theorem rput_mid0 {w w1 w2 : World} {F : Nat → Prop} {R : Nat} {la : Option Addr} {lc : Nat} {oa : Option Addr} {oc : Nat} {ovs : List Value} {st : RSt} (h : RParts w F R la lc oa oc ovs st) {cs : List Value} (hrel : CRel w F cs st.L)
    {a' : Option Addr} {c' : Nat} (hown : w1.ownsRow 0 59 4 (.slice a' (0 + st.L.length) c') (0 + st.L.length) ([] ++ cs)) (hgrow : w.drew.grownBy w1 ((none : Option Addr).map (·.block)))
    (hat : ∀ g, a'.map (·.block) = some g → ((none : Option Addr).map (·.block) = some g ∨ w.drew.heap.size ≤ g) ∧ g < w1.heap.size) {ob : Obj} {g cap : Nat}
    (hown2 : w2.ownsRow 0 26 1 (.slice (some ⟨g, 0, none⟩) (st.old.length + 1) cap) (st.old.length + 1) (ovs ++ [.slice a' st.L.length c'])) (hgrow2 : (w1.alloc ob).grownBy w2 (oa.map (·.block)))
    (hat2 : oa.map (·.block) = some g ∨ w1.heap.size + 1 ≤ g) (hlt2 : g < w2.heap.size) :
    RMid w F R { st with old := st.old ++ [st.L] } (w2.setCell ⟨R, 1, none⟩ (.slice (some ⟨g, 0, none⟩) (st.old.length + 1) cap)) := by
  simp only [Nat.zero_add, List.nil_append] at hown
  have hU1 : Upd (fun _ => False) w w1 := ((Upd.refl _ w).drew).grown hgrow (fun _ _ h => by simp at h)
  have hsz1 := hU1.size
  have hT := own_ty h.own
  have hRlt := lt_of_blk h.blk
  generalize hw3 : w2.setCell ⟨R, 1, none⟩ (.slice (some ⟨g, 0, none⟩) (st.old.length + 1) cap) = w3
  have hz3 : w3.heap.size = w2.heap.size := by rw [← hw3]; simp [World.setCell]
  have hz2 : w1.heap.size ≤ w2.heap.size := Nat.le_trans (by simp) hgrow2.size
  have hk12 : ∀ b, b < w1.heap.size → b ≠ R → oa.map (·.block) ≠ some b → w3.heap[b]? = w1.heap[b]? := by
    intro b hb h1 h2
    rw [← hw3, Below.heap_setCell _ _ _ _ h1, hgrow2.block b (by simp; omega) (Ne.symm h2)]
    exact Below.heap_alloc _ _ _ hb
  have hkeep : ∀ b, b < w.heap.size → b ≠ R → oa.map (·.block) ≠ some b → w3.heap[b]? = w.heap[b]? := fun b hb h1 h2 => (hk12 b (by omega) h1 h2).trans (hU1.block b hb (fun h => h))
  have hkT : ∀ b, b < w.heap.size → (∃ arr t f, (tB t ∨ tBB t ∨ tC t) ∧ w.heap[b]? = some (.cells arr t f)) → w3.heap[b]? = w.heap[b]? := by
    rintro b hb ⟨arr, t, f, ht, hbk⟩
    refine hkeep b hb ?_ ?_
    · rintro rfl; rw [h.blk] at hbk; cases hbk; revert ht; unfold tB tBB tC; decide
    · intro e; obtain ⟨arr', ha⟩ := hT b e; rw [ha] at hbk; cases hbk; revert ht; unfold tB tBB tC; decide
  have hF : ∀ b, b < w.heap.size → F b → Plus F w w3 b := fun b _ hf => .inl hf
  have hgR : g ≠ R := by
    rintro rfl
    rcases hat2 with e | e
    · obtain ⟨arr', ha⟩ := hT _ e; rw [h.blk] at ha; cases ha
    · omega
  have hoR : oa.map (·.block) ≠ some R := fun e => by obtain ⟨arr', ha⟩ := hT R e; rw [h.blk] at ha; cases ha
  have hR2 : w2.heap[R]? = some (.cells #[.slice la st.L.length lc, .slice oa st.old.length oc] 29 (0, 0)) := by
    rw [hgrow2.block R (by simp; omega) (Ne.symm hoR)]
    exact (Below.heap_alloc _ _ _ (by omega)).trans ((hU1.block R hRlt (fun h => h)).trans h.blk)
  have hR3 : w3.heap[R]? = some (.cells #[.slice la st.L.length lc, .slice (some ⟨g, 0, none⟩) (st.old.length + 1) cap] 29 (0, 0)) := by
    rw [← hw3, blk_setCell hR2 1 _]; rfl
  have hnew : IsCs w3 (Plus F w w3) (.slice a' st.L.length c') st.L := by
    refine ⟨cs, ?_, hrel.kept hF (fun b hb _ ⟨arr, t, f, ht, hbk⟩ => hkT b hb ⟨arr, t, f, ht.elim .inl (fun h => .inr (.inl h)), hbk⟩)⟩
    have hr := ownsRow_row hown (fun b => w.heap.size ≤ b ∧ b < w1.heap.size) (fun b hb => ⟨(hat b hb).1.elim (fun h => by simp at h) (fun h => by simpa using h), (hat b hb).2⟩) tC rfl
    refine IsRow.kept hr (fun b hb h => .inr ⟨h.1, by omega⟩) (fun b hb h ⟨arr, t, f, ht, hbk⟩ => hk12 b hb (by omega) (fun e => ?_))
    obtain ⟨arr', ha⟩ := hT b e
    have := lt_of_blk ha
    omega
  refine ⟨⟨la, lc, some ⟨g, 0, none⟩, cap, ovs ++ [.slice a' st.L.length c'], .inl h.fR, by simpa using hR3, h.row.kept hF (fun b hb _ ht => hkT b hb ht), ?_, ?_, ?_⟩, ⟨?_, ?_, ?_, by omega, fun b hb hf => hkeep b hb (by rintro rfl; exact hf h.fR) (fun e => hf (h.fo b e))⟩⟩
  · obtain ⟨l1, l2⟩ := hown2
    refine ⟨by simpa using l1, l2.elim (fun h => by obtain ⟨h, _⟩ := h; cases h) (fun h => .inr ?_)⟩
    obtain ⟨g', cap', cur, e1, h3, h4, h5⟩ := h
    cases e1
    refine ⟨g, cap, cur, by simp, h3, ?_, by simpa using h5⟩
    rw [← hw3, Below.heap_setCell _ _ _ _ hgR]; exact h4
  · intro b e
    simp at e; subst e
    rcases hat2 with e | e
    · exact .inl (h.fo _ e)
    · exact .inr ⟨by omega, by omega⟩
  · exact Rel2.append (h.rel.mono (fun _ _ hab => hab.kept hF (fun b hb _ ht => hkT b hb ht))) ⟨hnew, trivial⟩
  · rw [← hw3]; exact hgrow2.os.trans hU1.os
  · rw [← hw3]; exact hgrow2.tape.trans hU1.tape
  · rw [← hw3]; exact hgrow2.output.trans hU1.output

theorem IsRow.take {w : World} {F : Nat → Prop} {T : TypeId → Prop} {a : Option Addr} {n c : Nat} {cs : List Value} (h : IsRow w F T (.slice a n c) n cs) (k : Nat) (hk : k ≤ n) (m : Nat) : IsRow w F T (.slice a k c) k (cs.take m) := by
  obtain ⟨_, _, he, h1, h2, h3⟩ := h
  cases he
  refine ⟨_, _, rfl, fun h => ⟨(h1 h).1, by have := (h1 h).2; omega⟩, by omega, fun hne => ?_⟩
  obtain ⟨g, o, arr, t, f, e1, e2, e5, e3, e4⟩ := h3 (by rintro rfl; simp at hne)
  refine ⟨g, o, arr, t, f, e1, e2, e5, e3, fun i u hu => e4 i u ?_⟩
  rw [List.getElem?_take] at hu
  split at hu
  · exact hu
  · cases hu
theorem IsRow.drop {w : World} {F : Nat → Prop} {T : TypeId → Prop} {a : Option Addr} {n c : Nat} {cs : List Value} (h : IsRow w F T (.slice a n c) n cs) (s : Nat) (hs : cs.length = n * s) (k : Nat) (hk : k ≤ n) :
    IsRow w F T (.slice (if c = k then a else a.map (·.add (k * s))) (n - k) (c - k)) (n - k) (cs.drop (k * s)) := by
  obtain ⟨_, _, he, h1, h2, h3⟩ := h
  cases he
  refine ⟨_, _, rfl, fun h => ?_, by omega, fun hne => ?_⟩
  · have ha : a = none := by
      split at h
      · exact h
      · simpa using h
    have := h1 ha
    omega
  · have hlt : k < n := by
      rcases Nat.lt_or_ge k n with h | h
      · exact h
      · obtain rfl : k = n := by omega
        exact absurd (List.drop_eq_nil_of_le (by omega)) hne
    obtain ⟨g, o, arr, t, f, rfl, e2, e5, e3, e4⟩ := h3 (by rintro rfl; simp at hne)
    refine ⟨g, o + k * s, arr, t, f, ?_, e2, e5, e3, fun i u hu => ?_⟩
    · rw [if_neg (by omega)]
      simp only [Option.map_some, Addr.add]
      split
      · rename_i h0; rw [h0]; rfl
      · rfl
    · rw [List.getElem?_drop] at hu
      rw [Nat.add_assoc]; exact e4 _ u hu

def rins (L : List RC) (K : Nat) (name : ByteArray) : List RC := L.take K ++ ⟨name, false, [], []⟩ :: L.drop K

theorem rput_a2 {w1 wx w2 : World} {a' : Option Addr} (hat : ∀ g, a'.map (·.block) = some g → ((none : Option Addr).map (·.block) = some g ∨ wx.heap.size ≤ g) ∧ g < w2.heap.size) (hs : w1.heap.size ≤ wx.heap.size) : ∀ g, a'.map (·.block) = some g → w1.heap.size ≤ g := by
  intro g e
  have h := (hat g e).1
  simp at h; omega
theorem rput_u3 {w1 w2 w3 : World} {a' : Option Addr} (hU2 : Upd (fun _ => False) w1 w2) (hat : ∀ g, a'.map (·.block) = some g → w1.heap.size ≤ g) (hgrow2 : w2.grownBy w3 (a'.map (·.block))) : Upd (fun _ => False) w1 w3 :=
  hU2.grown hgrow2 (fun k hk e => by have := hat k e; omega)
theorem rput_r4 {g R n : Nat} (h : n ≤ g) (hR : R < n) : some R ≠ (some ⟨g, 0, none⟩ : Option Addr).map (·.block) := by simp; omega
theorem rput_g3 {w1 w2 : World} {a' : Option Addr} {g n : Nat} (hU2 : Upd (fun _ => False) w1 w2) (hat : ∀ g, a'.map (·.block) = some g → w1.heap.size ≤ g) (hat2 : a'.map (·.block) = some g ∨ n ≤ g) (hn : w2.heap.size ≤ n := by simp) : w1.heap.size ≤ g := by
  rcases hat2 with e | e
  · exact hat g e
  · have := hU2.size; omega

theorem CRel.take {w : World} {F : Nat → Prop} {xs : List Value} {cs : List RC} (h : CRel w F xs cs) (k : Nat) : CRel w F (xs.take (k * 4)) (cs.take k) := by
  induction cs generalizing xs k with
  | nil => cases xs with
    | nil => simp [CRel]
    | cons _ _ => simp [CRel] at h
  | cons c cs ih =>
    match xs, h with
    | n :: s :: b :: a :: r, h =>
      cases k with
      | zero => simp [CRel]
      | succ k =>
        have e : (k + 1) * 4 = k * 4 + 1 + 1 + 1 + 1 := by omega
        rw [e]
        simp only [List.take_succ_cons]
        exact ⟨h.1, h.2.1, h.2.2.1, h.2.2.2.1, ih h.2.2.2.2 k⟩
theorem CRel.drop {w : World} {F : Nat → Prop} {xs : List Value} {cs : List RC} (h : CRel w F xs cs) (k : Nat) : CRel w F (xs.drop (k * 4)) (cs.drop k) := by
  induction cs generalizing xs k with
  | nil => cases xs with
    | nil => simp [CRel]
    | cons _ _ => simp [CRel] at h
  | cons c cs ih =>
    match xs, h with
    | n :: s :: b :: a :: r, h =>
      cases k with
      | zero => exact h
      | succ k =>
        have e : (k + 1) * 4 = k * 4 + 1 + 1 + 1 + 1 := by omega
        rw [e]
        simp only [List.drop_succ_cons]
        exact ih h.2.2.2.2 k

/-- A reference's store, its list laid anew. -/
theorem relist {w w5 : World} {F : Nat → Prop} {R : Nat} {la : Option Addr} {lc : Nat} {oa : Option Addr} {oc : Nat} {ovs : List Value} {st : RSt} (h : RParts w F R la lc oa oc ovs st) (hU : Upd (fun b => b = R) w w5) {a5 : Option Addr} {n5 c5 : Nat} {L5 : List RC} {xs : List Value} (hn : L5.length = n5)
    (hR : w5.heap[R]? = some (.cells #[.slice a5 n5 c5, .slice oa st.old.length oc] 29 (0, 0)))
    (hown : w5.ownsRow 0 59 4 (.slice a5 n5 c5) n5 xs) (hat : ∀ g, a5.map (·.block) = some g → w.heap.size ≤ g) (hrel : CRel w5 (Plus F w w5) xs L5) : IsRef w5 (Plus F w w5) R { st with L := L5 } := by
  subst hn
  have hF : ∀ x, x < w.heap.size → F x → Plus F w w5 x := fun x _ hf => .inl hf
  have hk : ∀ x, x < w.heap.size → F x → (∃ arr t f, (tB t ∨ tBB t ∨ tC t ∨ t = 26) ∧ w.heap[x]? = some (.cells arr t f)) → w5.heap[x]? = w.heap[x]? := by
    rintro x hx _ ⟨arr, t, f, ht, hbk⟩
    refine hU.block x hx ?_
    rintro rfl
    rw [h.blk] at hbk; cases hbk; revert ht; unfold tB tBB tC; decide
  refine ⟨a5, c5, oa, oc, ovs, .inl h.fR, hR, ⟨xs, ownsRow_row hown _ (fun g hg => .inr ⟨hat g hg, by obtain ⟨arr, ha⟩ := own_ty hown g hg; exact lt_of_blk ha⟩) tC rfl, hrel⟩, ?_, fun x hx => .inl (h.fo x hx), ?_⟩
  · obtain ⟨l1, l2⟩ := h.own
    refine ⟨l1, l2.imp id ?_⟩
    rintro ⟨g', cap', cur', e1, h3, h4, h5⟩
    cases e1
    exact ⟨g', _, cur', rfl, h3, (hk g' (lt_of_blk h4) (h.fo g' rfl) ⟨_, _, _, .inr (.inr (.inr rfl)), h4⟩).trans h4, h5⟩
  · exact h.rel.mono (fun _ _ hab => hab.kept hF (fun x hx hf ⟨arr, t, f, ht, hbk⟩ => hk x hx hf ⟨arr, t, f, ht.elim .inl (fun h => .inr (h.elim .inl (fun h => .inr (.inl h)))), hbk⟩))

theorem rput_mid1 {w wc w1 w3 w4 : World} {F : Nat → Prop} {R : Nat} {la : Option Addr} {lc : Nat} {oa : Option Addr} {oc : Nat} {ovs : List Value} {st : RSt} (hC : RMid w F R st wc) (hU : Upd (fun _ => False) wc w1) (h : RParts w1 (Plus F w wc) R la lc oa oc ovs st)
    {cs : List Value} (hrel : CRel w1 (Plus F w wc) cs st.L) {K : Nat} (hK : K ≤ st.L.length) (name : ByteArray) (hU3 : Upd (fun _ => False) w1 w3) {g : Nat} (hg : w1.heap.size ≤ g)
    {a4 : Option Addr} {c4 : Nat} (hown : w4.ownsRow 0 59 4 (.slice a4 (K + 1 + (st.L.length - K)) c4) (K + 1 + (st.L.length - K)) (cs.take (K * 4) ++ [.string name, .bool false, .slice none 0 0, .slice none 0 0] ++ cs.drop (K * 4)))
    (hgrow : w3.grownBy w4 ((some ⟨g, 0, none⟩ : Option Addr).map (·.block))) (hat : ∀ x, a4.map (·.block) = some x → ((some ⟨g, 0, none⟩ : Option Addr).map (·.block) = some x ∨ w3.heap.size ≤ x) ∧ x < w4.heap.size)
    (hR : w4.heap[R]? = some (.cells #[.slice la st.L.length lc, .slice oa st.old.length oc] 29 (0, 0))) :
    RMid w F R ⟨rins st.L K name, st.old⟩ (w4.setCell ⟨R, 0, none⟩ (.slice a4 (K + 1 + (st.L.length - K)) c4)) := by
  have hRlt := lt_of_blk h.blk
  generalize hw5 : w4.setCell ⟨R, 0, none⟩ (.slice a4 (K + 1 + (st.L.length - K)) c4) = w5
  have hU4 : Upd (fun _ => False) w1 w4 := hU3.grown hgrow (fun k hk e => by simp at e; omega)
  have hU5 : Upd (fun b => b = R) w1 w5 := by
    rw [← hw5]
    exact Upd.setCell (S := fun b => b = R) (hU4.mono (fun _ _ h => h.elim)) (p := ⟨R, 0, none⟩) (fun _ => rfl) _
  have hR5 : w5.heap[R]? = some (.cells #[.slice a4 (K + 1 + (st.L.length - K)) c4, .slice oa st.old.length oc] 29 (0, 0)) := by
    rw [← hw5, blk_setCell hR 0 _]; rfl
  have hat5 : ∀ x, a4.map (·.block) = some x → w1.heap.size ≤ x := fun x hx => by
    rcases (hat x hx).1 with e | e
    · simp at e; omega
    · have := hU3.size; omega
  have hown5 : w5.ownsRow 0 59 4 (.slice a4 (K + 1 + (st.L.length - K)) c4) (K + 1 + (st.L.length - K)) (cs.take (K * 4) ++ [.string name, .bool false, .slice none 0 0, .slice none 0 0] ++ cs.drop (K * 4)) := by
    obtain ⟨l1, l2⟩ := hown
    refine ⟨l1, l2.imp id ?_⟩
    rintro ⟨g', cap', cur', e1, h3, h4, h5⟩
    cases e1
    have := hat5 g' rfl
    refine ⟨g', _, cur', rfl, h3, ?_, h5⟩
    rw [← hw5, Below.heap_setCell _ _ _ _ (by simp; omega)]; exact h4
  have hrel5 : CRel w5 (Plus (Plus F w wc) w1 w5) cs st.L := hrel.kept (fun _ _ h => .inl h) (fun b hb _ ⟨arr, t, f, ht, hbk⟩ => hU5.block b hb (by
    rintro rfl
    rw [h.blk] at hbk; cases hbk; revert ht; unfold tB tBB; decide))
  have hins : CRel w5 (Plus (Plus F w wc) w1 w5) (cs.take (K * 4) ++ [.string name, .bool false, .slice none 0 0, .slice none 0 0] ++ cs.drop (K * 4)) (rins st.L K name) := by
    unfold rins
    rw [List.append_assoc]
    refine (hrel5.take K).append ⟨rfl, rfl, ⟨none, 0, rfl, fun _ => ⟨rfl, rfl⟩, Nat.le_refl _, fun h => absurd rfl h⟩, ⟨[], ⟨none, 0, rfl, fun _ => ⟨rfl, rfl⟩, Nat.le_refl _, fun h => absurd rfl h⟩, trivial⟩, hrel5.drop K⟩
  have hlen : (rins st.L K name).length = K + 1 + (st.L.length - K) := by simp [rins]; omega
  have := relist h hU5 hlen hR5 hown5 hat5 hins
  have hs1 := hC.2.size
  have hs2 := hU.size
  exact ⟨this.kept (fun x hx h => h.elim (fun h => h.elim .inl (fun h => .inr ⟨h.1, by have := hU5.size; omega⟩)) (fun h => .inr ⟨by omega, h.2⟩)) (fun _ _ _ => rfl),
    (hC.2.trans (hU.mono (S' := F) (fun _ _ h => h.elim)) (fun _ _ h => h)).trans hU5 (fun x hx e => by subst e; exact h.fR.elim id (fun h => by omega))⟩

def rput1 (L : List RC) (name : ByteArray) : List RC := if ratF L name = true then L else rins L (ratK L name) name
def rput (L : List RC) (name : ByteArray) (b : List UInt8) : List RC :=
  match (rput1 L name)[ratK L name]? with | some c => (rput1 L name).set (ratK L name) { c with shows := true, b := b, all := c.all ++ [b] } | none => rput1 L name

theorem rput_mid2 {w w5 w6 wt : World} {F : Nat → Prop} {R : Nat} {st : RSt} {ob : Obj} (hC : RMid w F R st w5) (hU6 : Upd (fun _ => False) (w5.alloc ob) w6) (hU : Upd (fun x => x = w5.heap.size) w6 wt) {a2 : Option Addr} {c2 : Nat} {b : List UInt8} (hfr : FreshB (w5.alloc ob) w6 a2 c2 b)
    {vs : List Value} {all : List (List UInt8)} (hvs : Rel2 (IsB w5 (Plus F w w5) tB) vs all) {g cap : Nat} (hown : wt.ownsRow 0 31 1 (.slice (some ⟨g, 0, none⟩) (all.length + 1) cap) (all.length + 1) (vs ++ [.slice a2 b.length c2])) (hg : w5.heap.size ≤ g) :
    IsRef wt (Plus F w wt) R st ∧ IsB wt (Plus F w wt) tB (.slice a2 b.length c2) b ∧ IsBB wt (Plus F w wt) (.slice (some ⟨g, 0, none⟩) (all.length + 1) cap) (all ++ [b]) ∧ Upd F w wt := by
  have hs6 := hU6.size
  have hst := hU.size
  have hs5 := hC.2.size
  simp at hs6
  have hU5 : Upd (fun _ => False) w5 wt := (((Upd.refl _ w5).alloc ob).trans hU6 (fun _ _ h => h)).trans hU (fun i hi e => by omega)
  have hF : ∀ x, x < w5.heap.size → Plus F w w5 x → Plus F w wt x := fun x _ h => h.imp id (fun h => ⟨h.1, by omega⟩)
  have hb : IsB wt (Plus F w wt) tB (.slice a2 b.length c2) b := IsRow.kept ((hfr.isB tB rfl).reF (F' := fun x => w5.heap.size < x ∧ x < w6.heap.size) (fun x h _ => ⟨by have := h.1; simp at this; omega, h.2⟩)) (fun x hx h => .inr ⟨by have := h.1; omega, by omega⟩) (fun x hx h _ => hU.block x hx (by have := h.1; omega))
  refine ⟨hC.1.kept hF (fun x hx _ => hU5.block x hx (fun h => h)), hb, ⟨vs ++ [.slice a2 b.length c2], ?_, Rel2.append (hvs.mono (fun _ _ h => IsRow.kept h hF (fun x hx _ _ => hU5.block x hx (fun h => h)))) ⟨hb, trivial⟩⟩, hC.2.trans (hU5.mono (S' := F) (fun _ _ h => h.elim)) (fun _ _ h => h)⟩
  have hr := ownsRow_row hown (Plus F w wt) (fun x e => by obtain ⟨arr, ha⟩ := own_ty hown x e; simp at e; subst e; exact .inr ⟨by omega, lt_of_blk ha⟩) tBB rfl
  simpa using hr
end Go.Proofs.Ytajmaebofhkjjaa
