import Derived.Test.YtajmaebofhkjjaaNames
import Derived.RangeFuncBox
import Derived.Maps.OwnIn
import Derived.Maps.AppendAt
namespace Go.Proofs.Ytajmaebofhkjjaa
open Go.RowKit Go.Proofs.Dm Go.MapKept Go.Shelf
attribute [local go_sem] Oper.semAt_some

theorem KpS.obj' {Bt : Nat} (W : World) (l : Nat) (o o' : Obj) (h : W.heap[l]? = some o) (h1 : o.isCells = false) (hne : Bt ≠ l) : KpS Bt W (W.putObj l o') := by
  have hcell : (W.putObj l o').cell? ⟨Bt, 0, none⟩ = W.cell? ⟨Bt, 0, none⟩ := by
    unfold World.cell?
    simp only [World.putObj_heap_other hne]
  refine ⟨by simp, fun b cur t f hb _ _ => ?_, fun g hg => .inl ?_⟩
  · rw [World.putObj_heap_other (by rintro rfl; rw [h] at hb; cases hb; cases h1)]; exact hb
  · obtain ⟨a, n, c, hc, ha⟩ := hg
    exact ⟨a, n, c, by rw [← hcell]; exact hc, ha⟩

theorem ownBlock_slice (a : Option Addr) (n c : Nat) : (Value.slice a n c).ownBlock = a.map (·.block) := by cases a <;> rfl

theorem kps_append {W w1 : World} {Bt t : Nat} {a a' : Option Addr} {n c n' c' : Nat} {tmp : Obj} (hv : Boxed W Bt t (.slice a n c)) (hv1 : Boxed (w1.setCell ⟨Bt, 0, none⟩ (.slice a' n' c')) Bt t (.slice a' n' c')) (hgrow : (W.alloc tmp).grownBy w1 (Value.slice a n c).ownBlock)
    (hat : (Value.slice a' n' c').ownBlock = (Value.slice a n c).ownBlock ∨ (Value.slice a' n' c').ownBlock = some (W.alloc tmp).heap.size) : KpS Bt W (w1.setCell ⟨Bt, 0, none⟩ (.slice a' n' c')) := by
  rw [ownBlock_slice] at hgrow hat
  rw [ownBlock_slice] at hat
  refine ⟨Nat.le_trans (by simp) (Nat.le_trans hgrow.size (by simp [World.setCell])), fun b cur ty f hb h1 h2 => ?_, fun g hg => ?_⟩
  · refine setCell_keep (grown_keep hgrow (alloc_keep hb _) (fun e => h2 ⟨a, n, c, hv.cell, e.symm⟩)) _ _ h1
  · obtain ⟨a2, n2, c2, hc, ha⟩ := hg
    rw [hv1.cell] at hc
    cases hc
    rcases hat with e | e
    · exact .inl ⟨a, n, c, hv.cell, by rw [← e]; exact ha⟩
    · rw [ha] at e
      right
      have : g = (W.alloc tmp).heap.size := Option.some.inj e
      simp at this; omega

def SeqPost (w : World) (l : List ByteArray) (e : Ending) (w' : World) : Prop :=
  ∃ a c, e = .returned (.tuple #[.slice a l.length c, .bool true]) ∧ w'.ownsRow 0 9 1 (.slice a l.length c) l.length (l.map sv) ∧ (∀ g, a.map (·.block) = some g → w.heap.size ≤ g ∧ g < w'.heap.size) ∧ Upd (fun _ => False) w w'

theorem own_slice {w : World} {base e size n : Nat} {v : Value} {xs : List Value} (h : w.ownsRow base e size v n xs) : ∃ a c, v = .slice a n c := by
  rcases h.2 with ⟨rfl, rfl⟩ | ⟨g, cap, cur, rfl, _⟩
  · exact ⟨none, 0, rfl⟩
  · exact ⟨_, _, rfl⟩

theorem own_zero {w : World} {base e size n : Nat} {v : Value} {xs : List Value} (h : w.ownsRow base e size v n xs) : w.ownsRow 0 e size v n xs :=
  ⟨h.1, h.2.imp id (fun ⟨g, cap, cur, e1, _, r⟩ => ⟨g, cap, cur, e1, Nat.zero_le _, r⟩)⟩
theorem own_fresh {w : World} {base e size n c : Nat} {a : Option Addr} {xs : List Value} (h : w.ownsRow base e size (.slice a n c) n xs) : ∀ g, a.map (·.block) = some g → base ≤ g ∧ g < w.heap.size := by
  intro g hg
  rcases h.2 with ⟨e1, _⟩ | ⟨g', cap, cur, e1, h1, h2, _⟩
  · cases e1; simp at hg
  · cases e1; simp at hg; subst hg; exact ⟨h1, lt_of_blk h2⟩

set_option maxRecDepth 100000 in
set_option maxHeartbeats 4000000 in
theorem seq_any (w : World) (Bp B m : Nat) (kvs : List (ByteArray × Value)) (most : Nat) (hmost : kvs.length ≤ most) (hkn : kvs.length < 1048576 * 1048576) (hkk : ∀ p ∈ kvs, p.1.size ≤ maxLen)
    (hBp : w.cell? ⟨Bp, 0, none⟩ = some (.pointer (some ⟨B, 0, none⟩))) (hB : w.cell? ⟨B, 0, none⟩ = some (.map (some m))) (hm : IsMap w m kvs) (hlp : Bp < w.heap.size) (hlB : B < w.heap.size) :
    Calls Try.prog 43 #[.func (.func 59) #[] #[.pointer (some ⟨Bp, 0, none⟩)], .int .i64 most] w (SeqPost w (sortedNames kvs)) := by
  obtain ⟨i0, hi, hz0, hz1, hz2⟩ := info_parts info_str
  have hro : Fence.wide.round = none := rfl
  have qf : ∀ w' : World, (binOp .eql 70 (.func (.func 59) #[] #[.pointer (some ⟨Bp, 0, none⟩)]) .nilFunc).run Try.prog w' = .ok (.bool false) w' := fun _ => by kernel_rfl
  refine (callsIn_wide (n := 9)).1 ?_
  refine callsIn_of_wp_marks Try.func43 rfl trivial ?_ hro
  simp only [Try.ntmps43, List.size_toArray, List.length_cons, List.length_nil, Nat.reduceAdd, Nat.reduceSub, Array.replicate_succ, Array.replicate_zero, List.push_toArray, List.append_toArray, List.nil_append, List.cons_append]
  gi_wp2
  refine name_all ?_
  intro T W0 hT hW0
  have b0 : Boxed W0 w.heap.size 3 (.int .i64 most) := by rw [hW0]; exact (((Boxed.new w _ _).alloc _).alloc _).alloc _
  have b1 : Boxed W0 (w.heap.size + 1) 67 (.slice none 0 0) := by rw [hW0]; simpa using (((Boxed.new (w.alloc (.cells #[.int .i64 most] 3)) 67 (.slice none 0 0)).alloc (.cells #[.bool false] 4)).alloc (.cells #[.slice none 0 0] 67))
  have b2 : Boxed W0 (w.heap.size + 1 + 1) 4 (.bool false) := by rw [hW0]; simpa using ((Boxed.new ((w.alloc (.cells #[.int .i64 most] 3)).alloc (.cells #[.slice none 0 0] 67)) 4 (.bool false)).alloc (.cells #[.slice none 0 0] 67))
  have b3 : Boxed W0 (w.heap.size + 1 + 1 + 1) 67 (.slice none 0 0) := by rw [hW0]; simpa using (Boxed.new (((w.alloc (.cells #[.int .i64 most] 3)).alloc (.cells #[.slice none 0 0] 67)).alloc (.cells #[.bool false] 4)) 67 (.slice none 0 0))
  have hU0 : Upd (fun _ => False) w W0 := by rw [hW0]; exact ((((Upd.refl _ w).alloc _).alloc _).alloc _).alloc _
  have hsz : W0.heap.size = w.heap.size + 4 := by rw [hW0]; simp
  have hB0 := hU0.below
  clear hW0
  refine wpIn_rangeFunc_ownG hro (by omega) (gf := 59) (lb := #[.pointer (some ⟨Bp, 0, none⟩)]) (by subst hT; rfl) trivial (enters_of Try.func59 (by kernel_rfl) rfl)
    (names_stops 8 (by omega) Bp (w.heap.size + 1 + 1 + 1) B m kvs (by omega) hkk W0 ((hB0.cell (p := ⟨Bp, 0, none⟩) hlp).trans hBp) ((hB0.cell (p := ⟨B, 0, none⟩) hlB).trans hB) (hm.kept (hB0.block m hm.lt)) (by omega) (by omega) (by omega) b3.cell)
    KpS.trans (fun W l o o' hl h1 h2 _ => KpS.obj' W l o o' h1 h2 (by omega)) (Below.refl _ _) (fun _ => rfl)
    (fun pre W => (((∃ v, Boxed W (w.heap.size + 1 + 1 + 1) 67 v ∧ W.ownsRow w.heap.size 9 1 v pre.length (pre.map sv) ∧ True) ∧ Boxed W w.heap.size 3 (.int .i64 most)) ∧ (Boxed W (w.heap.size + 1) 67 (.slice none 0 0) ∧ Boxed W (w.heap.size + 1 + 1) 4 (.bool false))) ∧ Below w.heap.size w W)
    (fun _ _ _ => False)
    (OwnFrom.and (OwnFrom.and (OwnFrom.and (Own.from (holdsRow_own w.heap.size (w.heap.size + 1 + 1 + 1) 67 9 1 (fun pre : List ByteArray => pre.length) (fun pre => pre.map sv) (fun _ _ => True)) _) (Own.from (boxed_own _ _ _) _)) (OwnFrom.and (Own.from (boxed_own _ _ _) _) (Own.from (boxed_own _ _ _) _))) (ownFrom_below (Nat.le_refl _) (by omega)))
    (fun _ _ _ _ _ hs _ _ => hs)
    ⟨⟨⟨⟨_, b3, World.ownsRow_nil _ _ _ _, trivial⟩, b0⟩, b1, b2⟩, hB0⟩
    (fun x => { tmps := (T.setIfInBounds 11 (.string x)).setIfInBounds 7 (.string x), defers := [] }) ?assign ?body ?done ?stop
  case assign =>
    intro l x W K hK
    subst hT
    simp only [nmEnc]
    gi_wp2
    simpa using hK
  case body =>
    rintro l pre x W ⟨⟨⟨⟨v, hv, hrow, _⟩, bm⟩, br1, br2⟩, hB1⟩ hlt
    subst hT
    obtain ⟨va, vc, rfl⟩ := own_slice hrow
    have hc := hv.cell
    have hcm := bm.cell
    have hle : ¬ ((most : Int) < (pre.length : Int) + 1) := by omega
    gi_wp2_with (gi_at_builtin; refine wpListIn_append_own_at _ rfl _ _ 67 rfl w.heap.size 9 i0 _ 1 16 Try.underlying67 hi hz0 hz1 hz2 rfl (by decide) _ _ _ rfl (hrow.alloc _) ⟨W.heap.size, 0, none⟩ 1 1 [.string x] rfl rfl (news_blk (heap_alloc_new _ _)) (by simp [Value.oneCell']) (by unfold maxLen; omega) (by omega) (by have := hB1.size; simp; omega) ?_; intro v' w1 hown' hgrow _ hat; obtain ⟨g', cap', rfl⟩ := ownsRow_succ hown'; obtain ⟨hv1, hv2, hr2, hk2, hb2⟩ := hv.appended (by decide) hrow hB1.size (by omega) hown' hgrow; have hc1 := hv1.cell; have hf1 := hv1.frozen; have bm2 := ((bm.alloc _).kept hgrow (bm.not_row (by decide) hrow)).other (B' := w.heap.size + 1 + 1 + 1) (by omega) (.slice (some ⟨g', 0, none⟩) (pre.length + 1) cap'); have br11 := ((br1.alloc _).kept hgrow (br1.not_row (by decide) hrow)).other (B' := w.heap.size + 1 + 1 + 1) (by omega) (.slice (some ⟨g', 0, none⟩) (pre.length + 1) cap'); have br22 := ((br2.alloc _).kept hgrow (br2.not_row (by decide) hrow)).other (B' := w.heap.size + 1 + 1 + 1) (by omega) (.slice (some ⟨g', 0, none⟩) (pre.length + 1) cap'); have hcm2 := bm2.cell)
    exact ⟨hk2.from _, kps_append hv hv2 hgrow hat, ⟨⟨⟨_, hv2, (by rw [List.length_append, List.map_append]; exact hr2)⟩, bm2⟩, br11, br22⟩, hB1.trans hb2⟩
  case done =>
    rintro D ys W hD rfl ⟨⟨⟨⟨v, hv, hrow, _⟩, bm⟩, br1, br2⟩, hB1⟩ hK
    subst hT
    obtain ⟨va, vc, rfl⟩ := own_slice hrow
    have hc := hv.cell
    have h1c := br1.cell
    have h1f := br1.frozen
    have h2c := br2.cell
    have h2f := br2.frozen
    gi_wp2
    have hK1 := ((KeepsOthers.setCell W ⟨w.heap.size + 1, 0, none⟩ (.slice va (sortedNames kvs).length vc)).trans (KeepsOthers.setCell _ ⟨w.heap.size + 1 + 1, 0, none⟩ (.bool true))).same D _ hK rfl
    refine ⟨by simp, .inl ⟨_, _, rfl, run_takeDeferred hK1, ?_⟩⟩
    have r1 := (((br1.set (.slice va (sortedNames kvs).length vc)).other (B' := w.heap.size + 1 + 1) (by omega) (.bool true)).kept (grownBy_putObj' _ D (.deferred none)) (fun e => by cases e; omega)).cell
    have q2 := br2.other (B' := w.heap.size + 1) (by omega) (.slice va (sortedNames kvs).length vc)
    have r2 := ((q2.set (.bool true)).kept (grownBy_putObj' _ D (.deferred none)) (fun e => by cases e; omega)).cell
    have o1 := hrow.kept (grownBy_setCell' W (w.heap.size + 1) (.slice va (sortedNames kvs).length vc)) (.inr (br1.not_row (by decide) hrow).symm)
    have o2 := o1.kept (grownBy_setCell' _ (w.heap.size + 1 + 1) (.bool true)) (.inr (q2.not_row (by decide) o1).symm)
    have o3 := ownsRow_putObj o2 (.deferred none) hK1 rfl
    refine ⟨.tuple #[.slice va (sortedNames kvs).length vc, .bool true], ?_, va, vc, rfl, own_zero o3, own_fresh o3, putObj_upd (((Upd.ofBelow hB1 _).setCell (fun h => by simp at h; omega) _).setCell (fun h => by simp at h; omega) _) (by omega) _⟩
    simp [results, Try.f43, go_sem, r1, r2]
  case stop =>
    rintro D c pre W _ _ h _
    exact h.elim
end Go.Proofs.Ytajmaebofhkjjaa
