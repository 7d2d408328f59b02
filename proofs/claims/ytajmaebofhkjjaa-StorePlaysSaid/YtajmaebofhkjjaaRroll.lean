import Derived.Test.YtajmaebofhkjjaaRput2
import Derived.Test.YtajmaebofhkjjaaRdel
import Derived.BigQuiet
import Derived.Deep.QuietTactic
namespace Go.Proofs.Ytajmaebofhkjjaa
open Go.RowKit Go.Proofs.Dm Go.MapKept
attribute [local go_sem ↓] Go.wp_at_zero Go.wp_at_succ

def rollStep (n : ByteArray) (a o : RC) : RC := if (o.name.toList == n.toList) = true then { a with shows := o.shows, b := o.b } else a
def rollCell (old : List RC) (c : RC) : RC := old.foldl (rollStep c.name) { c with shows := false, b := [] }
def rcanRoll (st : RSt) (n : Int) : Bool := decide (0 ≤ n) && decide (n ≤ st.old.length)
def rroll (st : RSt) (n : Int) : List RC := if rcanRoll st n = true ∧ n ≠ 0 then (match st.old[st.old.length - n.toNat]? with | some old => st.L.map (rollCell old) | none => st.L) else st.L

theorem rollCell_succ {old : List RC} {i : Nat} {o : RC} (h : old[i]? = some o) (c : RC) : rollCell (old.take (i + 1)) c = rollStep c.name (rollCell (old.take i) c) o := by
  obtain ⟨hlt, rfl⟩ := List.getElem?_eq_some_iff.1 h
  unfold rollCell
  rw [List.take_succ_eq_append_getElem hlt, List.foldl_append]; rfl
theorem rollCell_name (old : List RC) (c : RC) : (rollCell old c).name = c.name := by
  unfold rollCell
  have : ∀ (l : List RC) (x : RC), (l.foldl (rollStep c.name) x).name = x.name := by
    intro l
    induction l with
    | nil => intro x; rfl
    | cons o l ih => intro x; rw [List.foldl_cons, ih]; unfold rollStep; split <;> rfl
  rw [this]

theorem IsCs.slice {w : World} {F : Nat → Prop} {v : Value} {L : List RC} (h : IsCs w F v L) : ∃ a c, v = .slice a L.length c := by
  obtain ⟨cs, ⟨a, c, rfl, _⟩, _⟩ := h; exact ⟨a, c, rfl⟩
theorem IsCs.cells1 {w : World} {F : Nat → Prop} {la : Option Addr} {n lc : Nat} {L : List RC} (h : IsCs w F (.slice la n lc) L) (hpos : 0 < L.length) :
    ∃ g o arr f, la = some ⟨g, o, none⟩ ∧ F g ∧ w.heap[g]? = some (.cells arr 59 f) ∧ ∀ k c, L[k]? = some c → arr[o + k * 4]? = some (.string c.name) ∧ arr[o + k * 4 + 1]? = some (.bool c.shows) ∧
      ∃ ba bc, arr[o + k * 4 + 2]? = some (.slice ba c.b.length bc) ∧ IsB w F tB (.slice ba c.b.length bc) c.b := by
  obtain ⟨cs, ⟨_, _, he, _, _, hro⟩, hrel⟩ := h
  cases he
  have hl := hrel.length
  obtain ⟨g, o, arr, t, f, e1, hg, rfl, hb, hc⟩ := hro (by rintro rfl; simp at hl; omega)
  refine ⟨g, o, arr, f, e1, hg, hb, fun k c hk => ?_⟩
  obtain ⟨hlt, rfl⟩ := List.getElem?_eq_some_iff.1 hk
  obtain ⟨h1, h2, b, a, h3, h4, h5, h6⟩ := hrel.get k hlt
  obtain ⟨ba, bc, rfl, h4'⟩ := h4
  exact ⟨hc _ _ h1, by simpa [Nat.add_assoc] using hc _ _ h2, ba, bc, by simpa [Nat.add_assoc] using hc _ _ h3, ba, bc, rfl, h4'⟩

/-- A list of cells of the call's own, in the block g. -/
def RRow (w wr : World) (F : Nat → Prop) (g cap : Nat) (X : List RC) : Prop :=
  w.heap.size ≤ g ∧ Upd (fun _ => False) w wr ∧ ∃ xs, wr.ownsRow 0 59 4 (.slice (some ⟨g, 0, none⟩) X.length cap) X.length xs ∧ CRel w F xs X

theorem CRel.set2 {w : World} {F : Nat → Prop} {xs : List Value} {cs : List RC} (h : CRel w F xs cs) (k : Nat) (c : RC) (hk : cs[k]? = some c) (s : Bool) (b : List UInt8) (v : Value) (hb : IsB w F tB v b) :
    CRel w F ((xs.set (k * 4 + 1) (.bool s)).set (k * 4 + 2) v) (cs.set k { c with shows := s, b := b }) := by
  induction cs generalizing xs k with
  | nil => simp at hk
  | cons d cs ih =>
    match xs, h with
    | n :: s' :: b' :: a' :: r, h =>
      cases k with
      | zero =>
        simp only [List.getElem?_cons_zero, Option.some.injEq] at hk
        subst hk
        exact ⟨h.1, rfl, hb, h.2.2.2.1, h.2.2.2.2⟩
      | succ k =>
        have e2 : (k + 1) * 4 + 2 = k * 4 + 2 + 1 + 1 + 1 + 1 := by omega
        have e1 : (k + 1) * 4 + 1 = k * 4 + 1 + 1 + 1 + 1 + 1 := by omega
        rw [e2, e1]
        simp only [List.set_cons_succ]
        exact ⟨h.1, h.2.1, h.2.2.1, h.2.2.2.1, ih h.2.2.2.2 k (by simpa using hk)⟩

theorem own_setIn {w : World} {e size : Nat} {g n c : Nat} {xs : List Value} (h : w.ownsRow 0 e size (.slice (some ⟨g, 0, none⟩) n c) n xs) (i : Nat) (v : Value) :
    (w.setCell ⟨g, i, none⟩ v).ownsRow 0 e size (.slice (some ⟨g, 0, none⟩) n c) n (xs.set i v) := by
  obtain ⟨l1, l2⟩ := h
  refine ⟨by simpa using l1, .inr ?_⟩
  rcases l2 with ⟨h, _⟩ | ⟨g', cap', cur, e1, h3, h4, h5, h6, h7, h8⟩
  · cases h
  · cases e1
    refine ⟨_, _, cur.setIfInBounds i v, rfl, h3, blk_setCell h4 _ _, h5, h6, by simpa using h7, ?_⟩
    rw [← h8, Array.toList_setIfInBounds, List.take_set]

theorem own_at {w : World} {e size : Nat} {g n c : Nat} {xs : List Value} (h : w.ownsRow 0 e size (.slice (some ⟨g, 0, none⟩) n c) n xs) (i : Nat) (hi : i < xs.length) : w.cell? ⟨g, i, none⟩ = some xs[i] ∧ w.frozen? ⟨g, i, none⟩ = false := by
  obtain ⟨l1, l2⟩ := h
  rcases l2 with ⟨h, _⟩ | ⟨g', cap', cur, e1, h3, h4, h5, h6, h7, h8⟩
  · cases h
  · cases e1
    refine ⟨cell_blk h4 _ _ ?_, free_blk h4 _⟩
    have : (cur.toList.take (n * size))[i]? = some xs[i] := by rw [h8]; simp
    rw [List.getElem?_take] at this
    split at this
    · simpa using this
    · cases this

theorem RRow.set {w wr : World} {F : Nat → Prop} {g cap : Nat} {X : List RC} (h : RRow w wr F g cap X) {k : Nat} {c : RC} (hk : X[k]? = some c) (s : Bool) (b : List UInt8) (v : Value) (hb : IsB w F tB v b) :
    RRow w ((wr.setCell ⟨g, k * 4 + 1, none⟩ (.bool s)).setCell ⟨g, k * 4 + 2, none⟩ v) F g cap (X.set k { c with shows := s, b := b }) := by
  obtain ⟨h1, h2, xs, h3, h4⟩ := h
  refine ⟨h1, (h2.setCell (fun h => by simp at h; omega) _).setCell (fun h => by simp at h; omega) _, _, ?_, h4.set2 k c hk s b v hb⟩
  have := own_setIn (own_setIn h3 (k * 4 + 1) (.bool s)) (k * 4 + 2) v
  simpa using this
theorem RRow.drew {w wr : World} {F : Nat → Prop} {g cap : Nat} {X : List RC} (h : RRow w wr F g cap X) : RRow w wr.drew F g cap X := ⟨h.1, h.2.1.drew, h.2.2⟩
theorem RRow.at {w wr : World} {F : Nat → Prop} {g cap : Nat} {X : List RC} (h : RRow w wr F g cap X) {k : Nat} {c : RC} (hk : X[k]? = some c) :
    wr.cell? ⟨g, k * 4, none⟩ = some (.string c.name) ∧ (∃ v, wr.cell? ⟨g, k * 4 + 1, none⟩ = some v) ∧ (∃ v, wr.cell? ⟨g, k * 4 + 2, none⟩ = some v) ∧ wr.frozen? ⟨g, k * 4 + 1, none⟩ = false ∧ wr.frozen? ⟨g, k * 4 + 2, none⟩ = false := by
  obtain ⟨h1, h2, xs, h3, h4⟩ := h
  obtain ⟨hlt, rfl⟩ := List.getElem?_eq_some_iff.1 hk
  have hl := h4.length
  obtain ⟨q, _⟩ := h4.get k hlt
  have q0 := own_at h3 (k * 4) (by omega)
  have q1 := own_at h3 (k * 4 + 1) (by omega)
  have q2 := own_at h3 (k * 4 + 2) (by omega)
  rw [List.getElem?_eq_getElem (by omega)] at q
  rw [Option.some.inj q] at q0
  exact ⟨q0.1, ⟨_, q1.1⟩, ⟨_, q2.1⟩, q1.2, q2.2⟩

def rollX (L old : List RC) (k : Nat) : List RC := (L.take k).map (rollCell old) ++ L.drop k
theorem rollX_at {L old : List RC} {k : Nat} {c : RC} (h : L[k]? = some c) : (rollX L old k)[k]? = some c := by
  obtain ⟨hlt, rfl⟩ := List.getElem?_eq_some_iff.1 h
  unfold rollX
  rw [List.getElem?_append_right (by simp; omega)]
  simp [List.getElem?_drop, Nat.min_eq_left (Nat.le_of_lt hlt), hlt]
theorem rollX_succ {L old : List RC} {k : Nat} {c : RC} (h : L[k]? = some c) : rollX L old (k + 1) = (rollX L old k).set k (rollCell old c) := by
  obtain ⟨hlt, rfl⟩ := List.getElem?_eq_some_iff.1 h
  unfold rollX
  rw [List.take_succ_eq_append_getElem hlt, List.map_append, List.set_append_right _ _ (by simp; omega)]
  simp only [List.length_map, List.length_take, Nat.min_eq_left (Nat.le_of_lt hlt), Nat.sub_self]
  have : (L.drop k).set 0 (rollCell old L[k]) = rollCell old L[k] :: L.drop (k + 1) := by rw [List.drop_eq_getElem_cons hlt]; rfl
  rw [this]
  simp
theorem rollX_len (L old : List RC) (k : Nat) : (rollX L old k).length = L.length := by unfold rollX; simp; omega

theorem roll_end {w wr : World} {F : Nat → Prop} {R : Nat} {la : Option Addr} {lc : Nat} {oa : Option Addr} {oc : Nat} {ovs : List Value} {st : RSt} (h : RParts w F R la lc oa oc ovs st) {g cap : Nat} {X : List RC} (hr : RRow w wr F g cap X) :
    RPost w F R true { st with L := X } (.returned (.bool true)) (wr.setCell ⟨R, 0, none⟩ (.slice (some ⟨g, 0, none⟩) X.length cap)) := by
  obtain ⟨h1, h2, xs, h3, h4⟩ := hr
  have hlt := lt_of_blk h.blk
  have hR := h2.keep h.blk (fun h => h)
  have hU5 : Upd (fun b => b = R) w (wr.setCell ⟨R, 0, none⟩ (.slice (some ⟨g, 0, none⟩) X.length cap)) := Upd.setCell (S := fun b => b = R) (h2.mono (fun _ _ h => h.elim)) (p := ⟨R, 0, none⟩) (fun _ => rfl) _
  refine ⟨rfl, relist h hU5 rfl (by rw [blk_setCell hR 0 _]; rfl) (own_set h3 _ _ (by simp; omega)) (fun x hx => by simp at hx; omega) (h4.kept (fun _ _ h => .inl h) (fun x hx _ ⟨arr, t, f, ht, hbk⟩ => hU5.block x hx ?_)), hU5⟩
  rintro rfl
  rw [h.blk] at hbk; cases hbk; revert ht; unfold tB tBB; decide

theorem roll_end0 {w wr : World} {F : Nat → Prop} {R : Nat} {la : Option Addr} {lc : Nat} {oa : Option Addr} {oc : Nat} {ovs : List Value} {st : RSt} (h : RParts w F R la lc oa oc ovs st) (hU : Upd (fun _ => False) w wr) {a' : Option Addr} {c' : Nat} (hat : ∀ x, a'.map (·.block) = some x → w.heap.size ≤ x)
    (hown : wr.ownsRow 0 59 4 (.slice a' 0 c') 0 []) : RPost w F R true { st with L := [] } (.returned (.bool true)) (wr.setCell ⟨R, 0, none⟩ (.slice a' 0 c')) := by
  have hlt := lt_of_blk h.blk
  have hR := hU.keep h.blk (fun h => h)
  have hU5 : Upd (fun b => b = R) w (wr.setCell ⟨R, 0, none⟩ (.slice a' 0 c')) := Upd.setCell (S := fun b => b = R) (hU.mono (fun _ _ h => h.elim)) (p := ⟨R, 0, none⟩) (fun _ => rfl) _
  refine ⟨rfl, relist (L5 := []) (xs := []) h hU5 rfl (by rw [blk_setCell hR 0 _]; rfl) ?_ hat trivial, hU5⟩
  obtain ⟨l1, l2⟩ := hown
  refine ⟨l1, l2.imp id ?_⟩
  rintro ⟨g', cap', cur', e1, h3, h4, h5⟩
  cases e1
  have := hat g' rfl
  exact ⟨g', _, cur', rfl, h3, setCell_keep h4 _ _ (by simp; omega), h5⟩

set_option maxRecDepth 100000 in
set_option maxHeartbeats 2000000 in
theorem rroll_no (w : World) (F : Nat → Prop) (R : Nat) (st : RSt) (hS : IsRef w F R st) (n : Int) (hc : rcanRoll st n = false) :
    Calls Try.prog 13 #[.pointer (some ⟨R, 0, none⟩), .int .i64 n] w (RPost w F R false st) := by
  have HS := Lib.hid hS
  rcases Int.lt_or_le n 0 with h0 | h0
  · clear hc hS
    go_enter Try.func13, Try.ntmps13
    go_wp2_with fail
    go_ret
    exact RPost.same HS.out (Upd.refl _ _)
  · obtain ⟨j, rfl⟩ := Int.eq_ofNat_of_zero_le h0
    obtain ⟨la, lc, oa, oc, ovs, P0⟩ := hS
    have hc0 := cell_blk P0.blk 1 _ rfl
    have hj : st.old.length < j := by simp [rcanRoll] at hc; omega
    clear hc P0
    go_enter Try.func13, Try.ntmps13
    go_wp2_with fail
    go_ret
    exact RPost.same HS.out (Upd.refl _ _)

set_option maxRecDepth 100000 in
set_option maxHeartbeats 2000000 in
theorem rroll_zero (w : World) (F : Nat → Prop) (R : Nat) (st : RSt) (hS : IsRef w F R st) :
    Calls Try.prog 13 #[.pointer (some ⟨R, 0, none⟩), .int .i64 0] w (RPost w F R true st) := by
  have HS := Lib.hid hS
  obtain ⟨la, lc, oa, oc, ovs, P0⟩ := hS
  have hc0 := cell_blk P0.blk 1 _ rfl
  clear P0
  go_enter Try.func13, Try.ntmps13
  go_wp2_with fail
  go_ret
  exact RPost.same HS.out (Upd.refl _ _)

set_option maxRecDepth 100000 in
set_option maxHeartbeats 4000000 in
theorem rroll_yes (w : World) (F : Nat → Prop) (R : Nat) (st : RSt) (hS : IsRef w F R st) (j : Nat) (hj0 : 0 < j) (hj : j ≤ st.old.length) (old : List RC) (hold : st.old[st.old.length - j]? = some old) (hn : st.L.length ≤ 1048576 * 1048576) (hn2 : st.old.length ≤ 1048576 * 1048576) (hol : old.length ≤ 1048576 * 1048576) :
    Calls Try.prog 13 #[.pointer (some ⟨R, 0, none⟩), .int .i64 j] w (RPost w F R true { st with L := st.L.map (rollCell old) }) := by
  obtain ⟨i0, hi, hz0, hz1, hz2⟩ := info_parts info_cell
  obtain ⟨la, lc, oa, oc, ovs, P0⟩ := hS
  obtain ⟨cs, hrow, hrel⟩ := P0.row
  have hl4 := hrel.length
  have h1 := hrel.one
  have hc0 := cell_blk P0.blk 0 _ rfl
  have hc1 := cell_blk P0.blk 1 _ rfl
  have hf0 := free_blk P0.blk 0
  obtain ⟨ov, hov, hovs⟩ := P0.rel.get _ _ hold
  obtain ⟨va, vc, rfl⟩ := hovs.slice
  have horow := ownsRow_row P0.own F P0.fo (fun t => t = 26) rfl
  obtain ⟨_, _, he, _, _, hro⟩ := horow
  cases he
  obtain ⟨og, oo, oarr, ot, of, rfl, _, _, hob, hoc⟩ := hro (by rintro rfl; simp at hov)
  have hold1 := cell_blk hob _ _ (hoc _ _ hov)
  have HP := Lib.hid P0
  have HROW := Lib.hid hrow
  have HL4 := Lib.hid hl4
  have HREL := Lib.hid hrel
  have H1 := Lib.hid h1
  have HOV := Lib.hid hovs
  clear P0 hrow hrel hl4 h1 hro hoc hob hov hovs hold
  go_enter Try.func13, Try.ntmps13
  go_wp2_with fail
  go_quiet (fail)
  go_wp2_with (first
    | (at_builtin; refine wpList_appendN rfl _ _ 26 rfl 59 i0 _ 4 72 Try.underlying26 hi hz0 hz1 hz2 rfl (by decide) none 0 0 [] rfl (World.ownsRow_nil _ _ _ _) la st.L.length lc cs rfl F tC (IsRow.kept HROW.out (fun _ _ h => h) (fun _ _ _ _ => rfl)) HL4.out H1.out (by omega) (by omega) ?_; intro a' c' w1 hown hgrow hat hnil))
  simp only [Nat.zero_add, List.nil_append] at hown
  have hU1 : Upd (fun _ => False) w w1 := (show Upd (fun _ => False) w (w.drewN nq) from ⟨rfl, rfl, rfl, Nat.le_refl _, fun _ _ _ => rfl⟩).grown hgrow (fun _ _ h => by simp at h)
  have hat' : ∀ x, a'.map (·.block) = some x → w.heap.size ≤ x := fun x hx => by have := (hat x hx).1; simpa using this
  obtain ⟨n, hL⟩ : ∃ n, st.L.length = n := ⟨_, rfl⟩
  rcases Nat.eq_zero_or_pos n with rfl | hpos
  · have h0 : st.L = [] := List.eq_nil_of_length_eq_zero hL
    have hB1 := hU1.keep HP.out.blk (fun h => h)
    have hc10 := cell_blk hB1 0 _ rfl
    have hf10 := free_blk hB1 0
    have hcs : cs = [] := List.eq_nil_of_length_eq_zero (by rw [HL4.out, hL])
    have HE := Lib.hid (roll_end0 HP.out hU1 hat' (by rw [hL, hcs] at hown; exact hown))
    have H0 := Lib.hid h0
    rw [hL]
    clear hown hgrow hat hnil hU1 hat' hc0 hc1 hf0 hold1 hB1 hcs h0
    refine wp_loop_rounds 1 ?_
    rw [rounds_succ]
    go_wp2_with fail
    go_ret
    have := HE.out
    rw [H0.out]
    exact this
  obtain ⟨g, rfl⟩ : ∃ g, a' = some ⟨g, 0, none⟩ := by
    rcases hown.2 with ⟨_, h0⟩ | ⟨g, cap, cur, hv, _⟩
    · omega
    · cases hv; exact ⟨g, rfl⟩
  have hr0 : RRow w w1 F g c' (rollX st.L old 0) := ⟨hat' g rfl, hU1, cs, by simpa [rollX] using hown, by simpa [rollX] using HREL.out⟩
  have HR0 := Lib.hid hr0
  rw [hL]
  clear hr0 hown hgrow hat hnil hU1 hat' hc0 hc1 hf0 hold1
  have HL := Lib.hid hL
  go_loopw [7] (fun i wr => ∃ k : Nat, k ≤ n ∧ i = .int .i64 k ∧ RRow w wr F g c' (rollX st.L old k)) (fun i _ => n - (intOf i).toNat)
  case atStart => exact ⟨0, Nat.zero_le _, rfl, HR0.out⟩
  case round =>
    obtain ⟨k, hk, rfl, hrr⟩ := hrel
    have HRR := Lib.hid hrr
    clear hrr
    by_cases hlt : k < n
    · obtain ⟨c, hc⟩ : ∃ c, st.L[k]? = some c := ⟨_, List.getElem?_eq_getElem (by omega)⟩
      have HC := Lib.hid hc
      obtain ⟨q0, ⟨v1, q1⟩, ⟨v2, q2⟩, z1, z2⟩ := HRR.out.at (rollX_at (old := old) hc)
      clear hc
      go_wp2_with fail
      go_loopw [8] (fun i wr => ∃ t : Nat, t ≤ old.length ∧ i = .int .i64 t ∧ RRow w wr F g c' ((rollX st.L old k).set k (rollCell (old.take t) c))) (fun i _ => old.length - (intOf i).toNat)
      case atStart => exact ⟨0, Nat.zero_le _, rfl, HRR.out.set (rollX_at HC.out) false [] (.slice none 0 0) ⟨none, 0, rfl, fun _ => ⟨rfl, rfl⟩, Nat.le_refl _, fun h => absurd rfl h⟩⟩
      case round =>
        obtain ⟨t, ht, rfl, hrr2⟩ := hrel
        have HR2 := Lib.hid hrr2
        clear hrr2 q0 q1 q2 z1 z2
        by_cases hlt2 : t < old.length
        · obtain ⟨o, ho⟩ : ∃ o, old[t]? = some o := ⟨_, List.getElem?_eq_getElem hlt2⟩
          have HO := Lib.hid ho
          have hX : ((rollX st.L old k).set k (rollCell (old.take t) c))[k]? = some (rollCell (old.take t) c) := by
            rw [List.getElem?_set_self (by rw [rollX_len, HL.out]; exact hlt)]
          have HX := Lib.hid hX
          obtain ⟨q0, ⟨v1, q1⟩, ⟨v2, q2⟩, z1, z2⟩ := HR2.out.at hX
          rw [rollCell_name] at q0
          have hs := rollCell_succ ho c
          obtain ⟨ga, ao, aarr, af, rfl, hga, hab, hac⟩ := HOV.out.cells1 (by omega)
          obtain ⟨e1, e2, ba, bc, e3, e4⟩ := hac t o ho
          have hab2 := HR2.out.2.1.keep hab (fun h => h)
          have l1 := cell_blk hab2 _ _ e1
          have l2 := cell_blk hab2 _ _ e2
          have l3 := cell_blk hab2 _ _ e3
          have hne : ga ≠ g := by have := lt_of_blk hab; have := HR2.out.1; omega
          have HNE := Lib.hid hne
          have HAB := Lib.hid hab2
          have HE2 := Lib.hid e2
          have HE3 := Lib.hid e3
          have HE4 := Lib.hid e4
          have HS := Lib.hid hs
          have ht0 : (0 : Int) ≤ (t : Int) := by omega
          have ht1 : (t : Int) < ((old.length : Nat) : Int) := by omega
          clear ho hX hs hga hab hac e1 e2 e3 e4 hab2 hne
          generalize hx : o.name = x at *
          generalize hy : c.name = y at *
          have HXN := Lib.hid hx
          have HYN := Lib.hid hy
          cases hq : (x.toList == y.toList) with
          | true =>
            have hst : rollStep y (rollCell (old.take t) c) o = { rollCell (old.take t) c with shows := o.shows, b := o.b } := by unfold rollStep; rw [hx, if_pos hq]
            have HST := Lib.hid (HS.out.trans hst)
            have HSET := Lib.hid (HR2.out.set HX.out o.shows o.b (.slice ba o.b.length bc) HE4.out)
            clear hst hx hy
            go_wp2_with fail
            go_quiet (fail)
            go_wp2_with fail
            have hne2 := HNE.out
            go_region_held3 (fun w' => w'.cell? ⟨ga, ao + t * 4 + 1, none⟩ = some (.bool o.shows) ∧ w'.cell? ⟨ga, ao + t * 4 + 2, none⟩ = some (.slice ba o.b.length bc))
              (first
                | exact ⟨l2, l3⟩
                | exact ⟨cell_blk (setCell_keep HAB.out _ _ HNE.out) _ _ HE2.out, cell_blk (setCell_keep HAB.out _ _ HNE.out) _ _ HE3.out⟩
                | exact ⟨cell_blk (setCell_keep (setCell_keep HAB.out _ _ HNE.out) _ _ HNE.out) _ _ HE2.out, cell_blk (setCell_keep (setCell_keep HAB.out _ _ HNE.out) _ _ HNE.out) _ _ HE3.out⟩
                | go_keep)
              (fail)
            all_goals go_wp2_with fail
            all_goals go_roundw
            case rel => exact ⟨t + 1, by omega, by go_num, by rw [HST.out]; have := HSET.out; rw [List.set_set] at this; exact ⟨this.1, this.2.1.trans (S' := fun _ => False) ⟨rfl, rfl, rfl, Nat.le_refl _, fun _ _ _ => rfl⟩ (fun _ _ h => h), this.2.2⟩⟩
            case measure => simp [intOf]; omega
          | false =>
            have hst : rollStep y (rollCell (old.take t) c) o = rollCell (old.take t) c := by unfold rollStep; rw [hx, if_neg (by rw [hq]; simp)]
            have HST := Lib.hid (HS.out.trans hst)
            clear hst hx hy
            go_wp2_with fail
            go_quiet (fail)
            go_wp2_with fail
            go_roundw
            case rel => exact ⟨t + 1, by omega, by go_num, by rw [HST.out]; exact ⟨HR2.out.1, HR2.out.2.1.trans (S' := fun _ => False) ⟨rfl, rfl, rfl, Nat.le_refl _, fun _ _ _ => rfl⟩ (fun _ _ h => h), HR2.out.2.2⟩⟩
            case measure => simp [intOf]; omega
        · obtain rfl : t = old.length := by omega
          have hX : (rollX st.L old k).set k (rollCell (old.take old.length) c) = rollX st.L old (k + 1) := by rw [List.take_length, rollX_succ HC.out]
          have HX := Lib.hid hX
          clear hX
          go_wp2_with fail
          go_roundw
          case rel => exact ⟨k + 1, by omega, by go_num, HX.out ▸ HR2.out⟩
          case measure => simp [intOf]; omega
    · obtain rfl : k = n := by omega
      have hX : rollX st.L old k = st.L.map (rollCell old) := by unfold rollX; rw [← HL.out]; simp
      have P1 := HP.out.kept (w' := wr) (F' := F) (fun _ _ h => h) (fun b hb _ => HRR.out.2.1.block b hb (fun h => h))
      have hc0 := cell_blk P1.blk 0 _ rfl
      have hf0 := free_blk P1.blk 0
      have HP1 := Lib.hid P1
      have HX := Lib.hid hX
      clear hX P1
      go_wp2_with fail
      go_ret
      have := roll_end HP.out HRR.out
      rw [HX.out, List.length_map, HL.out] at this
      exact this

theorem rroll_any (w : World) (F : Nat → Prop) (R : Nat) (st : RSt) (hS : IsRef w F R st) (n : Int) (hn : st.L.length ≤ 1048576 * 1048576) (hn2 : st.old.length ≤ 1048576 * 1048576) (hol : ∀ l ∈ st.old, l.length ≤ 1048576 * 1048576) :
    Calls Try.prog 13 #[.pointer (some ⟨R, 0, none⟩), .int .i64 n] w (RPost w F R (rcanRoll st n) { st with L := rroll st n }) := by
  cases hc : rcanRoll st n with
  | false =>
    have hr : rroll st n = st.L := by simp [rroll, hc]
    rw [hr]
    exact rroll_no w F R st hS n hc
  | true =>
    by_cases h0 : n = 0
    · subst h0
      have hr : rroll st 0 = st.L := by simp [rroll]
      rw [hr]
      exact rroll_zero w F R st hS
    · have hc' := hc
      simp only [rcanRoll, Bool.and_eq_true, decide_eq_true_eq] at hc'
      obtain ⟨j, rfl⟩ := Int.eq_ofNat_of_zero_le hc'.1
      obtain ⟨old, ho⟩ : ∃ o, st.old[st.old.length - j]? = some o := ⟨_, List.getElem?_eq_getElem (by omega)⟩
      have hr : rroll st j = st.L.map (rollCell old) := by simp only [rroll, hc, true_and]; rw [if_pos h0, Int.toNat_natCast, ho]
      rw [hr]
      exact rroll_yes w F R st hS j (by omega) (by omega) old ho hn hn2 (hol _ (List.mem_of_getElem? ho))
end Go.Proofs.Ytajmaebofhkjjaa
