import Derived.Test.YtajmaebofhkjjaaShown
namespace Go.Proofs.Ytajmaebofhkjjaa
open Go.RowKit Go.Proofs.Dm Go.MapKept

def sv (s : ByteArray) : Value := .string s
def rnames (L : List RC) : List ByteArray := (L.filter fun c => c.shows).map RC.name
theorem info_str : (Try.prog.info? 9).map (fun i => (i.zero, i.size, i.bytes)) = some (some (.string ⟨#[]⟩), 1, 16) := by kernel_rfl

/-- Strings of the call's own. -/
def StrsPost (w : World) (l : List ByteArray) (e : Ending) (w' : World) : Prop :=
  ∃ a c, e = .returned (.slice a l.length c) ∧ w'.ownsRow 0 9 1 (.slice a l.length c) l.length (l.map sv) ∧ (∀ g, a.map (·.block) = some g → w.heap.size ≤ g ∧ g < w'.heap.size) ∧ Upd (fun _ => False) w w'

def StrsMid (w : World) (l : List ByteArray) (v : Value) (wr : World) : Prop :=
  ∃ a c, v = .slice a l.length c ∧ wr.ownsRow 0 9 1 (.slice a l.length c) l.length (l.map sv) ∧ (∀ g, a.map (·.block) = some g → w.heap.size ≤ g ∧ g < wr.heap.size) ∧ Upd (fun _ => False) w wr

theorem StrsMid.snoc {w wr w1 : World} {l : List ByteArray} {a : Option Addr} {g c' : Nat} {ob : Obj} (x : ByteArray) (hu : Upd (fun _ => False) w wr) (ha : ∀ g, a.map (·.block) = some g → w.heap.size ≤ g ∧ g < wr.heap.size)
    (hown : w1.ownsRow 0 9 1 (.slice (some ⟨g, 0, none⟩) (l.length + 1) c') (l.length + 1) (l.map sv ++ [.string x])) (hgrow : (wr.alloc ob).grownBy w1 (a.map (·.block))) (hat : a.map (·.block) = some g ∨ (wr.alloc ob).heap.size ≤ g) (hlt : g < w1.heap.size) :
    StrsMid w (l ++ [x]) (.slice (some ⟨g, 0, none⟩) (l.length + 1) c') w1 := by
  refine ⟨some ⟨g, 0, none⟩, c', by simp, by simpa [sv] using hown, fun b hb => ?_, (hu.alloc ob).grown hgrow (fun k hk e => by have := ha k e; omega)⟩
  simp at hb; subst hb
  exact ⟨hat.elim (fun h => (ha _ h).1) (fun h => Nat.le_trans hu.size (by simp at h; omega)), hlt⟩

theorem rnames_succ (L : List RC) (k : Nat) (h : k < L.length) : rnames (L.take (k + 1)) = if L[k].shows then rnames (L.take k) ++ [L[k].name] else rnames (L.take k) := by
  unfold rnames
  rw [List.take_succ_eq_append_getElem h, List.filter_append, List.map_append]
  cases hs : L[k].shows <;> simp [hs]

set_option maxRecDepth 100000 in
set_option maxHeartbeats 2000000 in
theorem rnames_any (w : World) (F : Nat → Prop) (R : Nat) (st : RSt) (hS : IsRef w F R st) (hn : st.L.length ≤ 1048576 * 1048576) :
    Calls Try.prog 46 #[.pointer (some ⟨R, 0, none⟩)] w (StrsPost w (rnames st.L)) := by
  obtain ⟨i0, hi, hz0, hz1, hz2⟩ := info_parts info_str
  obtain ⟨la, lc, oa, oc, ovs, P0⟩ := hS
  have hc0 := cell_blk P0.blk 0 _ rfl
  have HP := Lib.hid P0
  generalize hL : st.L.length = n at *
  have HL := Lib.hid hL
  rcases Nat.eq_zero_or_pos n with rfl | hpos
  · have h0 : st.L = [] := List.eq_nil_of_length_eq_zero hL
    have HR : Hid (rnames st.L = []) := Lib.hid (by rw [h0]; rfl)
    clear P0 hL h0
    go_enter Try.func46, Try.ntmps46
    go_wp2_with fail
    refine wp_loop_rounds 1 ?_
    rw [rounds_succ]
    go_wp2_with fail
    go_ret
    rw [HR.out]
    exact ⟨none, 0, rfl, World.ownsRow_nil _ _ _ _, fun g hg => by simp at hg, Upd.refl _ _⟩
  · obtain ⟨g, o, arr, f, rfl, hg, hb, hcs⟩ := P0.cells (by omega)
    have HCS := Lib.hid hcs
    have HB := Lib.hid hb
    clear P0 hL hcs hb
    go_enter Try.func46, Try.ntmps46
    go_wp2_with fail
    go_loopw [4, 3] (fun i v wr => ∃ k : Nat, k ≤ n ∧ i = .int .i64 k ∧ StrsMid w (rnames (st.L.take k)) v wr) (fun i _ _ => n - (intOf i).toNat)
    case atStart => exact ⟨0, Nat.zero_le _, rfl, none, 0, rfl, World.ownsRow_nil _ _ _ _, fun g hg => by simp at hg, Upd.refl _ _⟩
    case round =>
      obtain ⟨k, hk, rfl, a, c, rfl, hown, hblk, hU⟩ := hrel
      have hcR := cell_blk (hU.keep HP.out.blk (fun h => h)) 0 _ rfl
      have hcR' : wr.cell? ⟨R, 0, none⟩ = some (.slice (some ⟨g, o, none⟩) n lc) := by rw [hcR, ← HL.out]; rfl
      clear hcR
      have HBL := Lib.hid hblk
      have HU := Lib.hid hU
      by_cases hlt : k < n
      · have hkL : k < st.L.length := by rw [HL.out]; exact hlt
        have hbk := hU.keep HB.out (fun h => h)
        have h1 := cell_blk hbk _ _ (HCS.out k hkL).1
        have h2 := cell_blk hbk _ _ (HCS.out k hkL).2.1
        have hRcal : ∀ ob, (wr.alloc ob).cell? ⟨R, 0, none⟩ = some (.slice (some ⟨g, o, none⟩) n lc) := fun ob => by
          have := cell_blk (alloc_keep (hU.keep HP.out.blk (fun h => h)) ob) 0 _ rfl
          rw [this, ← HL.out]; rfl
        have hs := rnames_succ st.L k hkL
        have hlen : (rnames (st.L.take k)).length ≤ k := by unfold rnames; rw [List.length_map]; exact Nat.le_trans (List.length_filter_le _ _) (List.length_take_le _ _)
        generalize st.L[k].name = x at *
        generalize hq : st.L[k].shows = q at *
        have HS := Lib.hid hs
        clear hs hblk hU hbk hq
        generalize rnames (st.L.take k) = l at *
        cases q with
        | true =>
          go_wp2_with (at_builtin; refine wpList_append1 rfl _ _ 67 rfl 9 i0 _ 1 16 Try.underlying67 hi hz0 hz1 hz2 rfl (by decide) a l.length c _ rfl (hown.alloc _) wr.heap.size [.string x] 9 _ rfl (heap_alloc_new _ _) rfl (by simp [Value.oneCell']) (by omega) (by decide) ?_; intro g2 cap w1 hown1 hgrow hat hlt1)
          go_roundw
          case rel => exact ⟨k + 1, by omega, by go_num, by rw [HS.out]; exact StrsMid.snoc x HU.out HBL.out hown1 hgrow hat hlt1⟩
          case measure => simp [intOf]; omega
        | false =>
          go_wp2_with fail
          go_roundw
          case rel => exact ⟨k + 1, by omega, by go_num, by rw [HS.out]; exact ⟨a, c, rfl, hown, HBL.out, HU.out⟩⟩
          case measure => simp [intOf]; omega
      · obtain rfl : k = n := by omega
        have ht : st.L.take k = st.L := by rw [← HL.out]; exact List.take_length
        rw [ht] at hown ⊢
        have HO := Lib.hid hown
        clear hown hblk hU ht
        go_wp2_with fail
        go_ret
        exact ⟨a, c, rfl, HO.out, HBL.out, HU.out⟩
end Go.Proofs.Ytajmaebofhkjjaa
