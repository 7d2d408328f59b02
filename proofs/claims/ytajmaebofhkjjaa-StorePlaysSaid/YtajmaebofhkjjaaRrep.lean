import Derived.Test.YtajmaebofhkjjaaRdel
namespace Go.Proofs.Ytajmaebofhkjjaa
open Go.RowKit Go.Proofs.Dm Go.MapKept
attribute [local go_sem ↓] Go.wp_at_zero Go.wp_at_succ

def rcanRep (L : List RC) (name : ByteArray) (n : Int) : Bool := ratF L name && decide (0 ≤ n) && decide (n < (rverl L name).length)
def rrep (L : List RC) (name : ByteArray) (n : Int) : List RC := if rcanRep L name n then (match L[ratK L name]? with | some c => L.set (ratK L name) { c with shows := true, b := c.all.getD n.toNat [] } | none => L) else L

set_option maxRecDepth 100000 in
set_option maxHeartbeats 2000000 in
theorem rreplay_no (w : World) (F : Nat → Prop) (R : Nat) (st : RSt) (hS : IsRef w F R st) (name : ByteArray) (n : Int) (hn : st.L.length ≤ 1048576 * 1048576) (hc : rcanRep st.L name n = false) :
    Calls Try.prog 7 #[.pointer (some ⟨R, 0, none⟩), .string name, .int .i64 n] w (RPost w F R false st) := by
  have HA := Lib.hid (at_any w F R st hS name hn)
  have HS := Lib.hid hS
  cases hf : ratF st.L name with
  | false =>
    have HF := Lib.hid hf
    clear hc hf hS
    go_enter Try.func7, Try.ntmps7
    go_wp2_with fail
    refine HA.out.mono ?_
    rintro e w1 ⟨rfl, hU, hh⟩
    rw [HF.out]
    have HU := Lib.hid hU
    clear hU hh
    go_wp2_with fail
    go_ret
    exact RPost.same HS.out HU.out
  | true =>
    have HF := Lib.hid hf
    have hk := ratF_lt hf
    have hv : rverl st.L name = st.L[ratK st.L name].all := by simp only [rverl, hf, if_true, List.getElem?_eq_getElem hk]
    simp only [rcanRep, hf, hv, Bool.true_and] at hc
    obtain ⟨la, lc, oa, oc, ovs, P0⟩ := hS
    have HP := Lib.hid P0
    clear hf hv P0
    rcases Int.lt_or_le n 0 with h0 | h0
    · clear hc
      go_enter Try.func7, Try.ntmps7
      go_wp2_with fail
      refine HA.out.mono ?_
      rintro e w1 ⟨rfl, hU, hh⟩
      rw [HF.out]
      have HU := Lib.hid hU
      clear hU hh
      go_wp2_with fail
      go_ret
      exact RPost.same HS.out HU.out
    · obtain ⟨j, rfl⟩ := Int.eq_ofNat_of_zero_le h0
      have hj : ¬ ((j : Int) < ((st.L[ratK st.L name].all.length : Nat) : Int)) := by
        intro h
        simp at hc; omega
      generalize hK : ratK st.L name = K at *
      have HK := Lib.hid hK
      clear hc hK
      go_enter Try.func7, Try.ntmps7
      go_wp2_with fail
      refine HA.out.mono ?_
      rintro e w1 ⟨rfl, hU, hh⟩
      rw [HF.out, HK.out]
      have P1 := HP.out.kept (w' := w1) (F' := F) (fun _ _ h => h) (fun g _ _ => by rw [hh])
      have hc0 := cell_blk P1.blk 0 _ rfl
      obtain ⟨g, o, arr, f, rfl, hg, hb, hcs⟩ := P1.cells (by omega)
      obtain ⟨h1, h2, ba, bc, aa, ac, h3, h3b, h4, h4b⟩ := hcs K hk
      have l4 := cell_blk hb _ _ h4
      generalize st.L[K].all.length = al at *
      have HU := Lib.hid hU
      clear P1 hU hh hcs hb hg h1 h2 h3 h3b h4 h4b HA
      go_wp2_with fail
      go_ret
      exact RPost.same HS.out HU.out

set_option maxRecDepth 100000 in
set_option maxHeartbeats 2000000 in
theorem rreplay_yes (w : World) (F : Nat → Prop) (R : Nat) (st : RSt) (hS : IsRef w F R st) (name : ByteArray) (j : Nat) (hn : st.L.length ≤ 1048576 * 1048576) (hf : ratF st.L name = true) (hk : ratK st.L name < st.L.length) (hj : j < st.L[ratK st.L name].all.length) :
    Calls Try.prog 7 #[.pointer (some ⟨R, 0, none⟩), .string name, .int .i64 j] w (RPost w F R true { st with L := st.L.set (ratK st.L name) { st.L[ratK st.L name] with shows := true, b := st.L[ratK st.L name].all[j] } }) := by
  have HA := Lib.hid (at_any w F R st hS name hn)
  have HF := Lib.hid hf
  obtain ⟨la, lc, oa, oc, ovs, P0⟩ := hS
  have HP := Lib.hid P0
  clear hf P0
  generalize hK : ratK st.L name = K at *
  have HK := Lib.hid hK
  clear hK
  go_enter Try.func7, Try.ntmps7
  go_wp2_with fail
  refine HA.out.mono ?_
  rintro e w1 ⟨rfl, hU, hh⟩
  rw [HF.out, HK.out]
  have P1 := HP.out.kept (w' := w1) (F' := F) (fun _ _ h => h) (fun g _ _ => by rw [hh])
  have hc0 := cell_blk P1.blk 0 _ rfl
  obtain ⟨g, o, arr, f, rfl, hg, hb, hcs⟩ := P1.cells (by omega)
  obtain ⟨h1, h2, ba, bc, aa, ac, h3, h3b, h4, h4b⟩ := hcs K hk
  have l1 := cell_blk hb _ _ h1
  have l2 := cell_blk hb _ _ h2
  have l3 := cell_blk hb _ _ h3
  have l4 := cell_blk hb _ _ h4
  obtain ⟨vs, ⟨_, _, he, _, _, hro⟩, hrl⟩ := h4b
  cases he
  obtain ⟨v, hv, hvb⟩ := hrl.get j _ (List.getElem?_eq_getElem hj)
  obtain ⟨ga, go, arra, ta, fa, rfl, hga, hta, hba, hca⟩ := hro (by rintro rfl; simp at hv)
  obtain ⟨va, vc, rfl, hvb'⟩ : ∃ va vc, v = .slice va st.L[K].all[j].length vc ∧ IsB w1 F tB (.slice va st.L[K].all[j].length vc) st.L[K].all[j] := by obtain ⟨a, c, rfl, h⟩ := hvb; exact ⟨a, c, rfl, a, c, rfl, h⟩
  have hal : ∀ ob, (w1.alloc ob).cell? ⟨ga, go + j, none⟩ = some (.slice va st.L[K].all[j].length vc) := fun ob => cell_blk (alloc_keep hba _) _ _ (hca _ _ hv)
  have h4b : IsBB w1 F (.slice (some ⟨ga, go, none⟩) st.L[K].all.length ac) st.L[K].all := ⟨vs, ⟨_, _, rfl, (fun h => by cases h), by assumption, hro⟩, hrl⟩
  have HX := Lib.hid h4b
  have HVB := Lib.hid hvb'
  have HU := Lib.hid hU
  have HP1 := Lib.hid P1
  have HKL := Lib.hid hk
  have HN := Lib.hid hn
  have hj0 : (0 : Int) ≤ (j : Int) := by omega
  have hj1 : (j : Int) < ((st.L[K].all.length : Nat) : Int) := by omega
  clear P1 hU hh hcs hb hg h1 h2 h3 h3b h4 h4b HA hro hrl hv hvb hvb' hga hta hba hca
  go_wp2_with fail
  go_region
  all_goals go_wp2_with fail
  all_goals
    refine (rset_any _ F R st ⟨_, _, _, _, _, HP1.out.kept (fun _ _ h => h) (by intro g hg _; exact Below.heap_alloc _ _ _ hg)⟩ K HKL.out { st.L[K] with shows := true, b := st.L[K].all[j] } va _ vc (IsRow.kept HVB.out (fun _ _ h => h) (by intro g hg _ _; exact Below.heap_alloc _ _ _ hg)) _ _ ac (HX.out.kept (fun _ _ h => h) (by intro g hg _ _; exact Below.heap_alloc _ _ _ hg)) HN.out).mono ?_
    rintro e w2 ⟨rfl, hS2, hU2⟩
    go_wp2_with fail
    go_ret
    exact RPost.step (HU.out.alloc _).drew hS2 hU2

theorem rreplay_any (w : World) (F : Nat → Prop) (R : Nat) (st : RSt) (hS : IsRef w F R st) (name : ByteArray) (n : Int) (hn : st.L.length ≤ 1048576 * 1048576) :
    Calls Try.prog 7 #[.pointer (some ⟨R, 0, none⟩), .string name, .int .i64 n] w (RPost w F R (rcanRep st.L name n) { st with L := rrep st.L name n }) := by
  cases hc : rcanRep st.L name n with
  | false =>
    have hr : rrep st.L name n = st.L := by simp [rrep, hc]
    rw [hr]
    exact rreplay_no w F R st hS name n hn hc
  | true =>
    have hc' := hc
    simp only [rcanRep, Bool.and_eq_true, decide_eq_true_eq] at hc'
    obtain ⟨⟨hf, h0⟩, h1⟩ := hc'
    have hk := ratF_lt hf
    have hv : rverl st.L name = st.L[ratK st.L name].all := by simp only [rverl, hf, if_true, List.getElem?_eq_getElem hk]
    obtain ⟨j, rfl⟩ := Int.eq_ofNat_of_zero_le h0
    rw [hv] at h1
    have hj : j < st.L[ratK st.L name].all.length := by omega
    have hr : rrep st.L name j = st.L.set (ratK st.L name) { st.L[ratK st.L name] with shows := true, b := st.L[ratK st.L name].all[j] } := by
      simp [rrep, hc, List.getElem?_eq_getElem hk, List.getElem?_eq_getElem hj]
    rw [hr]
    exact rreplay_yes w F R st hS name j hn hf hk hj
end Go.Proofs.Ytajmaebofhkjjaa
