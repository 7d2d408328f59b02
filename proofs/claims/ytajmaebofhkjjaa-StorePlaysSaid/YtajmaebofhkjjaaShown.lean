import Derived.Test.YtajmaebofhkjjaaAt
import Derived.Test.YtajmaebofhkjjaaBytes
namespace Go.Proofs.Ytajmaebofhkjjaa
open Go.RowKit Go.Proofs.Dm Go.MapKept

theorem RParts.kept {w w' : World} {F F' : Nat → Prop} {R : Nat} {la : Option Addr} {lc : Nat} {oa : Option Addr} {oc : Nat} {ovs : List Value} {st : RSt} (h : RParts w F R la lc oa oc ovs st)
    (hF : ∀ g, g < w.heap.size → F g → F' g) (hk : ∀ g, g < w.heap.size → F g → w'.heap[g]? = w.heap[g]?) : RParts w' F' R la lc oa oc ovs st := by
  have hlt : ∀ g, oa.map (·.block) = some g → g < w.heap.size := fun g hg => by obtain ⟨arr, ha⟩ := own_ty h.own g hg; exact lt_of_blk ha
  refine ⟨hF R (lt_of_blk h.blk) h.fR, (hk R (lt_of_blk h.blk) h.fR).trans h.blk, h.row.kept hF (fun g hg hf _ => hk g hg hf), ?_, fun g hg => hF g (hlt g hg) (h.fo g hg), h.rel.mono (fun _ _ hab => hab.kept hF (fun g hg hf _ => hk g hg hf))⟩
  obtain ⟨h1, h2⟩ := h.own
  refine ⟨h1, h2.imp id ?_⟩
  rintro ⟨g, cap, cur, e1, h3, h4, h5⟩
  cases e1
  exact ⟨g, _, cur, rfl, h3, (hk g (lt_of_blk h4) (h.fo g rfl)).trans h4, h5⟩
theorem IsRef.kept {w w' : World} {F F' : Nat → Prop} {R : Nat} {st : RSt} (h : IsRef w F R st) (hF : ∀ g, g < w.heap.size → F g → F' g) (hk : ∀ g, g < w.heap.size → F g → w'.heap[g]? = w.heap[g]?) : IsRef w' F' R st := by
  obtain ⟨la, lc, oa, oc, ovs, h⟩ := h
  exact ⟨la, lc, oa, oc, ovs, h.kept hF hk⟩

theorem ratF_lt {L : List RC} {name : ByteArray} (h : ratF L name = true) : ratK L name < L.length := by
  unfold ratF at h
  cases hc : L[ratK L name]? with
  | none => rw [hc] at h; cases h
  | some c => exact (List.getElem?_eq_some_iff.1 hc).1

def rsh (L : List RC) (name : ByteArray) : Option Nat := if ratF L name = true then (match L[ratK L name]? with | some c => if c.shows then some (ratK L name) else none | none => none) else none
def rshI (L : List RC) (name : ByteArray) : Int := match rsh L name with | some k => k | none => -1

def ShPost (w : World) (r : Value) (e : Ending) (w' : World) : Prop := e = .returned r ∧ Upd (fun _ => False) w w' ∧ w'.heap = w.heap

set_option maxRecDepth 100000 in
set_option maxHeartbeats 2000000 in
theorem shown_any (w : World) (F : Nat → Prop) (R : Nat) (st : RSt) (hS : IsRef w F R st) (name : ByteArray) (hn : st.L.length ≤ 1048576 * 1048576) :
    Calls Try.prog 30 #[.pointer (some ⟨R, 0, none⟩), .string name] w (ShPost w (.int .i64 (rshI st.L name))) := by
  have HA := Lib.hid (at_any w F R st hS name hn)
  obtain ⟨la, lc, oa, oc, ovs, P0⟩ := hS
  have HP := Lib.hid P0
  clear P0
  go_enter Try.func30, Try.ntmps30
  go_wp2_with fail
  refine HA.out.mono ?_
  rintro e w1 ⟨rfl, hU, hh⟩
  have P1 := HP.out.kept (w' := w1) (F' := F) (fun _ _ h => h) (fun g _ _ => by rw [hh])
  have HU := Lib.hid hU
  have HH := Lib.hid hh
  have hc0 := cell_blk P1.blk 0 _ rfl
  generalize hF : ratF st.L name = q
  generalize hK : ratK st.L name = K
  cases q with
  | false =>
    have hr : rshI st.L name = -1 := by simp [rshI, rsh, hF]
    have HR := Lib.hid hr
    clear hr P1 hU hh hF hK HA
    go_wp2_with fail
    go_ret
    exact ⟨by rw [HR.out]; rfl, HU.out, HH.out⟩
  | true =>
    have hlt : K < st.L.length := hK ▸ ratF_lt hF
    obtain ⟨g, o, arr, f, rfl, hg, hb, hcs⟩ := P1.cells (by omega)
    have hcell := cell_blk hb (o + K * 4 + 1) _ (hcs K hlt).2.1
    have hr : rshI st.L name = if st.L[K].shows then (K : Int) else -1 := by
      simp only [rshI, rsh, hF, hK, if_true, List.getElem?_eq_getElem hlt]
      cases st.L[K].shows <;> rfl
    have HR := Lib.hid hr
    generalize st.L[K].shows = sh at *
    clear hr P1 hU hh hF hK HA hcs hb hg
    generalize hL : st.L.length = n at *
    cases sh with
    | true =>
      go_wp2_with fail
      go_ret
      exact ⟨by rw [HR.out]; rfl, HU.out, HH.out⟩
    | false =>
      go_wp2_with fail
      go_ret
      exact ⟨by rw [HR.out]; rfl, HU.out, HH.out⟩

set_option maxRecDepth 100000 in
set_option maxHeartbeats 400000 in
theorem rwrites_any (w : World) (F : Nat → Prop) (R : Nat) (st : RSt) (hS : IsRef w F R st) :
    Calls Try.prog 47 #[.pointer (some ⟨R, 0, none⟩)] w fun e w' => e = .returned (.int .i64 st.old.length) ∧ w = w' := by
  obtain ⟨la, lc, oa, oc, ovs, P0⟩ := hS
  have hc1 := cell_blk P0.blk 1 _ rfl
  clear P0
  go_enter Try.func47, Try.ntmps47
  go_wp2
  go_ret
  exact ⟨rfl, rfl⟩

def rverl (L : List RC) (name : ByteArray) : List (List UInt8) := if ratF L name = true then (match L[ratK L name]? with | some c => c.all | none => []) else []

set_option maxRecDepth 100000 in
set_option maxHeartbeats 2000000 in
theorem rversions_any (w : World) (F : Nat → Prop) (R : Nat) (st : RSt) (hS : IsRef w F R st) (name : ByteArray) (hn : st.L.length ≤ 1048576 * 1048576) :
    Calls Try.prog 48 #[.pointer (some ⟨R, 0, none⟩), .string name] w (ShPost w (.int .i64 (rverl st.L name).length)) := by
  have HA := Lib.hid (at_any w F R st hS name hn)
  obtain ⟨la, lc, oa, oc, ovs, P0⟩ := hS
  have HP := Lib.hid P0
  clear P0
  go_enter Try.func48, Try.ntmps48
  go_wp2_with fail
  refine HA.out.mono ?_
  rintro e w1 ⟨rfl, hU, hh⟩
  have P1 := HP.out.kept (w' := w1) (F' := F) (fun _ _ h => h) (fun g _ _ => by rw [hh])
  have HU := Lib.hid hU
  have HH := Lib.hid hh
  have hc0 := cell_blk P1.blk 0 _ rfl
  generalize hF : ratF st.L name = q
  generalize hK : ratK st.L name = K
  cases q with
  | false =>
    have hr : rverl st.L name = [] := by simp [rverl, hF]
    have HR := Lib.hid hr
    clear hr P1 hU hh hF hK HA
    go_wp2_with fail
    go_ret
    exact ⟨by rw [HR.out]; rfl, HU.out, HH.out⟩
  | true =>
    have hlt : K < st.L.length := hK ▸ ratF_lt hF
    obtain ⟨g, o, arr, f, rfl, hg, hb, hcs⟩ := P1.cells (by omega)
    obtain ⟨_, _, ba, bc, aa, ac, _, _, h4, _⟩ := hcs K hlt
    have hcell := cell_blk hb (o + K * 4 + 3) _ h4
    have hr : rverl st.L name = st.L[K].all := by
      simp only [rverl, hF, hK, if_true, List.getElem?_eq_getElem hlt]
    have HR := Lib.hid hr
    generalize st.L[K].all = al at *
    clear hr P1 hU hh hF hK HA hcs hb hg h4
    go_wp2_with fail
    go_ret
    exact ⟨by rw [HR.out]; rfl, HU.out, HH.out⟩

theorem rsh_lt {L : List RC} {name : ByteArray} {k : Nat} (hr : rsh L name = some k) : k < L.length := by
  unfold rsh at hr
  split at hr
  · rename_i hf
    have := ratF_lt hf
    split at hr
    · split at hr
      · cases hr; exact this
      · cases hr
    · cases hr
  · cases hr

def rget (L : List RC) (name : ByteArray) : Option (List UInt8) := match rsh L name with | some k => L[k]?.map RC.b | none => none
def GetPost (w : World) (r : Option (List UInt8)) (e : Ending) (w' : World) : Prop :=
  ∃ a c, e = .returned (.tuple #[.slice a (r.getD []).length c, .bool r.isSome]) ∧ FreshB w w' a c (r.getD []) ∧ Upd (fun _ => False) w w'

set_option maxRecDepth 100000 in
set_option maxHeartbeats 2000000 in
theorem rget_any (w : World) (F : Nat → Prop) (R : Nat) (st : RSt) (hS : IsRef w F R st) (name : ByteArray) (hn : st.L.length ≤ 1048576 * 1048576) (hl : ∀ c ∈ st.L, c.b.length ≤ 1048576 * 1048576) :
    Calls Try.prog 49 #[.pointer (some ⟨R, 0, none⟩), .string name] w (GetPost w (rget st.L name)) := by
  have HA := Lib.hid (shown_any w F R st hS name hn)
  obtain ⟨la, lc, oa, oc, ovs, P0⟩ := hS
  have HP := Lib.hid P0
  clear P0
  have hrr : rshI st.L name = match rsh st.L name with | some k => (k : Int) | none => -1 := rfl
  cases hr : rsh st.L name with
  | none =>
    rw [hr] at hrr
    have hg : rget st.L name = none := by simp [rget, hr]
    rw [hg]
    have HR := Lib.hid hrr
    clear hrr hr hg
    go_enter Try.func49, Try.ntmps49
    go_wp2_with fail
    refine HA.out.mono ?_
    rintro e w1 ⟨rfl, hU, hh⟩
    rw [HR.out]
    have HU := Lib.hid hU
    clear hU hh
    go_wp2_with fail
    go_ret2
    exact ⟨none, 0, rfl, ⟨World.ownsRow_nil _ _ _ _, fun g hg => by simp at hg⟩, HU.out⟩
  | some k =>
    rw [hr] at hrr
    have hk := rsh_lt hr
    have hg : rget st.L name = some st.L[k].b := by simp [rget, hr, List.getElem?_eq_getElem hk]
    rw [hg]
    have HR := Lib.hid hrr
    clear hrr hr hg
    go_enter Try.func49, Try.ntmps49
    go_wp2_with fail
    refine HA.out.mono ?_
    rintro e w1 ⟨rfl, hU, hh⟩
    rw [HR.out]
    have P1 := HP.out.kept (w' := w1) (F' := F) (fun _ _ h => h) (fun g _ _ => by rw [hh])
    have hc0 := cell_blk P1.blk 0 _ rfl
    obtain ⟨g, o, arr, f, rfl, hg, hb, hcs⟩ := P1.cells (by omega)
    obtain ⟨_, _, ba, bc, aa, ac, h3, h3b, _, _⟩ := hcs k hk
    have hcell := cell_blk hb (o + k * 4 + 2) _ h3
    have hbl := hl st.L[k] (List.getElem_mem hk)
    generalize hx : st.L[k].b = x at *
    have HXE := Lib.hid hx
    have HX := Lib.hid h3b
    have HU := Lib.hid hU
    clear P1 hU hh hcs hb hg h3 h3b HA HR hx
    go_wp2_with (go_at_call 35; refine (copyBytes_any _ F tB ba _ bc x HX.out (by omega)).mono ?_; rintro e w2 ⟨a, c, rfl, hfr, hU2⟩)
    go_ret2
    have hx := HXE.out
    subst hx
    exact ⟨a, c, rfl, ⟨hfr.1, fun g hg => ⟨Nat.le_trans HU.out.size (hfr.2 g hg).1, (hfr.2 g hg).2⟩⟩, HU.out.trans hU2 (fun _ _ h => h)⟩
end Go.Proofs.Ytajmaebofhkjjaa
