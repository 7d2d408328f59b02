import Derived.Test.YtajmaebofhkjjaaRset
namespace Go.Proofs.Ytajmaebofhkjjaa
open Go.RowKit Go.Proofs.Dm Go.MapKept
attribute [local go_sem ↓] Go.wp_at_zero Go.wp_at_succ

def RPost (w : World) (F : Nat → Prop) (R : Nat) (r : Bool) (st : RSt) (e : Ending) (w' : World) : Prop :=
  e = .returned (.bool r) ∧ IsRef w' (Plus F w w') R st ∧ Upd (fun b => b = R) w w'

theorem RPost.same {w w1 : World} {F : Nat → Prop} {R : Nat} {r : Bool} {st : RSt} (h : IsRef w F R st) (hU : Upd (fun _ => False) w w1) : RPost w F R r st (.returned (.bool r)) w1 :=
  ⟨rfl, h.kept (fun _ _ h => .inl h) (fun g hg _ => hU.block g hg (fun h => h)), hU.mono (fun _ _ h => h.elim)⟩

theorem RPost.step {w w1 w2 : World} {F : Nat → Prop} {R : Nat} {r : Bool} {st : RSt} (hU : Upd (fun _ => False) w w1) (h1 : IsRef w2 (Plus F w1 w2) R st) (h2 : Upd (fun b => b = R) w1 w2) : RPost w F R r st (.returned (.bool r)) w2 :=
  ⟨rfl, h1.kept (fun _ _ h => h.imp id (fun h => ⟨Nat.le_trans hU.size h.1, h.2⟩)) (fun _ _ _ => rfl), (hU.mono (S' := fun b => b = R) (fun _ _ h => h.elim)).trans h2 (fun _ _ h => h)⟩

def rdel (L : List RC) (name : ByteArray) : List RC := match rsh L name with | some k => (match L[k]? with | some c => L.set k { c with shows := false, b := [] } | none => L) | none => L

theorem rshI_some {L : List RC} {name : ByteArray} {k : Nat} (h : rsh L name = some k) : rshI L name = k := by simp [rshI, h]
theorem rshI_none {L : List RC} {name : ByteArray} (h : rsh L name = none) : rshI L name = -1 := by simp [rshI, h]

set_option maxRecDepth 100000 in
set_option maxHeartbeats 2000000 in
theorem rdelete_any (w : World) (F : Nat → Prop) (R : Nat) (st : RSt) (hS : IsRef w F R st) (name : ByteArray) (hn : st.L.length ≤ 1048576 * 1048576) :
    Calls Try.prog 11 #[.pointer (some ⟨R, 0, none⟩), .string name] w (RPost w F R (rsh st.L name).isSome { st with L := rdel st.L name }) := by
  have HA := Lib.hid (shown_any w F R st hS name hn)
  have HS := Lib.hid hS
  cases hr : rsh st.L name with
  | none =>
    have HR := Lib.hid (rshI_none hr)
    have hd : rdel st.L name = st.L := by simp [rdel, hr]
    rw [hd]
    clear hr hS hd
    go_enter Try.func11, Try.ntmps11
    go_wp2_with fail
    refine HA.out.mono ?_
    rintro e w1 ⟨rfl, hU, hh⟩
    rw [HR.out]
    have HU := Lib.hid hU
    clear hU hh
    go_wp2_with fail
    go_ret
    exact RPost.same HS.out HU.out
  | some k =>
    have HR := Lib.hid (rshI_some hr)
    have hk := rsh_lt hr
    have hd : rdel st.L name = st.L.set k { st.L[k] with shows := false, b := [] } := by simp [rdel, hr, List.getElem?_eq_getElem hk]
    rw [hd]
    obtain ⟨la, lc, oa, oc, ovs, P0⟩ := hS
    have HP := Lib.hid P0
    clear hr hd P0
    go_enter Try.func11, Try.ntmps11
    go_wp2_with fail
    refine HA.out.mono ?_
    rintro e w1 ⟨rfl, hU, hh⟩
    rw [HR.out]
    have P1 := HP.out.kept (w' := w1) (F' := F) (fun _ _ h => h) (fun g _ _ => by rw [hh])
    have hc0 := cell_blk P1.blk 0 _ rfl
    obtain ⟨g, o, arr, f, rfl, hg, hb, hcs⟩ := P1.cells (by omega)
    obtain ⟨h1, h2, ba, bc, aa, ac, h3, h3b, h4, h4b⟩ := hcs k hk
    have l1 := cell_blk hb _ _ h1
    have l2 := cell_blk hb _ _ h2
    have l3 := cell_blk hb _ _ h3
    have l4 := cell_blk hb _ _ h4
    have HX := Lib.hid h4b
    have HU := Lib.hid hU
    have HP1 := Lib.hid P1
    have HK := Lib.hid hk
    have HN := Lib.hid hn
    clear P1 hU hh hcs hb hg h1 h2 h3 h3b h4 h4b HA HR
    go_wp2_with fail
    refine (rset_any _ F R st ⟨_, _, _, _, _, HP1.out.kept (fun _ _ h => h) (fun g hg _ => Below.heap_alloc _ _ _ hg)⟩ k HK.out { st.L[k] with shows := false, b := [] } none 0 0 ⟨none, 0, rfl, fun _ => ⟨rfl, rfl⟩, Nat.le_refl _, fun h => absurd rfl h⟩ aa _ ac (HX.out.kept (fun _ _ h => h) (fun g hg _ _ => Below.heap_alloc _ _ _ hg)) HN.out).mono ?_
    rintro e w2 ⟨rfl, hS2, hU2⟩
    go_wp2_with fail
    go_ret
    exact RPost.step (HU.out.alloc _) hS2 hU2
end Go.Proofs.Ytajmaebofhkjjaa
