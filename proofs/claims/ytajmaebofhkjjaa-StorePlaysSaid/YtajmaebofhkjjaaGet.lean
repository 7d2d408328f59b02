import Derived.Test.YtajmaebofhkjjaaPut
import Derived.Test.YtajmaebofhkjjaaShown
namespace Go.Proofs.Ytajmaebofhkjjaa
open Go.RowKit Go.Proofs.Dm Go.MapKept

set_option maxRecDepth 100000 in
set_option maxHeartbeats 400000 in
theorem get_any (w : World) (F : Nat → Prop) (B : Nat) (st : St) (hS : IsStore w F B st) (name : ByteArray) (hl : ((kvGet st.shows name).getD []).length ≤ 1048576 * 1048576) :
    Calls Try.prog 23 #[.pointer (some ⟨B, 0, none⟩), .string name] w (GetPost w (kvGet st.shows name)) := by
  obtain ⟨m1, m2, ca, cc, pa, pc, k1, k2, xs, P0⟩ := hS
  obtain ⟨wa, wl, wc, hw1, hwb, hw2⟩ := getD_b P0.rel1 name
  generalize hr : kvGet st.shows name = r at *
  have hc0 := cell_blk P0.blk 0 _ rfl
  have hm := P0.map1
  have HW1 := Lib.hid hw1
  have HW2 := Lib.hid hw2
  have HWB := Lib.hid hwb
  have HR := Lib.hid hr
  generalize hq : r.isSome = q
  have HQ := Lib.hid hq
  rw [hq] at hw2
  have HW2 := Lib.hid hw2
  clear P0 hw1 hw2 hwb hr hq
  go_enter Try.func23, Try.ntmps23
  go_wp2_with (first
    | (at_lookup; refine wpList_lookup_str rfl _ _ rfl Try.underlying44 Try.underlying9 _ zero_b m1 k1 rfl hm name rfl ?_; rw [HW1.out, HW2.out])
    | (go_at_call 34; refine (clone_any _ F tB wa wl wc (r.getD []) HWB.out (by omega)).mono ?_; rintro e w1 ⟨a, c, rfl, hfr, hU⟩))
  go_ret2
  exact ⟨a, c, by rw [HQ.out]; rfl, hfr, hU⟩

set_option maxRecDepth 100000 in
set_option maxHeartbeats 400000 in
theorem delete_any (w : World) (F : Nat → Prop) (B : Nat) (st : St) (hS : IsStore w F B st) (name : ByteArray) (hn : st.chs.length < 1048576 * 1048576) :
    Calls Try.prog 10 #[.pointer (some ⟨B, 0, none⟩), .string name] w fun e w' => e = .returned (.bool (kvGet st.shows name).isSome) ∧
      IsStore w' (Plus F w w') B (if (kvGet st.shows name).isSome then st.set name none else st) ∧ Upd F w w' ∧ KeepB w w' := by
  have hh := has_any w F B st hS name
  generalize hq : (kvGet st.shows name).isSome = q at hh
  have HS := Lib.hid hS
  have HH := Lib.hid hh
  have HQ := Lib.hid hq
  have he : IsB w F tB (.slice none 0 0) [] := ⟨none, 0, rfl, fun _ => ⟨rfl, rfl⟩, Nat.le_refl _, fun h => absurd rfl h⟩
  have HE := Lib.hid he
  clear hh hq he hS
  cases q with
  | false =>
    go_enter Try.func10, Try.ntmps10
    go_wp2_with (go_at_call 29; refine HH.out.mono ?_; rintro e w1 ⟨rfl, rfl⟩)
    go_ret
    exact ⟨rfl, HS.out.kept (fun _ _ h => .inl h) (fun _ _ _ => rfl), Upd.refl _ _, KeepB.refl _⟩
  | true =>
    go_enter Try.func10, Try.ntmps10
    go_wp2_with (first
      | (go_at_call 29; refine HH.out.mono ?_; rintro e w1 ⟨rfl, rfl⟩)
      | (go_at_call 26; refine (set_any _ F B st HS.out name none 0 0 [] false HE.out hn).mono ?_; rintro e w1 ⟨rfl, hS1, hU, hK⟩))
    go_ret
    exact ⟨rfl, hS1, hU, hK⟩
end Go.Proofs.Ytajmaebofhkjjaa
