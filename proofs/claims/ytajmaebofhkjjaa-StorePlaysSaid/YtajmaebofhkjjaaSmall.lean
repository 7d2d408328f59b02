import Derived.Test.YtajmaebofhkjjaaSet
namespace Go.Proofs.Ytajmaebofhkjjaa
open Go.RowKit Go.Proofs.Dm Go.MapKept

set_option maxHeartbeats 400000 in
theorem writes_any (w : World) (F : Nat → Prop) (B : Nat) (st : St) (hS : IsStore w F B st) :
    Calls Try.prog 24 #[.pointer (some ⟨B, 0, none⟩)] w fun e w' => e = .returned (.int .i64 st.puts.length) ∧ w = w' := by
  obtain ⟨m1, m2, ca, cc, pa, pc, k1, k2, xs, P0⟩ := hS
  have hc3 := cell_blk P0.blk 3 _ rfl
  clear P0
  go_enter Try.func24, Try.ntmps24
  go_wp2
  go_ret
  exact ⟨rfl, rfl⟩

set_option maxHeartbeats 400000 in
theorem has_any (w : World) (F : Nat → Prop) (B : Nat) (st : St) (hS : IsStore w F B st) (name : ByteArray) :
    Calls Try.prog 29 #[.pointer (some ⟨B, 0, none⟩), .string name] w fun e w' => e = .returned (.bool (kvGet st.shows name).isSome) ∧ w = w' := by
  obtain ⟨m1, m2, ca, cc, pa, pc, k1, k2, xs, P0⟩ := hS
  obtain ⟨wa, wl, wc, hw1, hwb, hw2⟩ := getD_b P0.rel1 name
  generalize hq : (kvGet st.shows name).isSome = q at hw2
  have hc0 := cell_blk P0.blk 0 _ rfl
  have hm := P0.map1
  have HW1 := Lib.hid hw1
  have HW2 := Lib.hid hw2
  have HQ := Lib.hid hq
  clear P0 hw1 hw2 hq hwb
  go_enter Try.func29, Try.ntmps29
  go_wp2_with (at_lookup; refine wpList_lookup_str rfl _ _ rfl Try.underlying44 Try.underlying9 _ zero_b m1 k1 rfl hm name rfl ?_; rw [HW1.out, HW2.out])
  go_ret
  exact ⟨rfl, rfl⟩

theorem getD_bb {w : World} {F : Nat → Prop} {k : List (ByteArray × Value)} {r : List (ByteArray × List (List UInt8))} (h : KRel (IsBB w F) k r) (x : ByteArray) :
    ∃ wa wc, (kvGet k x).getD (.slice none 0 0) = .slice wa ((kvGet r x).getD []).length wc ∧ IsBB w F (.slice wa ((kvGet r x).getD []).length wc) ((kvGet r x).getD []) ∧ (kvGet k x).isSome = (kvGet r x).isSome := by
  cases hx : kvGet r x with
  | none => rw [h.get_none x hx]; exact ⟨none, 0, rfl, ⟨[], ⟨none, 0, rfl, fun _ => ⟨rfl, rfl⟩, Nat.le_refl _, fun h => absurd rfl h⟩, trivial⟩, rfl⟩
  | some b =>
    obtain ⟨a, ha, hb⟩ := h.get_some x b hx
    obtain ⟨vs, ⟨a', c', rfl, h2, h3, h4⟩, hb'⟩ := hb
    rw [ha]
    exact ⟨a', c', rfl, ⟨vs, ⟨a', c', rfl, h2, h3, h4⟩, hb'⟩, rfl⟩

theorem zero_bb (w : World) : (zeroValue 55).run Try.prog w = .ok (.slice none 0 0) w := by kernel_rfl

theorem _root_.Go.Proofs.Dm.wpList_lookup1_str {P : Program} {ops : Array Oper} {Q : Exit → Act → World → Prop} {a : Act} {w : World} {rest : List Oper} {o : Oper} {T K E : TypeId} (hg : o.guard = none) (m x : Operand) (hop : o.op = Op.lookup T m x false)
    (hT : P.underlying T = some (.map K E)) (hK : P.underlying K = some .string) (z : Value) (hz : ∀ w, (zeroValue E).run P w = .ok z w) (b : Nat) (kvs : List (ByteArray × Value)) (hm : a.eval m = .map (some b)) (h : IsMap w b kvs)
    (key : ByteArray) (hx : a.eval x = .string key)
    (hK' : wpList P ops Q rest (a.put o.dst ((kvGet kvs key).getD z)) w) :
    wpList P ops Q (o :: rest) a w := by
  refine wpList_plain hg fun K' hK'' => ?_
  have hrun := lookup1_str hT hK hz h key
  unfold Oper.wp
  simp [execOp, hop, hm, hx, hrun, Result.andThen]
  exact hK'' _ _ hK'

set_option maxHeartbeats 400000 in
theorem versions_any (w : World) (F : Nat → Prop) (B : Nat) (st : St) (hS : IsStore w F B st) (name : ByteArray) :
    Calls Try.prog 25 #[.pointer (some ⟨B, 0, none⟩), .string name] w fun e w' => e = .returned (.int .i64 ((kvGet st.vers name).getD []).length) ∧ w = w' := by
  obtain ⟨m1, m2, ca, cc, pa, pc, k1, k2, xs, P0⟩ := hS
  obtain ⟨wa, wc, hw1, hwb, hw2⟩ := getD_bb P0.rel2 name
  generalize hl : ((kvGet st.vers name).getD []).length = l at hw1
  have hc1 := cell_blk P0.blk 1 _ rfl
  have hm := P0.map2
  have HW1 := Lib.hid hw1
  have HL := Lib.hid hl
  clear P0 hw1 hw2 hwb hl
  go_enter Try.func25, Try.ntmps25
  go_wp2_with (at_lookup; refine wpList_lookup1_str rfl _ _ rfl Try.underlying45 Try.underlying9 _ zero_bb m2 k2 rfl hm name rfl ?_; rw [HW1.out])
  go_ret
  exact ⟨rfl, rfl⟩
end Go.Proofs.Ytajmaebofhkjjaa
