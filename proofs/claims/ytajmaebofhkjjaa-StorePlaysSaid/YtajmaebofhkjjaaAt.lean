import Derived.Test.YtajmaebofhkjjaaRef
import Derived.BigQuiet
import Derived.Deep.QuietTactic
namespace Go.Proofs.Ytajmaebofhkjjaa
open Go.RowKit Go.Proofs.Dm Go.MapKept
attribute [local go_sem ↓] Go.wp_at_zero Go.wp_at_succ

def AtPost (w : World) (st : RSt) (name : ByteArray) (e : Ending) (w' : World) : Prop :=
  e = .returned (.tuple #[.int .i64 (ratK st.L name : Nat), .bool (ratF st.L name)]) ∧ Upd (fun _ => False) w w' ∧ w'.heap = w.heap

theorem run_less (w : World) (a b : ByteArray) : (binOp .lss 9 (.string a) (.string b)).run Try.prog w = .ok (.bool (nl a b)) w := by
  simp [binOp, Op.stringOp, nl]

set_option maxRecDepth 100000 in
set_option maxHeartbeats 2000000 in
theorem at_any (w : World) (F : Nat → Prop) (R : Nat) (st : RSt) (hS : IsRef w F R st) (name : ByteArray) (hn : st.L.length ≤ 1048576 * 1048576) :
    Calls Try.prog 27 #[.pointer (some ⟨R, 0, none⟩), .string name] w (AtPost w st name) := by
  obtain ⟨la, lc, oa, oc, ovs, P0⟩ := hS
  have hc0 := cell_blk P0.blk 0 _ rfl
  have hless := run_less
  have HP := Lib.hid P0
  have hKle := ratK_le st.L name
  generalize hK : ratK st.L name = K at hKle
  have HK := Lib.hid hK
  generalize hL : st.L.length = n at *
  have HL := Lib.hid hL
  rcases Nat.eq_zero_or_pos n with rfl | hpos
  · clear P0 hK hL
    go_enter Try.func27, Try.ntmps27
    go_wp2_with fail
    refine wp_loop_rounds 1 ?_
    rw [rounds_succ]
    go_wp2_with fail
    go_quiet (fail)
    go_wp2_with fail
    go_ret2
    have h0 : st.L = [] := List.eq_nil_of_length_eq_zero HL.out
    exact ⟨by rw [h0]; rfl, ⟨rfl, rfl, rfl, Nat.le_refl _, fun _ _ _ => rfl⟩, rfl⟩
  · obtain ⟨g, o, arr, f, rfl, hg, hb, hcs⟩ := P0.cells (by omega)
    clear P0 hK hL
    have HCS := Lib.hid hcs
    have HB := Lib.hid hb
    clear hcs hb
    go_enter Try.func27, Try.ntmps27
    go_wp2_with fail
    go_loop [6] (fun i => ∃ k : Nat, k ≤ K ∧ i = .int .i64 k) (fun i => K - (intOf i).toNat)
    case atStart => exact ⟨0, Nat.zero_le _, rfl⟩
    case round =>
      obtain ⟨k, hk, rfl⟩ := hrel
      by_cases hlt : k < K
      · have hkn : k < n := by omega
        have hkL : k < st.L.length := by rw [HL.out]; exact hkn
        have hcell := cell_blk HB.out (o + k * 4) _ (HCS.out k hkL).1
        have hq : Op.bytesLess st.L[k].name.toList name.toList = true := ratK_lt st.L name k (by rw [HK.out]; exact hlt) hkL
        generalize st.L[k].name = x at *
        go_wp2_with fail
        go_round
        case rel => exact ⟨k + 1, by omega, by go_num⟩
        case measure => simp [intOf]; omega
      · obtain rfl : k = K := by omega
        by_cases hkn : k < n
        · have hkL : k < st.L.length := by rw [HL.out]; exact hkn
          have hcell := cell_blk HB.out (o + k * 4) _ (HCS.out k hkL).1
          have hq : Op.bytesLess st.L[k].name.toList name.toList = false := by
            have := ratK_at st.L name (by rw [HK.out]; exact hkL)
            simp only [HK.out] at this
            exact this
          have hF : ratF st.L name = (st.L[k].name.toList == name.toList) := by simp only [ratF, HK.out, List.getElem?_eq_getElem hkL]
          have HF := Lib.hid hF
          clear hF
          generalize st.L[k].name = x at *
          go_wp2_with fail
          have hdk : decide (k < n) = true := by simpa using hkn
          go_quiet (fail)
          go_wp2_with fail
          go_ret2
          exact ⟨by rw [HF.out, HK.out]; rfl, ⟨rfl, rfl, rfl, Nat.le_refl _, fun _ _ _ => rfl⟩, rfl⟩
        · go_wp2_with fail
          have hdk : decide (k < n) = false := by simpa using hkn
          go_quiet (fail)
          go_wp2_with fail
          go_ret2
          have hF : ratF st.L name = false := by
            have : st.L[k]? = none := List.getElem?_eq_none (by rw [HL.out]; omega)
            simp only [ratF, HK.out, this]
          exact ⟨by rw [hF, HK.out]; rfl, ⟨rfl, rfl, rfl, Nat.le_refl _, fun _ _ _ => rfl⟩, rfl⟩
end Go.Proofs.Ytajmaebofhkjjaa
