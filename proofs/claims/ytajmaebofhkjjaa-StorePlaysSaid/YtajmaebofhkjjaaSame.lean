import Derived.Test.YtajmaebofhkjjaaShown
import Derived.Test.YtajmaebofhkjjaaRnames
import Derived.Deep.RegionHeld3
namespace Go.Proofs.Ytajmaebofhkjjaa
open Go.RowKit Go.Proofs.Dm Go.MapKept
attribute [local go_sem ↓] Go.wp_at_zero Go.wp_at_succ

theorem eqb_any (w : World) (x : UInt8) : Calls Try.prog 58 #[.int .u8 x.toNat, .int .u8 x.toNat] w fun e w' => e = .returned (.bool true) ∧ w = w' := by
  go_enter Try.func58, Try.ntmps58
  go_wp2_with fail
  go_ret
  exact ⟨by simp, rfl⟩
theorem eqs_any (w : World) (x : ByteArray) : Calls Try.prog 62 #[.string x, .string x] w fun e w' => e = .returned (.bool true) ∧ w = w' := by
  go_enter Try.func62, Try.ntmps62
  go_wp2_with fail
  go_ret
  exact ⟨by simp, rfl⟩

def SameD (w wr : World) : Prop := Upd (fun _ => False) w wr ∧ wr.heap = w.heap
theorem SameD.refl (w : World) : SameD w w := ⟨Upd.refl _ _, rfl⟩
theorem SameD.drew {w wr : World} (h : SameD w wr) : SameD w wr.drew := ⟨h.1.drew, h.2⟩
theorem SameD.blk {w wr : World} (h : SameD w wr) {b : Nat} {o : Obj} (hb : w.heap[b]? = some o) : wr.heap[b]? = some o := by rw [h.2]; exact hb

set_option maxRecDepth 100000 in
set_option maxHeartbeats 1000000 in
theorem same_b (w : World) (F1 F2 : Nat → Prop) (T1 T2 : TypeId → Prop) (a1 a2 : Option Addr) (n1 n2 c1 c2 : Nat) (b : List UInt8) (h1 : IsB w F1 T1 (.slice a1 n1 c1) b) (h2 : IsB w F2 T2 (.slice a2 n2 c2) b) (hl : b.length ≤ 1048576 * 1048576) :
    Calls Try.prog 57 #[.slice a1 n1 c1, .slice a2 n2 c2, .func (.func 58) #[] #[]] w fun e w' => e = .returned (.bool true) ∧ SameD w w' := by
  obtain ⟨_, _, e1, _, _, r1⟩ := h1
  obtain ⟨_, _, e2, _, _, r2⟩ := h2
  cases e1; cases e2
  rcases Nat.eq_zero_or_pos b.length with h0 | hpos
  · rw [h0]
    go_enter Try.func57, Try.ntmps57
    go_wp2_with fail
    refine wp_loop_rounds 1 ?_
    rw [rounds_succ]
    go_wp2_with fail
    go_ret
    exact ⟨rfl, SameD.refl _⟩
  · have hne : b.map bv ≠ [] := by intro h; rw [List.map_eq_nil_iff] at h; rw [h] at hpos; simp at hpos
    obtain ⟨g1, o1, arr1, t1, f1, rfl, _, _, hb1, hc1⟩ := r1 hne
    obtain ⟨g2, o2, arr2, t2, f2, rfl, _, _, hb2, hc2⟩ := r2 hne
    have HB1 := Lib.hid hb1
    have HB2 := Lib.hid hb2
    have HC1 := Lib.hid hc1
    have HC2 := Lib.hid hc2
    clear hb1 hb2 hc1 hc2 hne
    go_enter Try.func57, Try.ntmps57
    go_wp2_with fail
    go_loopw [7] (fun i wr => ∃ k : Nat, k ≤ b.length ∧ i = .int .i64 k ∧ SameD w wr) (fun i _ => b.length - (intOf i).toNat)
    case atStart => exact ⟨0, Nat.zero_le _, rfl, SameD.refl _⟩
    case round =>
      obtain ⟨k, hk, rfl, hS⟩ := hrel
      have HS := Lib.hid hS
      by_cases hlt : k < b.length
      · have hv : (b.map bv)[k]? = some (bv b[k]) := by simp [List.getElem?_eq_getElem hlt]
        have l1 := cell_blk (hS.blk HB1.out) _ _ (HC1.out k _ hv)
        have l2 := cell_blk (hS.blk HB2.out) _ _ (HC2.out k _ hv)
        have hk0 : (0 : Int) ≤ (k : Int) := by omega
        have hk1 : (k : Int) < ((b.length : Nat) : Int) := by omega
        generalize b[k] = x at *
        simp only [bv] at l1 l2
        clear hv hS
        go_wp2_with fail
        go_region_held3 (fun w' => w'.cell? ⟨g1, o1 + k, none⟩ = some (.int .u8 x.toNat) ∧ w'.cell? ⟨g2, o2 + k, none⟩ = some (.int .u8 x.toNat))
          (first
            | exact ⟨l1, l2⟩
            | go_keep)
          (first | (go_at_call 58; refine (eqb_any _ x).mono ?_; rintro e w5 ⟨rfl, rfl⟩))
        all_goals go_wp2_with fail
        all_goals go_roundw
        case rel => exact ⟨k + 1, by omega, by go_num, HS.out.drew⟩
        case measure => simp [intOf]; omega
      · clear hS
        go_wp2_with fail
        go_ret
        exact ⟨rfl, HS.out⟩

theorem plain_b (w : World) (F1 F2 : Nat → Prop) (T1 T2 : TypeId → Prop) (a1 a2 : Option Addr) (n1 n2 c1 c2 : Nat) (b : List UInt8) (h1 : IsB w F1 T1 (.slice a1 n1 c1) b) (h2 : IsB w F2 T2 (.slice a2 n2 c2) b) (hl : b.length ≤ 1048576 * 1048576) :
    Calls Try.prog 42 #[.slice a1 n1 c1, .slice a2 n2 c2] w fun e w' => e = .returned (.bool true) ∧ SameD w w' := by
  have HA := Lib.hid (same_b w F1 F2 T1 T2 a1 a2 n1 n2 c1 c2 b h1 h2 hl)
  clear h1 h2
  go_enter Try.func42, Try.ntmps42
  go_wp2_with fail
  refine HA.out.mono ?_
  rintro e w1 ⟨rfl, hS⟩
  have HS := Lib.hid hS
  clear hS
  go_wp2_with fail
  go_ret
  exact ⟨rfl, HS.out⟩
/-- A slice of strings that reads as l. -/
def IsS (w : World) (F : Nat → Prop) (T : TypeId → Prop) (v : Value) (l : List ByteArray) : Prop := IsRow w F T v l.length (l.map sv)

set_option maxRecDepth 100000 in
set_option maxHeartbeats 1000000 in
theorem same_s (w : World) (F1 F2 : Nat → Prop) (T1 T2 : TypeId → Prop) (a1 a2 : Option Addr) (n1 n2 c1 c2 : Nat) (b : List ByteArray) (h1 : IsS w F1 T1 (.slice a1 n1 c1) b) (h2 : IsS w F2 T2 (.slice a2 n2 c2) b) (hl : b.length ≤ 1048576 * 1048576) :
    Calls Try.prog 61 #[.slice a1 n1 c1, .slice a2 n2 c2, .func (.func 62) #[] #[]] w fun e w' => e = .returned (.bool true) ∧ SameD w w' := by
  obtain ⟨_, _, e1, _, _, r1⟩ := h1
  obtain ⟨_, _, e2, _, _, r2⟩ := h2
  cases e1; cases e2
  rcases Nat.eq_zero_or_pos b.length with h0 | hpos
  · rw [h0]
    go_enter Try.func61, Try.ntmps61
    go_wp2_with fail
    refine wp_loop_rounds 1 ?_
    rw [rounds_succ]
    go_wp2_with fail
    go_ret
    exact ⟨rfl, SameD.refl _⟩
  · have hne : b.map sv ≠ [] := by intro h; rw [List.map_eq_nil_iff] at h; rw [h] at hpos; simp at hpos
    obtain ⟨g1, o1, arr1, t1, f1, rfl, _, _, hb1, hc1⟩ := r1 hne
    obtain ⟨g2, o2, arr2, t2, f2, rfl, _, _, hb2, hc2⟩ := r2 hne
    have HB1 := Lib.hid hb1
    have HB2 := Lib.hid hb2
    have HC1 := Lib.hid hc1
    have HC2 := Lib.hid hc2
    clear hb1 hb2 hc1 hc2 hne
    go_enter Try.func61, Try.ntmps61
    go_wp2_with fail
    go_loopw [7] (fun i wr => ∃ k : Nat, k ≤ b.length ∧ i = .int .i64 k ∧ SameD w wr) (fun i _ => b.length - (intOf i).toNat)
    case atStart => exact ⟨0, Nat.zero_le _, rfl, SameD.refl _⟩
    case round =>
      obtain ⟨k, hk, rfl, hS⟩ := hrel
      have HS := Lib.hid hS
      by_cases hlt : k < b.length
      · have hv : (b.map sv)[k]? = some (sv b[k]) := by simp [List.getElem?_eq_getElem hlt]
        have l1 := cell_blk (hS.blk HB1.out) _ _ (HC1.out k _ hv)
        have l2 := cell_blk (hS.blk HB2.out) _ _ (HC2.out k _ hv)
        have hk0 : (0 : Int) ≤ (k : Int) := by omega
        have hk1 : (k : Int) < ((b.length : Nat) : Int) := by omega
        generalize b[k] = x at *
        simp only [sv] at l1 l2
        clear hv hS
        go_wp2_with fail
        go_region_held3 (fun w' => w'.cell? ⟨g1, o1 + k, none⟩ = some (.string x) ∧ w'.cell? ⟨g2, o2 + k, none⟩ = some (.string x))
          (first
            | exact ⟨l1, l2⟩
            | go_keep)
          (first | (go_at_call 62; refine (eqs_any _ x).mono ?_; rintro e w5 ⟨rfl, rfl⟩))
        all_goals go_wp2_with fail
        all_goals go_roundw
        case rel => exact ⟨k + 1, by omega, by go_num, HS.out.drew⟩
        case measure => simp [intOf]; omega
      · clear hS
        go_wp2_with fail
        go_ret
        exact ⟨rfl, HS.out⟩

theorem plain_s (w : World) (F1 F2 : Nat → Prop) (T1 T2 : TypeId → Prop) (a1 a2 : Option Addr) (n1 n2 c1 c2 : Nat) (b : List ByteArray) (h1 : IsS w F1 T1 (.slice a1 n1 c1) b) (h2 : IsS w F2 T2 (.slice a2 n2 c2) b) (hl : b.length ≤ 1048576 * 1048576) :
    Calls Try.prog 45 #[.slice a1 n1 c1, .slice a2 n2 c2] w fun e w' => e = .returned (.bool true) ∧ SameD w w' := by
  have HA := Lib.hid (same_s w F1 F2 T1 T2 a1 a2 n1 n2 c1 c2 b h1 h2 hl)
  clear h1 h2
  go_enter Try.func45, Try.ntmps45
  go_wp2_with fail
  refine HA.out.mono ?_
  rintro e w1 ⟨rfl, hS⟩
  have HS := Lib.hid hS
  clear hS
  go_wp2_with fail
  go_ret
  exact ⟨rfl, HS.out⟩
end Go.Proofs.Ytajmaebofhkjjaa
