import Derived.Test.YtajmaebofhkjjaaOwn
import Derived.Test.YtajmaebofhkjjaaSame
namespace Go.Proofs.Ytajmaebofhkjjaa
open Go.RowKit Go.Proofs.Dm Go.MapKept
attribute [local go_sem ↓] Go.wp_at_zero Go.wp_at_succ

theorem OwnLies.isB {w : World} {g cap : Nat} {b : List UInt8} {fill : UInt8} {k : Nat} (h : OwnLies w g cap b fill k) : IsB w (fun x => x = g) tB (.slice (some ⟨g, 0, none⟩) b.length cap) b := by
  obtain ⟨cur, h1, h2, h3, h4, h5⟩ := h
  refine ⟨_, _, rfl, (fun h => by cases h), by omega, fun _ => ⟨g, 0, _, _, _, rfl, rfl, rfl, h1, fun i u hu => ?_⟩⟩
  rw [List.getElem?_map] at hu
  by_cases hi : i < b.length
  · rw [List.getElem?_eq_getElem hi] at hu
    rw [Nat.zero_add, h4 i hi]; exact hu
  · rw [List.getElem?_eq_none (by omega)] at hu; cases hu

set_option maxRecDepth 100000 in
set_option maxHeartbeats 1000000 in
theorem kept_any (w : World) (F2 : Nat → Prop) (T2 : TypeId → Prop) (g cap : Nat) (a2 : Option Addr) (n2 c2 : Nat) (b : List UInt8) (fill : UInt8) (h1 : OwnLies w g cap b fill 3) (h2 : IsB w F2 T2 (.slice a2 n2 c2) b) (hl : b.length ≤ 1048576 * 1048576) :
    Calls Try.prog 20 #[.slice (some ⟨g, 0, none⟩) b.length cap, .slice a2 n2 c2, .int .u8 fill.toNat] w fun e w' => e = .returned (.bool true) ∧ SameD w w' := by
  obtain rfl : n2 = b.length := by obtain ⟨_, _, h, _⟩ := h2; cases h; rfl
  have HA := Lib.hid (plain_b w _ F2 tB T2 _ a2 _ b.length cap c2 b h1.isB h2 hl)
  have hcap : b.length + 3 ≤ cap := by obtain ⟨_, _, _, h, _⟩ := h1; exact h
  have H1 := Lib.hid h1
  have hci : ¬ ((cap : Int) < (b.length : Int) + 3) := by omega
  clear h1 h2
  go_enter Try.func20, Try.ntmps20
  go_wp2_with fail
  refine HA.out.mono ?_
  rintro e w1 ⟨rfl, hS⟩
  have HS := Lib.hid hS
  clear hS HA
  go_wp2_with fail
  go_loopw [8] (fun i wr => ∃ k : Nat, k ≤ 3 ∧ i = .int .i64 ((b.length + k : Nat) : Int) ∧ SameD w wr) (fun i _ => b.length + 3 - (intOf i).toNat)
  case atStart => exact ⟨0, by omega, by simp, HS.out⟩
  case round =>
    obtain ⟨k, hk, rfl, hSr⟩ := hrel
    have HSR := Lib.hid hSr
    by_cases hlt : k < 3
    · obtain ⟨cur, h1, h2, h3, h4, h5⟩ := H1.out
      have l1 := cell_blk (hSr.blk h1) _ _ (h5 k hlt)
      simp only [bv] at l1
      have hk0 : (0 : Int) ≤ ((b.length + k : Nat) : Int) := by omega
      have hk1 : ((b.length + k : Nat) : Int) < (b.length : Int) + 3 := by omega
      clear h1 h2 h3 h4 h5 hSr
      go_wp2_with fail
      go_roundw
      case rel => exact ⟨k + 1, by omega, by go_num, HSR.out⟩
      case measure => simp [intOf]; omega
    · obtain rfl : k = 3 := by omega
      clear hSr
      go_wp2_with fail
      go_ret
      exact ⟨rfl, HSR.out⟩
end Go.Proofs.Ytajmaebofhkjjaa
