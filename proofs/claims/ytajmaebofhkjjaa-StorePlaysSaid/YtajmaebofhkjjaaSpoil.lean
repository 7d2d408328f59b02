import Derived.Test.YtajmaebofhkjjaaFlip
namespace Go.Proofs.Ytajmaebofhkjjaa
open Go.RowKit Go.Proofs.Dm Go.MapKept

theorem xor_v (u : UInt8) : ∃ x : UInt8, Value.int .u8 (bits .xor .u8 u.toNat 85) = bv x := by
  have h0 := bits_lo_u8 .xor u.toNat 85
  have h1 := bits_hi_u8 .xor u.toNat 85
  refine ⟨UInt8.ofNat (bits .xor .u8 u.toNat 85).toNat, ?_⟩
  unfold bv
  generalize bits .xor .u8 u.toNat 85 = z at *
  congr 1
  simp; omega

/-- Bytes that may be written, in the block g. -/
def SpoilMid (w wr : World) (g o n : Nat) : Prop := (∃ cur, wr.heap[g]? = some (.cells cur 5 (0, 0)) ∧ ∀ i, i < n → ∃ x : UInt8, cur[o + i]? = some (bv x)) ∧ Upd (fun b => b = g) w wr

set_option maxRecDepth 100000 in
set_option maxHeartbeats 1000000 in
theorem spoil_some (w : World) (g o n c : Nat) (hn : n ≤ 1048576 * 1048576) (hb : SpoilMid w w g o n) :
    Calls Try.prog 21 #[.slice (some ⟨g, o, none⟩) n c] w fun e w' => e = .returned (.tuple #[]) ∧ SpoilMid w w' g o n := by
  have HB := Lib.hid hb
  clear hb
  go_enter Try.func21, Try.ntmps21
  go_wp2_with fail
  go_loopw [2] (fun i wr => ∃ k : Nat, k ≤ n ∧ i = .int .i64 k ∧ SpoilMid w wr g o n) (fun i _ => n - (intOf i).toNat)
  case atStart => exact ⟨0, Nat.zero_le _, rfl, HB.out⟩
  case round =>
    obtain ⟨k, hk, rfl, hM⟩ := hrel
    have HM := Lib.hid hM
    by_cases hlt : k < n
    · obtain ⟨⟨cur, hbk, hcu⟩, hU⟩ := hM
      obtain ⟨x, hx⟩ := hcu k hlt
      have h1 := cell_blk hbk _ _ hx
      have h2 := free_blk hbk (o + k)
      simp only [bv] at h1
      obtain ⟨y, hy⟩ := xor_v x
      have hM' : SpoilMid w (wr.setCell ⟨g, o + k, none⟩ (bv y)) g o n := by
        refine ⟨⟨_, blk_setCell hbk _ _, fun i hi => ?_⟩, hU.setCell (fun _ => rfl) _⟩
        rw [Array.getElem?_setIfInBounds]
        have hs := (Array.getElem?_eq_some_iff.1 hx).1
        by_cases he : o + k = o + i
        · rw [if_pos he, if_pos hs]; exact ⟨y, rfl⟩
        · rw [if_neg he]; exact hcu i hi
      rw [← hy] at hM'
      have HM' := Lib.hid hM'
      clear hM' hbk hcu hU hx hy
      have hk0 : (0 : Int) ≤ (k : Int) := by omega
      have hk1 : (k : Int) < (n : Int) := by omega
      go_wp2_with fail
      go_roundw
      case rel => exact ⟨k + 1, by omega, by go_num, HM'.out⟩
      case measure => simp [intOf]; omega
    · go_wp2_with fail
      go_end0
      exact ⟨rfl, HM.out⟩
end Go.Proofs.Ytajmaebofhkjjaa
