import Derived.Test.YtajmaebofhkjjaaSame
import Derived.Laws.BytesArg
namespace Go.Proofs.Ytajmaebofhkjjaa
open Go.RowKit Go.Proofs.Dm Go.MapKept

def bstr (b : List UInt8) : ByteArray := strOfNums (b.map fun u => (u.toNat : Int))

theorem conv_b {w : World} {F : Nat → Prop} {T : TypeId → Prop} {a : Option Addr} {n c : Nat} {b : List UInt8} (h : IsB w F T (.slice a n c) b) : (convert 31 9 (.slice a n c)).run Try.prog w = .ok (.string (bstr b)) w := by
  obtain ⟨_, _, he, hnil, _, hr⟩ := h
  cases he
  rcases Nat.eq_zero_or_pos b.length with h0 | hpos
  · obtain rfl : b = [] := List.eq_nil_of_length_eq_zero h0
    rw [run_convert_bytes_string w _ _ 5 _ _ _ Try.underlying31 Try.underlying5 Try.underlying9]
    cases a <;> simp [Conv.bytesToString, loadCells]
    all_goals rfl
  · have hne : b.map bv ≠ [] := by intro h; rw [List.map_eq_nil_iff] at h; rw [h] at hpos; simp at hpos
    obtain ⟨g, o, arr, t, f, rfl, _, _, hb, hc⟩ := hr hne
    refine run_convert_bytes_arg w 31 5 Try.underlying31 Try.underlying5 g o b.length c (b.map fun u => (u.toNat : Int)) (by simp) (fun i hi => ?_) 9 Try.underlying9
    refine cell_blk hb _ _ (hc i _ ?_)
    simp [List.getD, List.getElem?_eq_getElem hi, bv]

set_option maxRecDepth 100000 in
set_option maxHeartbeats 1000000 in
theorem bytes_eq (w : World) (F1 F2 : Nat → Prop) (T1 T2 : TypeId → Prop) (a1 a2 : Option Addr) (n1 n2 c1 c2 : Nat) (b : List UInt8) (h1 : IsB w F1 T1 (.slice a1 n1 c1) b) (h2 : IsB w F2 T2 (.slice a2 n2 c2) b) :
    Calls Try.prog 50 #[.slice a1 n1 c1, .slice a2 n2 c2] w fun e w' => e = .returned (.bool true) ∧ w = w' := by
  have q1 := conv_b h1
  have q2 := conv_b h2
  clear h1 h2
  go_enter Try.func50, Try.ntmps50
  go_wp2_with fail
  go_ret
  exact ⟨by simp, rfl⟩
end Go.Proofs.Ytajmaebofhkjjaa
