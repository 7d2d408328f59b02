import Derived.Test.YtajmaebofhkjjaaChecked
import Derived.Test.YtajmaebofhkjjaaBase
namespace Go.Proofs.Ytajmaebofhkjjaa
open Go.RowKit Go.Proofs.Dm Go.MapKept
set_option maxRecDepth 100000 in
set_option maxHeartbeats 400000 in
theorem clip_any (w : World) (a : Option Addr) (n c : Nat) (h : n ≤ c) (hn : a = none → c = 0 ∧ n = 0) :
    Calls Try.prog 41 #[.slice a n c] w fun e w' => e = .returned (.slice a n n) ∧ w = w' := by
  cases a with
  | none =>
    obtain ⟨rfl, rfl⟩ := hn rfl
    clear hn h
    go_enter Try.func41, Try.ntmps41
    go_wp2
    go_ret
    exact ⟨rfl, rfl⟩
  | some ad =>
    clear hn
    go_enter Try.func41, Try.ntmps41
    go_wp2
    go_ret
    exact ⟨rfl, rfl⟩
end Go.Proofs.Ytajmaebofhkjjaa
