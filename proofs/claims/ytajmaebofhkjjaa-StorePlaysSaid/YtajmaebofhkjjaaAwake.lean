import Derived.Test.YtajmaebofhkjjaaGet
import Derived.Test.YtajmaebofhkjjaaRoll
namespace Go.Proofs.Ytajmaebofhkjjaa
open Go.RowKit Go.Proofs.Dm Go.MapKept

set_option maxRecDepth 100000 in
set_option maxHeartbeats 1000000 in
theorem awake_any (w : World) : Calls Try.prog 5 #[] w fun e w' => e = .returned (.bool true) ∧ Upd (fun _ => False) w w' := by
  go_enter Try.func5, Try.ntmps5
  go_wp2_with fail
  refine (new_any w).mono ?_
  rintro e w1 ⟨B, rfl, hS, hU1, hB⟩
  have HS := Lib.hid hS
  have HU1 := Lib.hid hU1
  clear hS hU1
  go_wp2_with fail
  refine (put_any _ _ B _ (HS.out.kept (fun _ _ h => h) (fun b hb _ => Below.heap_alloc _ _ _ hb)) ⟨#[97]⟩ (some ⟨w1.heap.size, 0, none⟩) 1 1 [1] (fun _ => True) (fun _ => True)
    ⟨_, 1, rfl, (fun h => by cases h), Nat.le_refl _, fun _ => ⟨w1.heap.size, 0, _, _, _, rfl, trivial, trivial, heap_alloc_new _ _, fun i u hu => by
      cases i with
      | zero => simpa [bv] using hu
      | succ i => simp at hu⟩⟩ (by decide) (by decide) (by decide) (by decide)).mono ?_
  rintro e w2 ⟨rfl, hS2, hU2, _⟩
  have HS2 := Lib.hid hS2
  have HU2 := Lib.hid hU2
  clear hS2 hU2
  go_wp2_with fail
  refine (get_any _ _ B _ HS2.out ⟨#[97]⟩ (by decide)).mono ?_
  rintro e w3 hG
  have hk : kvGet (St.new.put ⟨#[97]⟩ [1]).shows ⟨#[97]⟩ = some [1] := by rfl
  rw [hk] at hG
  obtain ⟨a, c, rfl, _, hU3⟩ := hG
  have hS3 := HS2.out.kept (w' := w3) (fun _ _ h => h) (fun b hb _ => hU3.block b hb (fun h => h))
  have HS3 := Lib.hid hS3
  have HU3 := Lib.hid hU3
  have hp : (St.new.put ⟨#[97]⟩ [1]).puts.length = 1 := by rfl
  clear hS3 hU3 hk
  go_wp2_with fail
  refine (writes_any _ _ B _ HS3.out).mono ?_
  rintro e w4 ⟨rfl, rfl⟩
  rw [hp]
  go_wp2_with fail
  go_ret
  refine ⟨by simp, ((HU1.out.alloc _).trans HU2.out (fun i hi h => h.elim id (fun h => by omega))).trans HU3.out (fun _ _ h => h)⟩
end Go.Proofs.Ytajmaebofhkjjaa
