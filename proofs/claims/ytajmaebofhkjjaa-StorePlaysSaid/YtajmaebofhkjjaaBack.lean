import Derived.Test.YtajmaebofhkjjaaSt
import Derived.RangeFuncNested
import Derived.RangeFuncBound
import Derived.RangeFuncCalls
import Derived.RangeFuncLeaves
import Derived.Shelf.Abstract
import Derived.Shelf.RegionOpen
import Derived.OwnWalkIn
import Derived.TacticsInMore
import Derived.LoopNIn
import Derived.LoopIn
namespace Go.Proofs.Ytajmaebofhkjjaa
open Go.RowKit Go.Proofs.Dm Go.MapKept Go.Shelf
attribute [local go_sem] Oper.semAt_some

/-- A change as it lies. -/
structure ChV where
  name : ByteArray
  a : Option Addr
  n : Nat
  c : Nat
  is : Bool
def chvEnc (x : Nat × ChV) : Array Value := #[.int .i64 (x.1 : Int), .agg #[.string x.2.name, .slice x.2.a x.2.n x.2.c, .bool x.2.is]]
/-- What a round keeps: what lay below n₀, and the box Bs. -/
def KpB (n₀ Bs : Nat) (W W' : World) : Prop := Below n₀ W W' ∧ (Bs < W.heap.size → W'.heap[Bs]? = W.heap[Bs]?)
theorem KpB.refl (n₀ Bs : Nat) (W : World) : KpB n₀ Bs W W := ⟨Below.refl _ _, fun _ => rfl⟩
theorem KpB.trans {n₀ Bs : Nat} {A B C : World} (h : KpB n₀ Bs A B) (k : KpB n₀ Bs B C) : KpB n₀ Bs A C := ⟨h.1.trans k.1, fun hlt => (k.2 (Nat.lt_of_lt_of_le hlt h.1.size)).trans (h.2 hlt)⟩
theorem KpB.obj {n₀ Bs : Nat} {w : World} (hn : n₀ ≤ w.heap.size) (hB : Bs < w.heap.size) (W : World) (l : Nat) (o o' : Obj) (hl : w.heap.size ≤ l) (h : W.heap[l]? = some o) (h1 : o.isCells = false) (h2 : o.isWalk = false) : KpB n₀ Bs W (W.putObj l o') :=
  ⟨belowK_b hn W l o o' hl h h1 h2, fun _ => World.putObj_heap_other (by omega)⟩

def back (L : List ChV) (k : Nat) : List (Nat × ChV) := (List.range k).map fun j => (L.length - 1 - j, L[L.length - 1 - j]?.getD ⟨⟨#[]⟩, none, 0, 0, false⟩)
theorem back_succ (L : List ChV) (k : Nat) : back L (k + 1) = back L k ++ [(L.length - 1 - k, L[L.length - 1 - k]?.getD ⟨⟨#[]⟩, none, 0, 0, false⟩)] := by simp [back, List.range_succ]
theorem back_length (L : List ChV) (k : Nat) : (back L k).length = k := by simp [back]

set_option maxHeartbeats 1000000 in
theorem back_in (F : Fence) (n : Nat) (h5 : F.fn 31) (hro : F.round = none) (a : Option Addr) (len cap : Nat) (w : World) :
    CallsIn F n Try.prog 31 #[.slice a len cap] w fun e w' => e = .returned (.func (.func 51) #[] #[.pointer (some ⟨w.heap.size, 0, none⟩)]) ∧ w' = w.alloc (.cells #[.slice a len cap] 46) := by
  refine callsIn_of_wp Try.func31 rfl h5 ?_ hro
  simp only [Try.ntmps31, List.size_toArray, List.length_cons, List.length_nil, Nat.reduceAdd, Nat.reduceSub, Array.replicate_succ, Array.replicate_zero, List.push_toArray, List.append_toArray, List.nil_append, List.cons_append]
  gi_wp2
  go_ret
  exact ⟨rfl, rfl⟩

def BackLies (n₀ : Nat) (W : World) (b off : Nat) (L : List ChV) : Prop :=
  b < n₀ ∧ ∀ i x, L[i]? = some x → W.cell? ⟨b, off + i * 3, none⟩ = some (.string x.name) ∧ W.cell? ⟨b, off + i * 3 + 1, none⟩ = some (.slice x.a x.n x.c) ∧ W.cell? ⟨b, off + i * 3 + 2, none⟩ = some (.bool x.is)

set_option maxRecDepth 100000 in
set_option maxHeartbeats 2000000 in
theorem back1_in (F : Fence) (n : Nat) (h7 : F.fn 51) (hro : F.round = none) (hn : 1 ≤ n) (l Bs n₀ b off cap : Nat) (L : List ChV) (hreach : L.length ≤ 1048576 * 1048576) (J Jx : List (Nat × ChV) → World → Prop)
    (hY : ∀ pre x W, J pre W → pre.length < L.length → YieldAt F (n - 1) Try.prog l (chvEnc x) W fun e W' =>
      (e = .returned (.bool true) ∧ J (pre ++ [x]) W' ∧ KpB n₀ Bs W W') ∨ (e = .returned (.bool false) ∧ Jx (pre ++ [x]) W'))
    (W : World) (hBs : W.heap[Bs]? = some (.cells #[.slice (some ⟨b, off, none⟩) L.length cap] 46 (0, 0))) (hc : BackLies n₀ W b off L) (h0 : J [] W) :
    CallsIn F n Try.prog 51 #[.func (.yield l) #[] #[], .pointer (some ⟨Bs, 0, none⟩)] W fun e W' => (∃ v, e = .returned v) ∧
      ((∃ ys, ys = back L L.length ∧ J ys W') ∨ (∃ pre, (∃ k, k ≤ L.length ∧ pre = back L k) ∧ Jx pre W')) := by
  have hBlt := lt_of_blk hBs
  have hc0 := cell_blk hBs 0 _ rfl
  refine callsIn_of_wp Try.func51 rfl h7 ?_ hro
  simp only [Try.ntmps51, List.size_toArray, List.length_cons, List.length_nil, Nat.reduceAdd, Nat.reduceSub, Array.replicate_succ, Array.replicate_zero, List.push_toArray, List.append_toArray, List.nil_append, List.cons_append]
  gi_wp2
  gi_loopw [3] (fun i wr => ∃ k : Nat, k ≤ L.length ∧ i = .int .i64 ((L.length : Int) - 1 - k) ∧ J (back L k) wr ∧ KpB n₀ Bs W wr)
    (fun i _ => (intOf i + 1).toNat)
  case atStart => exact ⟨0, Nat.zero_le _, by simp, h0, KpB.refl _ _ _⟩
  case round =>
    obtain ⟨k, hk, rfl, hJs, hnx⟩ := hrel
    have hbx := cell_blk ((hnx.2 hBlt).trans hBs) 0 _ rfl
    by_cases hlt : k < L.length
    · obtain ⟨x, hx⟩ : ∃ x, L[L.length - 1 - k]? = some x := ⟨_, List.getElem?_eq_getElem (by omega)⟩
      obtain ⟨q0, q1, q2⟩ := hc.2 _ x hx
      have p0 := (hnx.1.cell (p := ⟨b, off + (L.length - 1 - k) * 3, none⟩) hc.1).trans q0
      have p1 := (hnx.1.cell (p := ⟨b, off + (L.length - 1 - k) * 3 + 1, none⟩) hc.1).trans q1
      have p2 := (hnx.1.cell (p := ⟨b, off + (L.length - 1 - k) * 3 + 2, none⟩) hc.1).trans q2
      have hs := back_succ L k
      rw [hx] at hs
      simp only [Option.getD_some] at hs
      obtain ⟨m, hm⟩ : ∃ m, L.length - 1 - k = m := ⟨_, rfl⟩
      have hmi : (L.length : Int) - 1 - k = (m : Int) := by omega
      rw [hm] at p0 p1 p2 hs
      rw [hmi]
      obtain ⟨fn, tmps, assign, body, hy, hR⟩ := hY _ (m, x) wr hJs (by rw [back_length]; exact hlt)
      have hy' := hy
      simp only [chvEnc] at hy'
      have HS := Lib.hid hs
      clear hy q0 q1 q2 hs hx
      have hm0 : (0 : Int) ≤ (m : Int) := by omega
      have hm1 : (m : Int) < ((L.length : Nat) : Int) := by omega
      gi_wp2
      refine hR.mono ?_
      rintro e W3 (⟨rfl, hJ3, hk3⟩ | ⟨rfl, hJx3⟩)
      · gi_wp2
        go_roundw
        case rel => exact ⟨k + 1, by omega, by go_num, by rw [HS.out]; exact hJ3, hnx.trans hk3⟩
        case measure => (simp [intOf]; try omega)
      · gi_wp2
        refine bodyPost_ret (results_none rfl _ _ _) rfl ?_
        exact ⟨⟨_, rfl⟩, .inr ⟨_, ⟨k + 1, by omega, HS.out.symm⟩, hJx3⟩⟩
    · obtain rfl : k = L.length := by omega
      gi_wp2
      go_end0
      exact ⟨⟨_, rfl⟩, .inl ⟨_, rfl, hJs⟩⟩

theorem back_stops (F : Fence) (n : Nat) (h7 : F.fn 51) (hro : F.round = none) (hn : 1 ≤ n) (Bs n₀ b off cap : Nat) (L : List ChV) (hreach : L.length ≤ 1048576 * 1048576)
    (w : World) (hn₀ : n₀ ≤ w.heap.size) (hBs : w.heap[Bs]? = some (.cells #[.slice (some ⟨b, off, none⟩) L.length cap] 46 (0, 0))) (hc : BackLies n₀ w b off L) :
    SeqStopsK F n Try.prog 51 #[.pointer (some ⟨Bs, 0, none⟩)] chvEnc (KpB n₀ Bs) (fun ys => ys = back L L.length) (fun pre => ∃ k, k ≤ L.length ∧ pre = back L k) L.length w := fun l J Jx W hW _ _ hY h0 =>
  back1_in F n h7 hro hn l Bs n₀ b off cap L hreach J Jx hY W ((hW.block Bs (lt_of_blk hBs)).trans hBs)
    ⟨hc.1, fun i x hx => ⟨((hW.mono hn₀).cell (p := ⟨b, off + i * 3, none⟩) hc.1).trans (hc.2 i x hx).1, ((hW.mono hn₀).cell (p := ⟨b, off + i * 3 + 1, none⟩) hc.1).trans (hc.2 i x hx).2.1, ((hW.mono hn₀).cell (p := ⟨b, off + i * 3 + 2, none⟩) hc.1).trans (hc.2 i x hx).2.2⟩⟩ h0
end Go.Proofs.Ytajmaebofhkjjaa
