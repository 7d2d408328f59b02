import Derived.Test.YtajmaebofhkjjaaKeys
import Derived.Test.YtajmaebofhkjjaaRoll
namespace Go.Proofs.Ytajmaebofhkjjaa
open Go.RowKit Go.Proofs.Dm Go.MapKept Go.Shelf
attribute [local go_sem] Oper.semAt_some

/-- Block g is that of the slice which lies in the box Bt. -/
def InBox (W : World) (Bt g : Nat) : Prop := ∃ a n c, W.cell? ⟨Bt, 0, none⟩ = some (.slice a n c) ∧ a.map (·.block) = some g
/-- What a round of the collecting loop keeps: all cells but the box Bt and the row in it; and that row is the one that there was, or new. -/
structure KpS (Bt : Nat) (W W' : World) : Prop where
  size : W.heap.size ≤ W'.heap.size
  kept : ∀ b cur t f, W.heap[b]? = some (.cells cur t f) → b ≠ Bt → ¬ InBox W Bt b → W'.heap[b]? = some (.cells cur t f)
  row : ∀ g, InBox W' Bt g → InBox W Bt g ∨ W.heap.size ≤ g
theorem KpS.refl (Bt : Nat) (W : World) : KpS Bt W W := ⟨Nat.le_refl _, fun _ _ _ _ h _ _ => h, fun _ h => .inl h⟩
theorem KpS.trans {Bt : Nat} {A B C : World} (h : KpS Bt A B) (k : KpS Bt B C) : KpS Bt A C :=
  ⟨Nat.le_trans h.size k.size, fun b cur t f hb h1 h2 => k.kept b cur t f (h.kept b cur t f hb h1 h2) h1 (fun hi => (h.row b hi).elim h2 (fun hs => by have := lt_of_blk hb; omega)),
    fun g hg => (k.row g hg).elim (fun h' => h.row g h') (fun hs => .inr (Nat.le_trans h.size hs))⟩
theorem KpS.obj {Bt : Nat} (W : World) (l : Nat) (o o' : Obj) (h : W.heap[l]? = some o) (h1 : o.isCells = false) (hB : ∃ cur t f, W.heap[Bt]? = some (.cells cur t f)) : KpS Bt W (W.putObj l o') := by
  have hne : Bt ≠ l := by obtain ⟨c, t, f, hb⟩ := hB; rintro rfl; rw [h] at hb; cases hb; cases h1
  have hcell : (W.putObj l o').cell? ⟨Bt, 0, none⟩ = W.cell? ⟨Bt, 0, none⟩ := by
    unfold World.cell?
    simp only [World.putObj_heap_other hne]
  refine ⟨by simp, fun b cur t f hb _ _ => ?_, fun g hg => .inl ?_⟩
  · rw [World.putObj_heap_other (by rintro rfl; rw [h] at hb; cases hb; cases h1)]; exact hb
  · obtain ⟨a, n, c, hc, ha⟩ := hg
    exact ⟨a, n, c, by rw [← hcell]; exact hc, ha⟩

def nmEnc (x : ByteArray) : Array Value := #[.string x]

set_option maxHeartbeats 1000000 in
theorem names_any (w : World) (p : Option Addr) :
    Calls Try.prog 44 #[.pointer p] w fun e w' => e = .returned (.func (.func 59) #[] #[.pointer (some ⟨w.heap.size, 0, none⟩)]) ∧ w' = w.alloc (.cells #[.pointer p] 23) := by
  go_enter Try.func44, Try.ntmps44
  go_wp2_with fail
  go_ret
  exact ⟨rfl, rfl⟩

theorem grown_of_upd {w w' : World} (h : Upd (fun _ => False) w w') : w.grownBy w' none := ⟨h.os, h.tape, h.output, h.size, fun k hk _ => h.block k hk (fun h => h)⟩

set_option maxRecDepth 100000 in
set_option maxHeartbeats 4000000 in
theorem names1_in (n : Nat) (hn : 5 ≤ n) (l Bp Bt B m : Nat) (kvs : List (ByteArray × Value)) (hkn : kvs.length ≤ 1048576 * 1048576) (hkk : ∀ p ∈ kvs, p.1.size ≤ maxLen) (J Jx : List ByteArray → World → Prop) (W : World)
    (hJ : AbidesFrom W.heap.size J)
    (hY : ∀ pre x W, J pre W → pre.length < kvs.length → YieldAt Fence.wide (n - 1) Try.prog l (nmEnc x) W fun e W' =>
      (e = .returned (.bool true) ∧ J (pre ++ [x]) W' ∧ KpS Bt W W') ∨ (e = .returned (.bool false) ∧ Jx (pre ++ [x]) W'))
    (hBp : W.cell? ⟨Bp, 0, none⟩ = some (.pointer (some ⟨B, 0, none⟩))) (hB : W.cell? ⟨B, 0, none⟩ = some (.map (some m))) (hm : IsMap W m kvs) (hBt : Bt < W.heap.size) (hbox : ∀ g, InBox W Bt g → g < W.heap.size) (h0 : J [] W) :
    CallsIn Fence.wide n Try.prog 59 #[.func (.yield l) #[] #[], .pointer (some ⟨Bp, 0, none⟩)] W fun e W' => (∃ v, e = .returned v) ∧
      ((∃ ys, ys = sortedNames kvs ∧ J ys W') ∨ (∃ pre, pre <+: sortedNames kvs ∧ Jx pre W')) := by
  have hro : Fence.wide.round = none := rfl
  refine callsIn_of_wp Try.func59 rfl trivial ?_ hro
  simp only [Try.ntmps59, List.size_toArray, List.length_cons, List.length_nil, Nat.reduceAdd, Nat.reduceSub, Array.replicate_succ, Array.replicate_zero, List.push_toArray, List.append_toArray, List.nil_append, List.cons_append]
  gi_wp2
  refine ⟨trivial, fun _ => by omega, callsIn_wide.2 ((callsIn_wide (n := 5)).1 (Try.maps_Keys_60 (some m) W) |>.mono ?_)⟩
  rintro e w1 ⟨rfl, rfl⟩
  gi_wp2
  refine ⟨trivial, fun _ => by omega, callsIn_wide.2 ((sorted_b W m kvs hm hkn hkk).mono ?_)⟩
  rintro e w2 ⟨sa, sc, rfl, hsown, hsat, hU2⟩
  have hUW : Upd (fun _ => False) W w2 := ((Upd.refl _ W).alloc _).trans hU2 (fun _ _ h => h)
  have hJ2 : J [] w2 := hJ [] W w2 none h0 (grown_of_upd hUW) (fun r e => by cases e)
  have hnl : (sortedNames kvs).length = kvs.length := by simp [sortedNames, keyList]
  have hin2 : ∀ g, InBox w2 Bt g → g < W.heap.size := fun g hg => hbox g (by
    obtain ⟨a, n', c, hc, ha⟩ := hg
    refine ⟨a, n', c, ?_, ha⟩
    have : w2.cell? ⟨Bt, 0, none⟩ = W.cell? ⟨Bt, 0, none⟩ := by unfold World.cell?; rw [hUW.block Bt hBt (fun h => h)]
    rw [← this]; exact hc)
  rcases Nat.eq_zero_or_pos kvs.length with h00 | hpos
  · have hn0 : sortedNames kvs = [] := List.eq_nil_of_length_eq_zero (by omega)
    rw [hn0]
    clear hsown hsat hU2 hUW hin2 hnl
    gi_wp2
    gi_loopw [14] (fun i wr => i = .int .i64 0 ∧ J [] wr) (fun _ _ => 0)
    case atStart => exact ⟨rfl, hJ2⟩
    case round =>
      obtain ⟨rfl, hJs⟩ := hrel
      gi_wp2
      go_end0
      exact ⟨⟨_, rfl⟩, .inl ⟨_, hn0.symm, hJs⟩⟩
  · obtain ⟨sg, rfl⟩ : ∃ g, sa = some ⟨g, 0, none⟩ := by
      rcases hsown.2 with ⟨_, h0⟩ | ⟨g, cap, cur, hv, _⟩
      · omega
      · cases hv; exact ⟨g, rfl⟩
    obtain ⟨scur, hsb, hscu⟩ := own_blk hsown
    have hsg := (hsat sg rfl).1
    simp only [World.size_alloc] at hsg
    generalize hnm : sortedNames kvs = names at *
    have HNM := Lib.hid hnm
    have HIN := Lib.hid hin2
    have HSB := Lib.hid hsb
    have HSCU := Lib.hid hscu
    have HSG : Hid (W.heap.size < sg) := Lib.hid (by omega)
    have HNL := Lib.hid hnl
    clear hsown hsat hU2 hUW hin2 hnl hsb hscu hsg hnm
    have hlen : names.length ≤ 1048576 * 1048576 := by have := HNL.out; omega
    gi_wp2
    gi_loopw [14] (fun i wr => ∃ k : Nat, k ≤ names.length ∧ i = .int .i64 k ∧ J (names.take k) wr ∧ KpS Bt w2 wr) (fun i _ => names.length - (intOf i).toNat)
    case atStart => exact ⟨0, Nat.zero_le _, rfl, hJ2, KpS.refl _ _⟩
    case round =>
      obtain ⟨k, hk, rfl, hJs, hKs⟩ := hrel
      have HKS := Lib.hid hKs
      clear hKs
      by_cases hlt : k < names.length
      · obtain ⟨x, hx⟩ : ∃ x, names[k]? = some x := ⟨_, List.getElem?_eq_getElem hlt⟩
        have hn1 := cell_blk (HKS.out.kept _ _ _ _ HSB.out (by have := HSG.out; omega) (fun h => by have := HIN.out _ h; have := HSG.out; omega)) k _ (HSCU.out k (sv x) (by rw [List.getElem?_map, hx]; rfl))
        have hs : names.take (k + 1) = names.take k ++ [x] := by
          obtain ⟨hlt', rfl⟩ := List.getElem?_eq_some_iff.1 hx
          exact List.take_succ_eq_append_getElem hlt'
        obtain ⟨fn, tmps, assign, body, hy, hR⟩ := hY _ x wr hJs (by rw [List.length_take]; have := HNL.out; omega)
        have hy' := hy
        simp only [nmEnc] at hy'
        simp only [sv] at hn1
        have HS := Lib.hid hs
        have hk0 : (0 : Int) ≤ (k : Int) := by omega
        have hk1 : (k : Int) < ((names.length : Nat) : Int) := by omega
        clear hy hs hx
        gi_wp2
        refine ⟨fun _ => by omega, hR.mono ?_⟩
        rintro e W3 (⟨rfl, hJ3, hk3⟩ | ⟨rfl, hJx3⟩)
        · gi_wp2
          go_roundw
          case rel => exact ⟨k + 1, by omega, by go_num, by rw [HS.out]; exact hJ3, HKS.out.trans hk3⟩
          case measure => simp [intOf]; omega
        · gi_wp2
          refine bodyPost_ret (results_none rfl _ _ _) rfl ?_
          exact ⟨⟨_, rfl⟩, .inr ⟨_, ⟨names.drop (k + 1), by rw [← HS.out, HNM.out]; exact List.take_append_drop _ _⟩, hJx3⟩⟩
      · obtain rfl : k = names.length := by omega
        rw [List.take_length] at hJs
        gi_wp2
        go_end0
        exact ⟨⟨_, rfl⟩, .inl ⟨_, HNM.out.symm, hJs⟩⟩

theorem names_stops (n : Nat) (hn : 5 ≤ n) (Bp Bt B m : Nat) (kvs : List (ByteArray × Value)) (hkn : kvs.length ≤ 1048576 * 1048576) (hkk : ∀ p ∈ kvs, p.1.size ≤ maxLen) (w : World)
    (hBp : w.cell? ⟨Bp, 0, none⟩ = some (.pointer (some ⟨B, 0, none⟩))) (hB : w.cell? ⟨B, 0, none⟩ = some (.map (some m))) (hm : IsMap w m kvs) (hlp : Bp < w.heap.size) (hlB : B < w.heap.size) (hBt : Bt < w.heap.size) (hbox : w.cell? ⟨Bt, 0, none⟩ = some (.slice none 0 0)) :
    SeqStopsK Fence.wide n Try.prog 59 #[.pointer (some ⟨Bp, 0, none⟩)] nmEnc (KpS Bt) (fun ys => ys = sortedNames kvs) (fun pre => pre <+: sortedNames kvs) kvs.length w := fun l J Jx W hW hJ _ hY h0 =>
  names1_in n hn l Bp Bt B m kvs hkn hkk J Jx W hJ hY ((hW.cell (p := ⟨Bp, 0, none⟩) hlp).trans hBp) ((hW.cell (p := ⟨B, 0, none⟩) hlB).trans hB) (hm.kept (hW.block m hm.lt)) (Nat.lt_of_lt_of_le hBt hW.size)
    (fun g hg => by
      obtain ⟨a, n', c, hc, ha⟩ := hg
      rw [(hW.cell (p := ⟨Bt, 0, none⟩) hBt).trans hbox] at hc
      cases hc; simp at ha) h0
end Go.Proofs.Ytajmaebofhkjjaa
