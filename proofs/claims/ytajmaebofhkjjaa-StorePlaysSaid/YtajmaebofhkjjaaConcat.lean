import Derived.Test.YtajmaebofhkjjaaBytes
namespace Go.Proofs.Ytajmaebofhkjjaa
open Go.RowKit Go.Proofs.Dm Go.MapKept

def upTo (ls : List (List UInt8)) (k : Nat) : Nat := (ls.take k).flatten.length
theorem upTo_zero (ls : List (List UInt8)) : upTo ls 0 = 0 := rfl
theorem upTo_succ (ls : List (List UInt8)) (k : Nat) (h : k < ls.length) : upTo ls (k + 1) = upTo ls k + ls[k].length := by
  unfold upTo; rw [List.take_succ_eq_append_getElem h, List.flatten_append, List.length_append]; simp only [List.flatten_cons, List.flatten_nil, List.append_nil]
theorem upTo_le (ls : List (List UInt8)) (k : Nat) : upTo ls k ≤ ls.flatten.length := by
  unfold upTo
  conv => rhs; rw [← List.take_append_drop k ls]
  rw [List.flatten_append, List.length_append]; omega

def ConcatMid (w : World) (ls : List (List UInt8)) (k : Nat) (s : Value) (wr : World) : Prop :=
  ∃ a c, s = .slice a (upTo ls k) c ∧ wr.ownsRow 0 5 1 (.slice a (upTo ls k) c) (upTo ls k) ((ls.take k).flatten.map bv) ∧ (∀ g, a.map (·.block) = some g → w.heap.size ≤ g ∧ g < wr.heap.size) ∧ Upd (fun _ => False) w wr

theorem ConcatMid.start {w w1 : World} {a : Option Addr} {c : Nat} (ls : List (List UInt8)) (h : FreshB w w1 a c []) (hu : Upd (fun _ => False) w w1) : ConcatMid w ls 0 (.slice a 0 c) w1 :=
  ⟨a, c, rfl, h.1, h.2, hu⟩

theorem ConcatMid.step {w wr w1 : World} {ls : List (List UInt8)} {k : Nat} {a a' : Option Addr} {c' m : Nat} (hk : k < ls.length) (hu : Upd (fun _ => False) w wr) (ha : ∀ g, a.map (·.block) = some g → w.heap.size ≤ g ∧ g < wr.heap.size)
    (hm : m = ls[k].length) (hown : w1.ownsRow 0 5 1 (.slice a' (upTo ls k + m) c') (upTo ls k + m) ((ls.take k).flatten.map bv ++ ls[k].map bv))
    (hgrow : wr.grownBy w1 (a.map (·.block))) (hat : ∀ g, a'.map (·.block) = some g → (a.map (·.block) = some g ∨ wr.heap.size ≤ g) ∧ g < w1.heap.size) : ConcatMid w ls (k + 1) (.slice a' (upTo ls k + m) c') w1 := by
  subst hm
  refine ⟨a', c', by rw [upTo_succ _ _ hk], ?_, fun g hg => ⟨(hat g hg).1.elim (fun h => (ha g h).1) (fun h => Nat.le_trans hu.size h), (hat g hg).2⟩, hu.grown hgrow (fun g hg e => ?_)⟩
  · rw [upTo_succ _ _ hk]
    have : (ls.take (k + 1)).flatten.map bv = (ls.take k).flatten.map bv ++ ls[k].map bv := by rw [List.take_succ_eq_append_getElem hk, List.flatten_append, List.map_append]; simp only [List.flatten_cons, List.flatten_nil, List.append_nil]
    rw [this]; exact hown
  · have := ha g e; omega

set_option maxRecDepth 100000 in
set_option maxHeartbeats 1000000 in
theorem concat_any (w : World) (F : Nat → Prop) (T : TypeId → Prop) (g o n pc : Nat) (arr : Array Value) (t : TypeId) (f : Nat × Nat) (vs : List Value) (ls : List (List UInt8)) (hp : w.heap[g]? = some (.cells arr t f))
    (hvs : ∀ i u, vs[i]? = some u → arr[o + i]? = some u) (hr : Rel2 (IsB w F T) vs ls) (hn : n = ls.length) (hl : ls.flatten.length ≤ 1048576 * 1048576) (hn' : n ≤ 1048576 * 1048576) :
    Calls Try.prog 40 #[.slice (some ⟨g, o, none⟩) n pc] w (CopyPost w ls.flatten) := by
  obtain ⟨i0, hi, hz0, hz1, hz2⟩ := info_parts info_u8
  have hpart : ∀ (k : Nat) (h : k < ls.length), ∃ a c, w.cell? ⟨g, o + k, none⟩ = some (.slice a ls[k].length c) ∧ IsB w F T (.slice a ls[k].length c) ls[k] := by
    intro k h
    obtain ⟨v, hv, hb⟩ := hr.get k ls[k] (List.getElem?_eq_getElem h)
    have hc := cell_blk hp (o + k) v (hvs k v hv)
    obtain ⟨a, c, rfl, hb'⟩ := hb
    exact ⟨a, c, hc, a, c, rfl, hb'⟩
  obtain ⟨tot, htot⟩ : ∃ tot, tot = ls.flatten.length := ⟨_, rfl⟩
  have hupto : ∀ k, upTo ls k ≤ tot := fun k => htot ▸ upTo_le ls k
  rw [← htot] at hl
  have HUT := Lib.hid hupto
  have HT := Lib.hid htot
  clear hupto htot
  have HP := Lib.hid hpart
  have HB := Lib.hid hp
  have HN := Lib.hid hn
  have hz : upTo ls 0 = 0 := rfl
  have HZ := Lib.hid hz
  clear hpart hp hvs hr hz hn
  go_enter Try.func40, Try.ntmps40
  go_wp2_with fail
  go_loop [11, 3] (fun i s => ∃ k : Nat, k ≤ n ∧ i = .int .i64 k ∧ s = .int .i64 (upTo ls k : Nat)) (fun i _ => n - (intOf i).toNat)
  case atStart => exact ⟨0, Nat.zero_le _, rfl, by rw [HZ.out]; rfl⟩
  case round =>
    obtain ⟨k, hk, rfl, rfl⟩ := hrel
    have hle := HUT.out k
    by_cases hlt : k < n
    · have hlt' : k < ls.length := HN.out ▸ hlt
      obtain ⟨a1, c1, hcell, _⟩ := HP.out k hlt'
      have hs := upTo_succ ls k hlt'
      have hle1 := HUT.out (k + 1)
      rw [hs] at hle1
      have HS := Lib.hid hs
      clear hs
      generalize ls[k].length = m at *
      generalize upTo ls k = u at *
      have h0 : ¬ ((u : Int) + m < 0) := by omega
      go_wp2_with fail
      go_round
      case rel => exact ⟨k + 1, by omega, by go_num, by rw [HS.out]; go_num⟩
      case measure => simp [intOf]; omega
    · obtain rfl : k = n := by omega
      have hu : upTo ls k = tot := by rw [HN.out, HT.out]; unfold upTo; rw [List.take_length]
      rw [hu]
      clear hle hu
      go_wp2_with fail
      refine (grow_nil _ _ (by omega)).mono ?_
      rintro e w1 ⟨a, c, rfl, hfr, hupd⟩
      have HM := ConcatMid.start ls hfr hupd
      clear hfr hupd
      go_wp2_with fail
      go_loopw [27, 6] (fun i s wr => ∃ j : Nat, j ≤ k ∧ i = .int .i64 j ∧ ConcatMid w ls j s wr) (fun i _ _ => k - (intOf i).toNat)
      case atStart => exact ⟨0, Nat.zero_le _, rfl, HM⟩
      case round =>
        obtain ⟨j, hj, rfl, a', c', rfl, hown, hblk, hupd⟩ := hrel
        have HBL := Lib.hid hblk
        clear hblk
        by_cases hjk : j < k
        · have hj' : j < ls.length := HN.out ▸ hjk
          obtain ⟨a1, c1, hcell, hbj⟩ := HP.out j hj'
          have hcell' : wr.cell? ⟨g, o + j, none⟩ = some (.slice a1 ls[j].length c1) := cell_blk (hupd.keep HB.out (fun h => h)) _ _ (by simpa [World.cell?, HB.out] using hcell)
          have hbj' : IsB wr F T (.slice a1 ls[j].length c1) ls[j] := IsRow.kept hbj (fun _ _ h => h) (fun g hg _ _ => hupd.block g hg (fun h => h))
          have hs := upTo_succ ls j hj'
          have hle1 := HUT.out (j + 1)
          rw [hs] at hle1
          have HBJ := Lib.hid hbj'
          clear hs hcell hbj hbj'
          go_wp2_with (at_builtin; refine wpList_appendN rfl _ _ 31 rfl 5 i0 _ 1 1 Try.underlying31 hi hz0 hz1 hz2 rfl (by decide) a' (upTo ls j) c' _ rfl hown a1 ls[j].length c1 (ls[j].map bv) rfl F T HBJ.out (by simp) (bv_one _) (by omega) (by omega) ?_; intro a2 c2 w2 hown2 hgrow hat _)
          go_roundw
          case rel => exact ⟨j + 1, by omega, by go_num, ConcatMid.step hj' hupd HBL.out rfl hown2 hgrow hat⟩
          case measure => simp [intOf]; omega
        · obtain rfl : j = k := by omega
          go_wp2_with fail
          go_ret
          have hfl : (ls.take j).flatten = ls.flatten := by rw [HN.out, List.take_length]
          have hu : upTo ls j = ls.flatten.length := by unfold upTo; rw [hfl]
          rw [hu, hfl] at hown
          show CopyPost w ls.flatten (.returned (.slice a' (upTo ls j) c')) wr
          rw [hu]
          exact ⟨a', c', rfl, ⟨hown, HBL.out⟩, hupd⟩
end Go.Proofs.Ytajmaebofhkjjaa
