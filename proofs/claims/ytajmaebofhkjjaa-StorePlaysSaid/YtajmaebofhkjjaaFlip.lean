import Derived.Test.YtajmaebofhkjjaaSwap
namespace Go.Proofs.Ytajmaebofhkjjaa
open Go.RowKit Go.Proofs.Dm Go.MapKept
attribute [local go_sem ↓] Go.wp_at_zero Go.wp_at_succ

theorem fresh_some {w w1 : World} {a : Option Addr} {c : Nat} {x : List UInt8} (h : FreshB w w1 a c x) (hx : 0 < x.length) :
    ∃ g cap cur, a = some ⟨g, 0, none⟩ ∧ w.heap.size ≤ g ∧ w1.heap[g]? = some (.cells cur 5 (0, 0)) ∧ c = cap ∧ cur.size = cap ∧ cur.toList.take x.length = x.map bv := by
  obtain ⟨⟨hl, h1 | ⟨g, cap, cur, hv, _, hg, hn, hc, hs, ht⟩⟩, h2⟩ := h
  · obtain ⟨_, h0⟩ := h1; omega
  · cases hv
    exact ⟨g, _, cur, rfl, (h2 g rfl).1, hg, rfl, by simpa using hs, by simpa using ht⟩
theorem fresh_cell {cur : Array Value} {x : List UInt8} (h : cur.toList.take x.length = x.map bv) (i : Nat) (hi : i < x.length) : cur[i]? = some (bv x[i]) := by
  have : (cur.toList.take x.length)[i]? = (x.map bv)[i]? := by rw [h]
  rw [List.getElem?_take, if_pos hi] at this
  simpa [List.getElem?_eq_getElem hi] using this

def flipByte (u : UInt8) (k : Nat) : UInt8 := UInt8.ofNat (bits .xor .u8 u.toNat (2 ^ k % 256)).toNat
theorem flipByte_v (u : UInt8) (k : Nat) : Value.int .u8 (bits .xor .u8 u.toNat (2 ^ k % 256)) = bv (flipByte u k) := by
  unfold bv flipByte
  have h0 := bits_lo_u8 .xor u.toNat (2 ^ k % 256)
  have h1 := bits_hi_u8 .xor u.toNat (2 ^ k % 256)
  generalize bits .xor .u8 u.toNat (2 ^ k % 256) = z at *
  congr 1
  simp; omega
def flipped (x : List UInt8) (n : Nat) : List UInt8 := x.set (n / 8) (flipByte (x.getD (n / 8) 0) (n % 8))
def St.canFlip (st : St) (name : ByteArray) (n : Int) : Bool := st.has name && decide (0 ≤ n) && decide (n / 8 < (st.show name).length)
def St.flip (st : St) (name : ByteArray) (n : Int) : St := if st.canFlip name n then st.set name (some (flipped (st.show name) n.toNat)) else st

theorem flip_mid {w w1 : World} {F : Nat → Prop} {B g cap : Nat} {st : St} {x : List UInt8} {cur : Array Value} (hS : IsStore w F B st) (hU : Upd (fun _ => False) w w1) (hgb : w.heap.size ≤ g) (hbk : w1.heap[g]? = some (.cells cur 5 (0, 0))) (hcs : cur.size = cap)
    (htk : cur.toList.take x.length = x.map bv) (n : Nat) (hb : n / 8 < x.length) (hxc : x.length ≤ cap) :
    let w2 := (w1.setCell ⟨g, n / 8, none⟩ (bv (flipByte x[n / 8] (n % 8)))).drew
    IsStore w2 (Plus F w w2) B st ∧ IsB w2 (Plus F w w2) tB (.slice (some ⟨g, 0, none⟩) x.length cap) (flipped x n) ∧ Upd F w w2 ∧ KeepB w w2 := by
  intro w2
  have hlt : g < w1.heap.size := lt_of_blk hbk
  have hsz : w2.heap.size = w1.heap.size := by simp [w2, World.setCell]
  have hU2 : Upd (fun _ => False) w w2 := (hU.setCell (fun h => absurd h (by simp; omega)) _).drew
  refine ⟨hS.kept (fun _ _ h => .inl h) (fun k hk _ => hU2.block k hk (fun h => h)), ?_, hU2.mono (fun _ _ h => h.elim), KeepB.ofUpd hU2⟩
  refine ⟨_, cap, by rw [show (flipped x n).length = x.length by simp [flipped]], (fun h => by cases h), by simpa [flipped] using hxc, fun _ => ⟨g, 0, _, _, _, rfl, .inr ⟨hgb, by omega⟩, rfl, blk_setCell hbk _ _, fun i u hu => ?_⟩⟩
  have hxi : ∀ i (h : i < x.length), cur[i]? = some (bv x[i]) := fun i h => fresh_cell htk i h
  simp only [Nat.zero_add]
  simp only [flipped, List.map_set, List.getElem?_set, List.length_map] at hu
  rw [Array.getElem?_setIfInBounds]
  by_cases h : n / 8 = i
  · subst h
    rw [if_pos rfl, if_pos hb] at hu
    rw [if_pos rfl, if_pos (by omega)]
    rw [← hu]; simp [List.getElem?_eq_getElem hb]
  · rw [if_neg h] at hu
    rw [if_neg h]
    rw [List.getElem?_map] at hu
    by_cases hi : i < x.length
    · rw [hxi i hi, ← hu]; simp [List.getElem?_eq_getElem hi]
    · rw [List.getElem?_eq_none (by omega)] at hu; cases hu

set_option maxRecDepth 100000 in
set_option maxHeartbeats 1000000 in
theorem flip_yes (w : World) (F : Nat → Prop) (B : Nat) (st : St) (hS : IsStore w F B st) (name : ByteArray) (n : Nat) (hn : st.chs.length < 1048576 * 1048576) (hh : st.has name = true) (hb : n / 8 < (st.show name).length) (hl : (st.show name).length ≤ 1048576 * 1048576) :
    Calls Try.prog 14 #[.pointer (some ⟨B, 0, none⟩), .string name, .int .i64 n] w (StPost w F B true (st.set name (some (flipped (st.show name) n)))) := by
  have HA := Lib.hid (has_any' w F B st hS name _ hh)
  have HS := Lib.hid hS
  obtain ⟨m1, m2, ca, cc, pa, pc, k1, k2, xs, P0⟩ := hS
  obtain ⟨wa, wl, wc, hw1, hwb, hw2⟩ := getD_b P0.rel1 name
  change IsB w F tB _ (st.show name) at hwb
  obtain rfl : wl = (st.show name).length := by obtain ⟨_, _, h, _⟩ := hwb; cases h; rfl
  have hc0 := cell_blk P0.blk 0 _ rfl
  have hm := P0.map1
  have hlk : (Instr.lookup 44 (.map (some m1)) (.string name) false).run Try.prog w = .ok (.slice wa (st.show name).length wc) w := by
    rw [lookup1_str Try.underlying44 Try.underlying9 zero_b hm name, hw1]
  have HWB := Lib.hid hwb
  generalize st.show name = x at *
  have h0 : (0 : Int) ≤ n := by omega
  clear hh P0 hw1 hw2 hwb
  go_enter Try.func14, Try.ntmps14
  go_wp2_with (first
    | (go_at_call 29; refine HA.out.mono ?_; rintro e w1 ⟨rfl, rfl⟩)
    | (go_at_call 34; refine (clone_any _ F tB wa _ wc x HWB.out (by omega)).mono ?_; rintro e w1 ⟨a, c, rfl, hfr, hU⟩))
  obtain ⟨g, cap, cur, rfl, hgb, hbk, hcap, hcs, htk⟩ := fresh_some hfr (by omega)
  have hcur : cur[n / 8]? = some (.int .u8 x[n / 8].toNat) := by
    have := fresh_cell htk (n / 8) hb
    simpa [bv] using this
  have hcell := cell_blk hbk (n / 8) _ hcur
  have hfz := free_blk hbk (n / 8)
  have hi0 : (0 : Int) ≤ (n : Int) / 8 := by omega
  have hi1 : (n : Int) / 8 < (x.length : Int) := by omega
  have HFR := Lib.hid hfr
  have HU := Lib.hid hU
  have HBK := Lib.hid hbk
  have HTK := Lib.hid htk
  clear hfr hU hbk hcur htk hlk hm hc0
  have h8 : (0 : Int) ≤ (n : Int) % 8 := by omega
  have h88 : (n : Int) % 8 < 8 := by omega
  go_region
  all_goals go_wp2_with fail
  rw [flipByte_v]
  have hxc : x.length ≤ cap := by
    rcases HFR.out.1.2 with ⟨h, _⟩ | ⟨g', cap', cur', hv, _, _, hn, _⟩
    · cases h
    · cases hv; omega
  obtain ⟨hS2, hB2, hU2, hK2⟩ := flip_mid HS.out HU.out hgb HBK.out hcs HTK.out n hb hxc
  refine (set_any _ _ B st hS2 name _ x.length cap _ true hB2 hn).mono ?_
  rintro e w3 ⟨rfl, hS3, hU3, hK3⟩
  go_wp2_with fail
  go_ret
  exact ⟨rfl, chain hU2 hK2 hS3 hU3 hK3⟩

set_option maxRecDepth 100000 in
set_option maxHeartbeats 1000000 in
theorem flip_any (w : World) (F : Nat → Prop) (B : Nat) (st : St) (hS : IsStore w F B st) (name : ByteArray) (n : Int) (hn : st.chs.length < 1048576 * 1048576) (hl : (st.show name).length ≤ 1048576 * 1048576) (hmax : n ≤ 9223372036854775807) :
    Calls Try.prog 14 #[.pointer (some ⟨B, 0, none⟩), .string name, .int .i64 n] w (StPost w F B (st.canFlip name n) (st.flip name n)) := by
  cases hh : st.has name with
  | false =>
    have hc : st.canFlip name n = false := by simp [St.canFlip, hh]
    have hp : st.flip name n = st := by simp [St.flip, hc]
    rw [hc, hp]
    have HA := Lib.hid (has_any' w F B st hS name _ hh)
    have HS := Lib.hid hS
    clear hh hc hp hS hl hn
    go_enter Try.func14, Try.ntmps14
    go_wp2_with (go_at_call 29; refine HA.out.mono ?_; rintro e w1 ⟨rfl, rfl⟩)
    go_ret
    exact StPost.same HS.out
  | true =>
    rcases Int.lt_or_le n 0 with h0 | h0
    · have hc : st.canFlip name n = false := by simp [St.canFlip]; intro _ h; omega
      have hp : st.flip name n = st := by simp [St.flip, hc]
      rw [hc, hp]
      have HA := Lib.hid (has_any' w F B st hS name _ hh)
      have HS := Lib.hid hS
      clear hh hc hp hS hl hn
      go_enter Try.func14, Try.ntmps14
      go_wp2_with (go_at_call 29; refine HA.out.mono ?_; rintro e w1 ⟨rfl, rfl⟩)
      go_ret
      exact StPost.same HS.out
    · obtain ⟨k, rfl⟩ := Int.eq_ofNat_of_zero_le h0
      by_cases hb : k / 8 < (st.show name).length
      · have hc : st.canFlip name k = true := by simp [St.canFlip, hh]; omega
        have hp : st.flip name k = st.set name (some (flipped (st.show name) k)) := by simp [St.flip, hc]
        rw [hc, hp]
        exact flip_yes w F B st hS name k hn hh hb hl
      · have hc : st.canFlip name k = false := by simp [St.canFlip, hh]; omega
        have hp : st.flip name k = st := by simp [St.flip, hc]
        rw [hc, hp]
        have HA := Lib.hid (has_any' w F B st hS name _ hh)
        have HS := Lib.hid hS
        obtain ⟨m1, m2, ca, cc, pa, pc, k1, k2, xs, P0⟩ := hS
        obtain ⟨wa, wl, wc, hw1, hwb, hw2⟩ := getD_b P0.rel1 name
        change IsB w F tB _ (st.show name) at hwb
        obtain rfl : wl = (st.show name).length := by obtain ⟨_, _, h, _⟩ := hwb; cases h; rfl
        have hc0 := cell_blk P0.blk 0 _ rfl
        have hm := P0.map1
        have hlk : (Instr.lookup 44 (.map (some m1)) (.string name) false).run Try.prog w = .ok (.slice wa (st.show name).length wc) w := by
          rw [lookup1_str Try.underlying44 Try.underlying9 zero_b hm name, hw1]
        generalize (st.show name).length = L at *
        have hb' : ¬ ((k : Int) / 8 < (L : Int)) := by omega
        clear hh hc hp P0 hw1 hw2 hwb hb
        go_enter Try.func14, Try.ntmps14
        go_wp2_with (go_at_call 29; refine HA.out.mono ?_; rintro e w1 ⟨rfl, rfl⟩)
        go_ret
        exact StPost.same HS.out
end Go.Proofs.Ytajmaebofhkjjaa
