import Derived.Test.YtajmaebofhkjjaaRswap
import Derived.Test.YtajmaebofhkjjaaFlip
namespace Go.Proofs.Ytajmaebofhkjjaa
open Go.RowKit Go.Proofs.Dm Go.MapKept
attribute [local go_sem ↓] Go.wp_at_zero Go.wp_at_succ

def rcanFlip (L : List RC) (name : ByteArray) (n : Int) : Bool := match rget L name with | some b => decide (0 ≤ n) && decide (n / 8 < b.length) | none => false
def rflip (L : List RC) (name : ByteArray) (n : Int) : List RC := if rcanFlip L name n then (match rsh L name with | some k => (match L[k]? with | some c => L.set k { c with b := flipped c.b n.toNat } | none => L) | none => L) else L

theorem flip_row {w1 : World} {F : Nat → Prop} {g cap : Nat} {x : List UInt8} {cur : Array Value} (hbk : w1.heap[g]? = some (.cells cur 5 (0, 0))) (hcs : cur.size = cap)
    (htk : cur.toList.take x.length = x.map bv) (n : Nat) (hb : n / 8 < x.length) (hxc : x.length ≤ cap) (hF : F g) :
    IsB (w1.setCell ⟨g, n / 8, none⟩ (bv (flipByte x[n / 8] (n % 8)))).drew F tB (.slice (some ⟨g, 0, none⟩) x.length cap) (flipped x n) := by
  refine ⟨_, cap, by rw [show (flipped x n).length = x.length by simp [flipped]], (fun h => by cases h), by simpa [flipped] using hxc, fun _ => ⟨g, 0, _, _, _, rfl, hF, rfl, blk_setCell hbk _ _, fun i u hu => ?_⟩⟩
  have hxi : ∀ i (h : i < x.length), cur[i]? = some (bv x[i]) := fun i h => fresh_cell htk i h
  simp only [Nat.zero_add]
  simp only [flipped, List.map_set, List.getElem?_set, List.length_map] at hu
  rw [Array.getElem?_setIfInBounds]
  by_cases h : n / 8 = i
  · subst h
    rw [if_pos rfl, if_pos hb] at hu
    rw [if_pos rfl, if_pos (by omega)]
    rw [← hu]; simp [List.getElem?_eq_getElem hb]
  · rw [if_neg h] at hu
    rw [if_neg h]
    rw [List.getElem?_map] at hu
    by_cases hi : i < x.length
    · rw [hxi i hi, ← hu]; simp [List.getElem?_eq_getElem hi]
    · rw [List.getElem?_eq_none (by omega)] at hu; cases hu

set_option maxRecDepth 100000 in
set_option maxHeartbeats 2000000 in
theorem rflip_no (w : World) (F : Nat → Prop) (R : Nat) (st : RSt) (hS : IsRef w F R st) (name : ByteArray) (n : Int) (hn : st.L.length ≤ 1048576 * 1048576) (hmax : n ≤ 9223372036854775807) (hc : rcanFlip st.L name n = false) :
    Calls Try.prog 15 #[.pointer (some ⟨R, 0, none⟩), .string name, .int .i64 n] w (RPost w F R false st) := by
  have HA := Lib.hid (shown_any w F R st hS name hn)
  have HS := Lib.hid hS
  cases hr : rsh st.L name with
  | none =>
    have HR := Lib.hid (rshI_none hr)
    clear hc hr hS
    go_enter Try.func15, Try.ntmps15
    go_wp2_with fail
    refine HA.out.mono ?_
    rintro e w1 ⟨rfl, hU, hh⟩
    rw [HR.out]
    have HU := Lib.hid hU
    clear hU hh
    go_wp2_with fail
    go_ret
    exact RPost.same HS.out HU.out
  | some k =>
    have HR := Lib.hid (rshI_some hr)
    have hk := rsh_lt hr
    have hg : rget st.L name = some st.L[k].b := by simp [rget, hr, List.getElem?_eq_getElem hk]
    simp only [rcanFlip, hg] at hc
    obtain ⟨la, lc, oa, oc, ovs, P0⟩ := hS
    have HP := Lib.hid P0
    clear hr hg P0
    rcases Int.lt_or_le n 0 with h0 | h0
    · clear hc
      go_enter Try.func15, Try.ntmps15
      go_wp2_with fail
      refine HA.out.mono ?_
      rintro e w1 ⟨rfl, hU, hh⟩
      rw [HR.out]
      have HU := Lib.hid hU
      clear hU hh
      go_wp2_with fail
      go_ret
      exact RPost.same HS.out HU.out
    · obtain ⟨j, rfl⟩ := Int.eq_ofNat_of_zero_le h0
      have hj : ¬ ((j : Int) / 8 < ((st.L[k].b.length : Nat) : Int)) := by
        intro h
        simp at hc; omega
      clear hc
      go_enter Try.func15, Try.ntmps15
      go_wp2_with fail
      refine HA.out.mono ?_
      rintro e w1 ⟨rfl, hU, hh⟩
      rw [HR.out]
      have P1 := HP.out.kept (w' := w1) (F' := F) (fun _ _ h => h) (fun g _ _ => by rw [hh])
      have hc0 := cell_blk P1.blk 0 _ rfl
      obtain ⟨g, o, arr, f, rfl, hg, hb, hcs⟩ := P1.cells (by omega)
      obtain ⟨h1, h2, ba, bc, aa, ac, h3, h3b, h4, h4b⟩ := hcs k hk
      have l3 := cell_blk hb _ _ h3
      generalize st.L[k].b.length = al at *
      have HU := Lib.hid hU
      clear P1 hU hh hcs hb hg h1 h2 h3 h3b h4 h4b HA
      go_wp2_with fail
      go_ret
      exact RPost.same HS.out HU.out

set_option maxRecDepth 100000 in
set_option maxHeartbeats 2000000 in
theorem rflip_yes (w : World) (F : Nat → Prop) (R : Nat) (st : RSt) (hS : IsRef w F R st) (name : ByteArray) (j : Nat) (hn : st.L.length ≤ 1048576 * 1048576) (k : Nat) (hr : rsh st.L name = some k) (hk : k < st.L.length) (hj : j / 8 < st.L[k].b.length) (hl : st.L[k].b.length ≤ 1048576 * 1048576) :
    Calls Try.prog 15 #[.pointer (some ⟨R, 0, none⟩), .string name, .int .i64 j] w (RPost w F R true { st with L := st.L.set k { st.L[k] with b := flipped st.L[k].b j } }) := by
  have HA := Lib.hid (shown_any w F R st hS name hn)
  have HR := Lib.hid (rshI_some hr)
  obtain ⟨la, lc, oa, oc, ovs, P0⟩ := hS
  have HP := Lib.hid P0
  clear hr P0
  go_enter Try.func15, Try.ntmps15
  go_wp2_with fail
  refine HA.out.mono ?_
  rintro e w1 ⟨rfl, hU, hh⟩
  rw [HR.out]
  have P1 := HP.out.kept (w' := w1) (F' := F) (fun _ _ h => h) (fun g _ _ => by rw [hh])
  have hc0 := cell_blk P1.blk 0 _ rfl
  obtain ⟨g, o, arr, f, rfl, hg, hb, hcs⟩ := P1.cells (by omega)
  obtain ⟨h1, h2, ba, bc, aa, ac, h3, h3b, h4, h4b⟩ := hcs k hk
  have l1 := cell_blk hb _ _ h1
  have l2 := cell_blk hb _ _ h2
  have l3 := cell_blk hb _ _ h3
  have l4 := cell_blk hb _ _ h4
  have HX := Lib.hid h4b
  have HXB := Lib.hid h3b
  have HU := Lib.hid hU
  have HP1 := Lib.hid P1
  have HK := Lib.hid hk
  have HN := Lib.hid hn
  have hj0 : (0 : Int) ≤ (j : Int) / 8 := by omega
  have hj1 : (j : Int) / 8 < ((st.L[k].b.length : Nat) : Int) := by omega
  clear P1 hU hh hcs hb hg h1 h2 h3 h3b h4 h4b HA HR
  go_wp2_with fail
  refine (copyBytes_any _ F tB ba _ bc st.L[k].b (IsRow.kept HXB.out (fun _ _ h => h) (by intro g hg _ _; exact Below.heap_alloc _ _ _ hg)) (by omega)).mono ?_
  rintro e w2 ⟨a2, c2, rfl, hfr, hU2⟩
  obtain ⟨g2, cap, cur, rfl, hgb, hbk, hcap, hcs, htk⟩ := fresh_some hfr (by omega)
  subst hcap
  have hbox := hU2.keep (heap_alloc_new w1 _) (fun h => h)
  have hxc : st.L[k].b.length ≤ c2 := by
    rcases hfr.1.2 with ⟨h, _⟩ | ⟨g', cap', cur', hv, _, _, hn, _⟩
    · cases h
    · cases hv; exact hn
  have e2 := cell_blk hbox 2 _ rfl
  have ef2 := free_blk hbox 2
  have HBOX := Lib.hid hbox
  have HBK := Lib.hid hbk
  have HU2 := Lib.hid hU2
  have HTK := Lib.hid htk
  have HCS := Lib.hid hcs
  have HXC := Lib.hid hxc
  have HGB := Lib.hid hgb
  clear hfr hbox hbk hU2 htk hcs hxc hgb
  go_wp2_with fail
  obtain ⟨w3, hw3⟩ : ∃ w3, w3 = w2.setCell ⟨w1.heap.size, 2, none⟩ (.slice (some ⟨g2, 0, none⟩) st.L[k].b.length c2) := ⟨_, rfl⟩
  rw [← hw3]
  have hgne : g2 ≠ w1.heap.size := by have := HGB.out; simp at this; omega
  have hbox3 : w3.heap[w1.heap.size]? = some (.cells #[.string st.L[k].name, .bool st.L[k].shows, .slice (some ⟨g2, 0, none⟩) st.L[k].b.length c2, .slice aa st.L[k].all.length ac] 59 (0, 0)) := by rw [hw3, blk_setCell HBOX.out 2 _]; rfl
  have hg3 : w3.heap[g2]? = some (.cells cur 5 (0, 0)) := by rw [hw3]; exact setCell_keep HBK.out _ _ hgne
  have hU3 : Upd (fun _ => False) w w3 := by
    rw [hw3]
    exact Upd.setCell (((HU.out.alloc _)).trans HU2.out (fun _ _ h => h)) (fun h => by have := HU.out.size; simp at h; omega) _
  have hU13 : Upd (fun _ => False) w1 w3 := by
    rw [hw3]
    exact Upd.setCell ((((Upd.refl _ w1).alloc _)).trans HU2.out (fun _ _ h => h)) (fun h => by simp at h) _
  have hcur : cur[j / 8]? = some (.int .u8 (st.L[k].b[j / 8]).toNat) := by
    have := fresh_cell HTK.out (j / 8) hj
    simpa [bv] using this
  have x0 := cell_blk hbox3 0 _ rfl
  have x1 := cell_blk hbox3 1 _ rfl
  have x2 := cell_blk hbox3 2 _ rfl
  have x3 := cell_blk hbox3 3 _ rfl
  have y0 := cell_blk hg3 _ _ hcur
  have yf := free_blk hg3 (j / 8)
  have h8 : (0 : Int) ≤ (j : Int) % 8 := by omega
  have h88 : (j : Int) % 8 < 8 := by omega
  have HBOX3 := Lib.hid hbox3
  have HG3 := Lib.hid hg3
  have HU3 := Lib.hid hU3
  have HU13 := Lib.hid hU13
  have HGNE := Lib.hid hgne
  clear hbox3 hg3 hU3 hU13 hcur hw3 e2 ef2
  have hgne2 := Ne.symm hgne
  go_region
  all_goals go_wp2_with fail
  rw [flipByte_v]
  have hgw : w1.heap.size < g2 := by have := HGB.out; simp at this; omega
  have hUU : ∀ v, Upd (fun _ => False) w1 (w3.setCell ⟨g2, j / 8, none⟩ v).drew := fun v => (Upd.setCell HU13.out (fun h => by simp at h; omega) v).drew
  have hrow := flip_row (F := fun b => F b ∨ b = g2) HG3.out HCS.out HTK.out j hj HXC.out (.inr rfl)
  have hUV := hUU (bv (flipByte st.L[k].b[j / 8] (j % 8)))
  generalize hw4 : (w3.setCell ⟨g2, j / 8, none⟩ (bv (flipByte st.L[k].b[j / 8] (j % 8)))).drew = w4 at *
  have hlen : (flipped st.L[k].b j).length = st.L[k].b.length := by simp [flipped]
  have hlt4 : g2 < w4.heap.size := by rw [← hw4]; have := lt_of_blk HG3.out; simpa [World.setCell] using this
  refine (rset_any _ (fun b => F b ∨ b = g2) R st ⟨_, _, _, _, _, HP1.out.kept (fun _ _ h => .inl h) (fun b hb _ => hUV.block b hb (fun h => h))⟩ k HK.out { st.L[k] with b := flipped st.L[k].b j } _ _ c2 hrow aa _ ac (HX.out.kept (fun _ _ h => .inl h) (fun b hb _ _ => hUV.block b hb (fun h => h))) HN.out).mono ?_
  rintro e w5 ⟨rfl, hS5, hU5⟩
  have HS5 := Lib.hid hS5
  have HU5 := Lib.hid hU5
  have HUV := Lib.hid hUV
  have HLT4 := Lib.hid hlt4
  have HGW := Lib.hid hgw
  clear hS5 hU5 hUV hw4 hUU hrow hlen hlt4 hgw
  go_wp2_with fail
  go_ret
  exact RPost.step HU.out (HS5.out.kept (fun g _ h => h.elim (fun h => h.elim .inl (fun h => .inr ⟨by rw [h]; exact Nat.le_of_lt HGW.out, by rw [h]; exact Nat.lt_of_lt_of_le HLT4.out HU5.out.size⟩)) (fun h => .inr ⟨Nat.le_trans HUV.out.size h.1, h.2⟩)) (fun _ _ _ => rfl)) ((HUV.out.mono (S' := fun b => b = R) (fun _ _ h => h.elim)).trans HU5.out (fun _ _ h => h))

theorem rflip_any (w : World) (F : Nat → Prop) (R : Nat) (st : RSt) (hS : IsRef w F R st) (name : ByteArray) (n : Int) (hn : st.L.length ≤ 1048576 * 1048576) (hmax : n ≤ 9223372036854775807) (hl : ∀ c ∈ st.L, c.b.length ≤ 1048576 * 1048576) :
    Calls Try.prog 15 #[.pointer (some ⟨R, 0, none⟩), .string name, .int .i64 n] w (RPost w F R (rcanFlip st.L name n) { st with L := rflip st.L name n }) := by
  cases hc : rcanFlip st.L name n with
  | false =>
    have hr : rflip st.L name n = st.L := by simp [rflip, hc]
    rw [hr]
    exact rflip_no w F R st hS name n hn hmax hc
  | true =>
    cases hr : rsh st.L name with
    | none => simp [rcanFlip, rget, hr] at hc
    | some k =>
      have hk := rsh_lt hr
      have hg : rget st.L name = some st.L[k].b := by simp [rget, hr, List.getElem?_eq_getElem hk]
      have hc' := hc
      simp only [rcanFlip, hg, Bool.and_eq_true, decide_eq_true_eq] at hc'
      obtain ⟨j, rfl⟩ := Int.eq_ofNat_of_zero_le hc'.1
      have hj : j / 8 < st.L[k].b.length := by omega
      have he : rflip st.L name j = st.L.set k { st.L[k] with b := flipped st.L[k].b j } := by simp [rflip, hc, hr, List.getElem?_eq_getElem hk]
      rw [he]
      exact rflip_yes w F R st hS name j hn k hr hk hj (hl _ (List.getElem_mem hk))
end Go.Proofs.Ytajmaebofhkjjaa
