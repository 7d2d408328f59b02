import Derived.Test.YtajmaebofhkjjaaRrep
namespace Go.Proofs.Ytajmaebofhkjjaa
open Go.RowKit Go.Proofs.Dm Go.MapKept
attribute [local go_sem ↓] Go.wp_at_zero Go.wp_at_succ

def rswap (L : List RC) (a b : ByteArray) : List RC :=
  match rsh L a, rsh L b with
  | some i, some k => if i = k then L else match L[i]?, L[k]? with | some x, some y => (L.set i { x with b := y.b }).set k { y with b := x.b } | _, _ => L
  | _, _ => L

theorem new2 (w : World) (x y : Obj) : ((w.alloc x).alloc y).heap[w.heap.size + 1]? = some y := by simpa using heap_alloc_new (w.alloc x) y
theorem Upd.isB {w w' : World} {R : Nat} {arr : Array Value} {f : Nat × Nat} (hU : Upd (fun b => b = R) w w') (hR : w.heap[R]? = some (.cells arr 29 f)) {F F' : Nat → Prop} {v : Value} {x : List UInt8} (h : IsB w F tB v x) (hF : ∀ g, g < w.heap.size → F g → F' g) : IsB w' F' tB v x :=
  IsRow.kept h hF (fun g hg _ ⟨a, t, ff, ht, hb⟩ => hU.block g hg (by rintro rfl; rw [hR] at hb; cases hb; revert ht; unfold tB; decide))
theorem Upd.isBB {w w' : World} {R : Nat} {arr : Array Value} {f : Nat × Nat} (hU : Upd (fun b => b = R) w w') (hR : w.heap[R]? = some (.cells arr 29 f)) {F F' : Nat → Prop} {v : Value} {x : List (List UInt8)} (h : IsBB w F v x) (hF : ∀ g, g < w.heap.size → F g → F' g) : IsBB w' F' v x :=
  IsBB.kept h hF (fun g hg _ ⟨a, t, ff, ht, hb⟩ => hU.block g hg (by rintro rfl; rw [hR] at hb; cases hb; revert ht; unfold tB tBB; decide))

set_option maxRecDepth 100000 in
set_option maxHeartbeats 2000000 in
theorem rswap_no (w : World) (F : Nat → Prop) (R : Nat) (st : RSt) (hS : IsRef w F R st) (a b : ByteArray) (hn : st.L.length ≤ 1048576 * 1048576) (hc : ((rsh st.L a).isSome && (rsh st.L b).isSome) = false) :
    Calls Try.prog 9 #[.pointer (some ⟨R, 0, none⟩), .string a, .string b] w (RPost w F R false st) := by
  have HA := Lib.hid (shown_any w F R st hS a hn)
  have HB : Hid (∀ w1, w1.heap = w.heap → Calls Try.prog 30 #[.pointer (some ⟨R, 0, none⟩), .string b] w1 (ShPost w1 (.int .i64 (rshI st.L b)))) :=
    Lib.hid (fun w1 h => shown_any w1 F R st (hS.kept (fun _ _ h => h) (fun _ _ _ => by rw [h])) b hn)
  have HS := Lib.hid hS
  clear hS
  cases ha : rsh st.L a with
  | none =>
    have HR := Lib.hid (rshI_none ha)
    clear ha hc
    go_enter Try.func9, Try.ntmps9
    go_wp2_with fail
    refine HA.out.mono ?_
    rintro e w1 ⟨rfl, hU, hh⟩
    rw [HR.out]
    have HU := Lib.hid hU
    have HH := Lib.hid hh
    clear hU hh
    go_wp2_with fail
    refine (HB.out w1 HH.out).mono ?_
    rintro e w2 ⟨rfl, hU2, hh2⟩
    have HU2 := Lib.hid hU2
    clear hU2 hh2
    go_wp2_with fail
    go_ret
    exact RPost.same HS.out (HU.out.trans HU2.out (fun _ _ h => h))
  | some i =>
    cases hb : rsh st.L b with
    | some k => simp [ha, hb] at hc
    | none =>
      have HR := Lib.hid (rshI_some ha)
      have HR2 := Lib.hid (rshI_none hb)
      clear ha hc hb
      go_enter Try.func9, Try.ntmps9
      go_wp2_with fail
      refine HA.out.mono ?_
      rintro e w1 ⟨rfl, hU, hh⟩
      rw [HR.out]
      have HU := Lib.hid hU
      have HH := Lib.hid hh
      clear hU hh
      go_wp2_with fail
      refine (HB.out w1 HH.out).mono ?_
      rintro e w2 ⟨rfl, hU2, hh2⟩
      rw [HR2.out]
      have HU2 := Lib.hid hU2
      clear hU2 hh2
      go_wp2_with fail
      go_ret
      exact RPost.same HS.out (HU.out.trans HU2.out (fun _ _ h => h))

set_option maxRecDepth 100000 in
set_option maxHeartbeats 4000000 in
theorem rswap_yes (w : World) (F : Nat → Prop) (R : Nat) (st : RSt) (hS : IsRef w F R st) (a b : ByteArray) (hn : st.L.length ≤ 1048576 * 1048576) (i k : Nat) (ha : rsh st.L a = some i) (hb : rsh st.L b = some k) (hi : i < st.L.length) (hk : k < st.L.length) (res : List RC) (hres : res = if i = k then st.L else (st.L.set i { st.L[i] with b := st.L[k].b }).set k { st.L[k] with b := st.L[i].b }) :
    Calls Try.prog 9 #[.pointer (some ⟨R, 0, none⟩), .string a, .string b] w (RPost w F R true { st with L := res }) := by
  have HRES := Lib.hid hres
  clear hres
  have HA := Lib.hid (shown_any w F R st hS a hn)
  have HB : Hid (∀ w1, w1.heap = w.heap → Calls Try.prog 30 #[.pointer (some ⟨R, 0, none⟩), .string b] w1 (ShPost w1 (.int .i64 (rshI st.L b)))) :=
    Lib.hid (fun w1 h => shown_any w1 F R st (hS.kept (fun _ _ h => h) (fun _ _ _ => by rw [h])) b hn)
  have HS := Lib.hid hS
  have HR := Lib.hid (rshI_some ha)
  have HR2 := Lib.hid (rshI_some hb)
  obtain ⟨la, lc, oa, oc, ovs, P0⟩ := hS
  have HP := Lib.hid P0
  clear ha hb P0
  go_enter Try.func9, Try.ntmps9
  go_wp2_with fail
  refine HA.out.mono ?_
  rintro e w1 ⟨rfl, hU, hh⟩
  rw [HR.out]
  have HU := Lib.hid hU
  have HH := Lib.hid hh
  clear hU hh
  go_wp2_with fail
  refine (HB.out w1 HH.out).mono ?_
  rintro e w2 ⟨rfl, hU2, hh2⟩
  rw [HR2.out]
  have P2 := HP.out.kept (w' := w2) (F' := F) (fun _ _ h => h) (fun g _ _ => by rw [hh2, HH.out])
  have HU2 : Hid (Upd (fun _ => False) w w2) := Lib.hid (HU.out.trans hU2 (fun _ _ h => h))
  clear hU2 hh2 HU HH HA HB HR HR2
  have hc0 := cell_blk P2.blk 0 _ rfl
  obtain ⟨g, o, arr, f, rfl, hg, hbk, hcs⟩ := P2.cells (by omega)
  obtain ⟨h1, h2, ba, bc, aa, ac, h3, h3b, h4, h4b⟩ := hcs i hi
  obtain ⟨q1, q2, va, vc, ua, uc, q3, q3b, q4, q4b⟩ := hcs k hk
  have l1 := cell_blk hbk _ _ h1
  have l2 := cell_blk hbk _ _ h2
  have l3 := cell_blk hbk _ _ h3
  have l4 := cell_blk hbk _ _ h4
  have r1 := cell_blk hbk _ _ q1
  have r2 := cell_blk hbk _ _ q2
  have r3 := cell_blk hbk _ _ q3
  have r4 := cell_blk hbk _ _ q4
  have hks : ∀ w' : World, w'.heap[R]? = w2.heap[R]? → w'.heap[g]? = w2.heap[g]? → (w'.cell? ⟨R, 0, none⟩ = some (.slice (some ⟨g, o, none⟩) st.L.length lc) ∧ w'.cell? ⟨g, o + i * 4, none⟩ = some (.string st.L[i].name) ∧ w'.cell? ⟨g, o + i * 4 + 1, none⟩ = some (.bool st.L[i].shows) ∧ w'.cell? ⟨g, o + i * 4 + 2, none⟩ = some (.slice ba st.L[i].b.length bc) ∧ w'.cell? ⟨g, o + i * 4 + 3, none⟩ = some (.slice aa st.L[i].all.length ac) ∧ w'.cell? ⟨g, o + k * 4, none⟩ = some (.string st.L[k].name) ∧ w'.cell? ⟨g, o + k * 4 + 1, none⟩ = some (.bool st.L[k].shows) ∧ w'.cell? ⟨g, o + k * 4 + 2, none⟩ = some (.slice va st.L[k].b.length vc) ∧ w'.cell? ⟨g, o + k * 4 + 3, none⟩ = some (.slice ua st.L[k].all.length uc)) := by
    intro w' e1 e2
    have b1 := e1.trans P2.blk
    have b2 := e2.trans hbk
    exact ⟨cell_blk b1 0 _ rfl, cell_blk b2 _ _ h1, cell_blk b2 _ _ h2, cell_blk b2 _ _ h3, cell_blk b2 _ _ h4, cell_blk b2 _ _ q1, cell_blk b2 _ _ q2, cell_blk b2 _ _ q3, cell_blk b2 _ _ q4⟩
  have KS := Lib.hid hks
  have LR := Lib.hid (lt_of_blk P2.blk)
  have LG := Lib.hid (lt_of_blk hbk)
  have HX := Lib.hid h3b
  have HXA := Lib.hid h4b
  have HY := Lib.hid q3b
  have HYA := Lib.hid q4b
  have HP2 := Lib.hid P2
  have HI := Lib.hid hi
  have HK := Lib.hid hk
  have HN := Lib.hid hn
  have hi0 : (0 : Int) ≤ (i : Int) := by omega
  have hi1 : (i : Int) < (st.L.length : Int) := by omega
  have hk0 : (0 : Int) ≤ (k : Int) := by omega
  have hk1 : (k : Int) < (st.L.length : Int) := by omega
  clear P2 hcs hbk hg h1 h2 h3 h3b h4 h4b q1 q2 q3 q3b q4 q4b hks
  go_wp2_with fail
  go_region_held3 (fun w' => w'.cell? ⟨R, 0, none⟩ = some (.slice (some ⟨g, o, none⟩) st.L.length lc) ∧ w'.cell? ⟨g, o + i * 4, none⟩ = some (.string st.L[i].name) ∧ w'.cell? ⟨g, o + i * 4 + 1, none⟩ = some (.bool st.L[i].shows) ∧ w'.cell? ⟨g, o + i * 4 + 2, none⟩ = some (.slice ba st.L[i].b.length bc) ∧ w'.cell? ⟨g, o + i * 4 + 3, none⟩ = some (.slice aa st.L[i].all.length ac) ∧ w'.cell? ⟨g, o + k * 4, none⟩ = some (.string st.L[k].name) ∧ w'.cell? ⟨g, o + k * 4 + 1, none⟩ = some (.bool st.L[k].shows) ∧ w'.cell? ⟨g, o + k * 4 + 2, none⟩ = some (.slice va st.L[k].b.length vc) ∧ w'.cell? ⟨g, o + k * 4 + 3, none⟩ = some (.slice ua st.L[k].all.length uc))
    (first
      | exact KS.out _ rfl rfl
      | exact KS.out _ (Below.heap_alloc _ _ _ LR.out) (Below.heap_alloc _ _ _ LG.out)
      | exact KS.out _ ((Below.heap_alloc _ _ _ (Nat.lt_of_lt_of_le LR.out (by simp))).trans (Below.heap_alloc _ _ _ LR.out)) ((Below.heap_alloc _ _ _ (Nat.lt_of_lt_of_le LG.out (by simp))).trans (Below.heap_alloc _ _ _ LG.out)))
    (fail)
  all_goals
    have two : ∀ (x y : Obj) (b : Nat), b < w2.heap.size → ((w2.alloc x).alloc y).drew.heap[b]? = w2.heap[b]? := fun x y b hb => (Below.heap_alloc _ _ _ (Nat.lt_of_lt_of_le hb (by simp))).trans (Below.heap_alloc _ _ _ hb)
    have TWO := Lib.hid two
    clear two
    by_cases hik : i = k
    · subst hik
      all_goals
        have hne : ((i : Int) != (i : Int)) = false := by simp
        go_wp2_with fail
        go_ret
        have hr := HRES.out
        simp only [if_true] at hr
        rw [hr]
        exact RPost.same HS.out (((HU2.out.alloc _).alloc _).drew)
    · have HRES' : Hid _ := Lib.hid (HRES.out.trans (if_neg hik))
      have hne : ((i : Int) != (k : Int)) = true := by rw [bne_iff_ne]; omega
      have HIK := Lib.hid hik
      clear hik
      all_goals
        go_wp2_with fail
        refine (rset_any _ F R st ⟨_, _, _, _, _, HP2.out.kept (fun _ _ h => h) (by intro b hb _; exact TWO.out _ _ b hb)⟩ i HI.out { st.L[i] with b := st.L[k].b } va _ vc (IsRow.kept HY.out (fun _ _ h => h) (by intro b hb _ _; exact TWO.out _ _ b hb)) aa _ ac (HXA.out.kept (fun _ _ h => h) (by intro b hb _ _; exact TWO.out _ _ b hb)) HN.out).mono ?_
        rintro e w3 ⟨rfl, hS3, hU3⟩
        have HS3 := Lib.hid hS3
        have HU3 := Lib.hid hU3
        clear hS3 hU3
        have hA := HU3.out.keep (drew_keep (alloc_keep (heap_alloc_new w2 _) _)) (by have := LR.out; omega)
        have hB := HU3.out.keep (b := w2.heap.size + 1) (drew_keep (new2 w2 _ _)) (by have := LR.out; omega)
        have a0 := cell_blk hA 0 _ rfl
        have a1 := cell_blk hA 1 _ rfl
        have a2 := cell_blk hA 2 _ rfl
        have a3 := cell_blk hA 3 _ rfl
        have b0 := cell_blk hB 0 _ rfl
        have b1 := cell_blk hB 1 _ rfl
        have b2 := cell_blk hB 2 _ rfl
        have b3 := cell_blk hB 3 _ rfl
        clear hA hB
        go_wp2_with fail
        refine (rset_any _ _ R _ HS3.out k (by simpa using HK.out) { st.L[k] with b := st.L[i].b } ba _ bc (Upd.isB HU3.out (by exact (TWO.out _ _ R LR.out).trans HP2.out.blk) (F := F) (IsRow.kept HX.out (fun _ _ h => h) (by intro b hb _ _; exact TWO.out _ _ b hb)) (fun _ _ h => .inl h)) ua _ uc (Upd.isBB HU3.out (by exact (TWO.out _ _ R LR.out).trans HP2.out.blk) (F := F) (HYA.out.kept (fun _ _ h => h) (by intro b hb _ _; exact TWO.out _ _ b hb)) (fun _ _ h => .inl h)) (by simpa using HN.out)).mono ?_
        rintro e w4 ⟨rfl, hS4, hU4⟩
        have HS4 := Lib.hid hS4
        have HU4 := Lib.hid hU4
        clear hS4 hU4
        go_wp2_with fail
        go_ret
        rw [HRES'.out]
        exact RPost.step (((HU2.out.alloc _).alloc _).drew) (HS4.out.kept (fun g _ h => h.elim (fun h => h.imp id (fun h => ⟨h.1, Nat.lt_of_lt_of_le h.2 HU4.out.size⟩)) (fun h => .inr ⟨Nat.le_trans HU3.out.size h.1, h.2⟩)) (fun _ _ _ => rfl)) (HU3.out.trans HU4.out (fun _ _ h => h))

theorem rswap_any (w : World) (F : Nat → Prop) (R : Nat) (st : RSt) (hS : IsRef w F R st) (a b : ByteArray) (hn : st.L.length ≤ 1048576 * 1048576) :
    Calls Try.prog 9 #[.pointer (some ⟨R, 0, none⟩), .string a, .string b] w (RPost w F R ((rsh st.L a).isSome && (rsh st.L b).isSome) { st with L := rswap st.L a b }) := by
  cases ha : rsh st.L a with
  | none =>
    have hr : rswap st.L a b = st.L := by simp [rswap, ha]
    rw [hr]
    exact rswap_no w F R st hS a b hn (by simp [ha])
  | some i =>
    cases hb : rsh st.L b with
    | none =>
      have hr : rswap st.L a b = st.L := by simp [rswap, ha, hb]
      rw [hr]
      exact rswap_no w F R st hS a b hn (by simp [ha, hb])
    | some k =>
      have hi := rsh_lt ha
      have hk := rsh_lt hb
      exact rswap_yes w F R st hS a b hn i k ha hb hi hk _ (by simp [rswap, ha, hb, List.getElem?_eq_getElem hi, List.getElem?_eq_getElem hk])
end Go.Proofs.Ytajmaebofhkjjaa
