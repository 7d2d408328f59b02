import Derived.Test.YtajmaebofhkjjaaSim5
import Derived.Test.YtajmaebofhkjjaaSeq
import Derived.Test.YtajmaebofhkjjaaSpoil
import Derived.Test.YtajmaebofhkjjaaBeq
import Derived.Test.YtajmaebofhkjjaaRnames
namespace Go.Proofs.Ytajmaebofhkjjaa
open Go.RowKit Go.Proofs.Dm Go.MapKept
attribute [local go_sem ↓] Go.wp_at_zero Go.wp_at_succ

set_option maxRecDepth 100000 in
set_option maxHeartbeats 1000000 in
theorem spoil_none (w : World) : Calls Try.prog 21 #[.slice none 0 0] w fun e w' => e = .returned (.tuple #[]) ∧ w = w' := by
  go_enter Try.func21, Try.ntmps21
  go_wp2_with fail
  refine wp_loop_rounds 1 ?_
  rw [rounds_succ]
  go_wp2_with fail
  go_end0
  exact ⟨rfl, rfl⟩

/-- Spoil of a row that is the call's own. -/
theorem spoil_fresh (w0 w1 w : World) (a : Option Addr) (c : Nat) (b : List UInt8) (hf : FreshB w0 w1 a c b) (hk : ∀ g, g < w1.heap.size → w.heap[g]? = w1.heap[g]?) (hl : b.length ≤ 1048576 * 1048576) :
    Calls Try.prog 21 #[.slice a b.length c] w fun e w' => e = .returned (.tuple #[]) ∧ Upd (fun g => w0.heap.size ≤ g) w w' := by
  obtain ⟨⟨h0, h⟩, hg⟩ := hf
  rcases h with ⟨h1, h2⟩ | ⟨g, cap, cur, hv, _, hb, hn, hc, hs, ht⟩
  · simp only [Value.slice.injEq] at h1
    obtain ⟨rfl, h3, rfl⟩ := h1
    rw [h3]
    exact (spoil_none w).mono (by rintro e w' ⟨rfl, rfl⟩; exact ⟨rfl, Upd.refl _ _⟩)
  · cases hv
    have hlt := lt_of_blk hb
    refine (spoil_some w g 0 b.length c hl ⟨⟨cur, (hk g hlt).trans hb, fun i hi => ?_⟩, Upd.refl _ _⟩).mono ?_
    · refine ⟨b[i], ?_⟩
      rw [Nat.zero_add]
      have : (b.map bv)[i]? = some (bv b[i]) := by simp [List.getElem?_eq_getElem hi]
      rw [← ht, List.getElem?_take] at this
      split at this
      · simpa using this
      · cases this
    · rintro e w' ⟨rfl, _, hU⟩
      exact ⟨rfl, hU.mono (fun i hi e => by subst e; exact (hg _ rfl).1)⟩

theorem keys_ok {st : St} {rs : RSt} {i : Nat} (hM : Sim st rs) (hB : Bnd st rs i) {k1 : List (ByteArray × Value)} {R : Value → List UInt8 → Prop} (hk : KRel R k1 st.shows) : ∀ p ∈ k1, p.1.size ≤ maxLen := by
  intro p hp
  obtain ⟨q, hq, he⟩ := krel_mem hk p hp
  have h1 : (kvGet st.shows q.1).isSome = true := kvGet_in.1 (List.mem_map.2 ⟨q, hq, rfl⟩)
  rw [hM.shows] at h1
  unfold showOf at h1
  cases hc : cellOf rs.L q.1 with
  | none => rw [hc] at h1; cases h1
  | some c =>
    have := (hB.cells c (List.mem_of_find?_eq_some hc)).name
    rw [cellOf_name hc] at this
    rw [← he]; exact this

theorem show_few {st : St} {rs : RSt} {i : Nat} (hM : Sim st rs) (hB : Bnd st rs i) : (sortedNames st.shows).length ≤ i := by
  rw [hM.names']
  unfold rnames
  rw [List.length_map]
  exact Nat.le_trans (List.length_filter_le _ _) hB.l

theorem sorted_len {α : Type} (k : List (ByteArray × α)) : (sortedNames k).length = k.length := by simp [sortedNames, keyList]

theorem shows_b {st : St} {rs : RSt} {i : Nat} (hM : Sim st rs) (hB : Bnd st rs i) (x : ByteArray) : ((rget rs.L x).getD []).length ≤ 300 := by
  rw [rget_show hM.rises]
  unfold showOf
  cases hc : cellOf rs.L x with
  | none => exact Nat.zero_le _
  | some c =>
    have := (hB.cells c (List.mem_of_find?_eq_some hc)).b
    cases hs : c.shows <;> simp [hs]; exact this

theorem own_isS {w : World} {a : Option Addr} {c : Nat} {l : List ByteArray} (h : w.ownsRow 0 9 1 (.slice a l.length c) l.length (l.map sv)) : IsS w (fun _ => True) (fun _ => True) (.slice a l.length c) l :=
  ownsRow_row h _ (fun _ _ => trivial) _ trivial

theorem isS_cell {w : World} {F : Nat → Prop} {T : TypeId → Prop} {a : Option Addr} {n c : Nat} {l : List ByteArray} (h : IsS w F T (.slice a n c) l) (k : Nat) (hk : k < l.length) :
    ∃ g o arr t f, a = some ⟨g, o, none⟩ ∧ w.heap[g]? = some (.cells arr t f) ∧ arr[o + k]? = some (sv l[k]) := by
  obtain ⟨_, _, he, _, _, hr⟩ := h
  cases he
  obtain ⟨g, o, arr, t, f, h1, _, _, h2, h3⟩ := hr (by rintro h; rw [List.map_eq_nil_iff] at h; rw [h] at hk; simp at hk)
  exact ⟨g, o, arr, t, f, h1, h2, h3 k _ (by simp [List.getElem?_eq_getElem hk])⟩
theorem upd_cell {w wr : World} {S : Nat → Prop} (hU : Upd S w wr) {g : Nat} {arr : Array Value} {t : TypeId} {f : Nat × Nat} (hb : w.heap[g]? = some (.cells arr t f)) (hn : ¬ S g) (o : Nat) (v : Value) (hv : arr[o]? = some v) : wr.cell? ⟨g, o, none⟩ = some v :=
  cell_blk (hU.keep hb hn) _ _ hv

theorem FreshB.upto {w w1 w2 : World} {a : Option Addr} {c : Nat} {b : List UInt8} (h : FreshB w w1 a c b) (hk : ∀ g, g < w1.heap.size → w2.heap[g]? = w1.heap[g]?) : IsB w2 (fun _ => True) tB (.slice a b.length c) b :=
  IsRow.kept (h.isB tB rfl) (fun _ _ _ => trivial) (fun g hg _ _ => hk g hg)

/-- What both stores are, all the while. -/
structure Both (w : World) (Fp : Nat → Prop) (B : Nat) (st : St) (Fr : Nat → Prop) (R : Nat) (rs : RSt) (i : Nat) : Prop where
  s : IsStore w Fp B st
  r : IsRef w Fr R rs
  sim : Sim st rs
  bnd : Bnd st rs i

theorem Both.same {w w' : World} {Fp : Nat → Prop} {B : Nat} {st : St} {Fr : Nat → Prop} {R : Nat} {rs : RSt} {i : Nat} (h : Both w Fp B st Fr R rs i) (hU : Upd (fun _ => False) w w') : Both w' Fp B st Fr R rs i :=
  ⟨h.s.kept (fun _ _ h => h) (fun b hb _ => hU.block b hb (fun h => h)), h.r.kept (fun _ _ h => h) (fun b hb _ => hU.block b hb (fun h => h)), h.sim, h.bnd⟩

theorem Both.get {w : World} {Fp : Nat → Prop} {B : Nat} {st : St} {Fr : Nat → Prop} {R : Nat} {rs : RSt} {i : Nat} (h : Both w Fp B st Fr R rs i) (x : ByteArray) : Calls Try.prog 23 #[.pointer (some ⟨B, 0, none⟩), .string x] w (GetPost w (rget rs.L x)) := by
  have := get_any w Fp B st h.s x (by rw [h.sim.get]; have := shows_b h.sim h.bnd x; omega)
  rwa [h.sim.get] at this
theorem Both.rget {w : World} {Fp : Nat → Prop} {B : Nat} {st : St} {Fr : Nat → Prop} {R : Nat} {rs : RSt} {i : Nat} (h : Both w Fp B st Fr R rs i) (hi : i ≤ 100) (x : ByteArray) : Calls Try.prog 49 #[.pointer (some ⟨R, 0, none⟩), .string x] w (GetPost w (rget rs.L x)) :=
  rget_any w Fr R rs h.r x (by have := h.bnd.l; omega) (fun c hc => by have := (h.bnd.cells c hc).b; omega)

set_option maxRecDepth 100000 in
set_option maxHeartbeats 4000000 in
theorem shows_any (w : World) (Fp : Nat → Prop) (B : Nat) (st : St) (Fr : Nat → Prop) (R : Nat) (rs : RSt) (i : Nat) (h : Both w Fp B st Fr R rs i) (hi : i ≤ 100) (name : ByteArray) :
    Calls Try.prog 22 #[.pointer (some ⟨B, 0, none⟩), .pointer (some ⟨R, 0, none⟩), .string name] w fun e w' => e = .returned (.bool true) ∧ Upd (fun _ => False) w w' := by
  have H := Lib.hid h
  have HI := Lib.hid hi
  clear h hi
  go_enter Try.func22, Try.ntmps22
  go_wp2_with fail
  refine (names_any w _).mono ?_
  rintro e w0 ⟨rfl, hw0⟩
  have U0 : Hid (Upd (fun _ => False) w w0) := Lib.hid (by rw [hw0]; exact (Upd.refl _ _).alloc _)
  have HW0 := Lib.hid hw0
  clear hw0
  go_wp2_with fail
  obtain ⟨m1, m2, ca, cc, pa, pc, k1, k2, xs, P0⟩ := H.out.s
  have hks : sortedNames k1 = rnames rs.L := by unfold sortedNames; rw [krel_keys P0.rel1]; exact H.out.sim.names'
  have hSQ := seq_any w0 w.heap.size B m1 k1 100 (by have := Rel2.length P0.rel1; have := show_few H.out.sim H.out.bnd; rw [sorted_len] at this; have := HI.out; omega)
    (by have := Rel2.length P0.rel1; have := show_few H.out.sim H.out.bnd; rw [sorted_len] at this; have := HI.out; omega) (keys_ok H.out.sim H.out.bnd P0.rel1)
    (by rw [HW0.out]; exact cell_blk (heap_alloc_new _ _) 0 _ rfl) (cell_blk (U0.out.keep P0.blk (fun h => h)) 0 _ rfl) (P0.map1.kept (U0.out.block _ P0.map1.lt (fun h => h))) (by rw [HW0.out]; simp) (Nat.lt_of_lt_of_le (lt_of_blk P0.blk) U0.out.size)
  rw [hks] at hSQ
  have HSQ := Lib.hid hSQ
  clear P0 hks hSQ
  refine HSQ.out.mono ?_
  rintro e w1 ⟨la, lc, rfl, hown, hfr, hU1⟩
  have U1 := Lib.hid (U0.out.trans hU1 (fun _ _ h => h))
  have H1 := Lib.hid (H.out.same U1.out)
  generalize hns : rnames rs.L = ns at hown
  have HNS := Lib.hid hns
  have HOWN := Lib.hid hown
  clear hown hfr hU1 HSQ HW0 U0 hns
  go_wp2_with fail
  refine (rnames_any w1 Fr R rs H1.out.r (by have := H1.out.bnd.l; have := HI.out; omega)).mono ?_
  rw [HNS.out]
  rintro e w2 ⟨na, nc, rfl, hown2, _, hU2⟩
  have U2 := Lib.hid hU2
  have HOWN2 := Lib.hid hown2
  clear hown2 hU2
  go_wp2_with fail
  refine (plain_s w2 (fun _ => True) (fun _ => True) (fun _ => True) (fun _ => True) la na ns.length ns.length lc nc ns (IsRow.kept (own_isS HOWN.out) (fun _ _ h => h) (fun g hg _ _ => U2.out.block g hg (fun h => h))) (own_isS HOWN2.out) (by rw [← HNS.out]; have := show_few H1.out.sim H1.out.bnd; rw [H1.out.sim.names'] at this; have := HI.out; omega)).mono ?_
  rintro e w3 ⟨rfl, hS3⟩
  have U3 := Lib.hid (U2.out.trans hS3.1 (fun _ _ h => h))
  have H3 := Lib.hid (H1.out.same U3.out)
  clear hS3 U2 HOWN2
  go_wp2_with fail
  refine (writes_any w3 Fp B st H3.out.s).mono ?_
  rw [H3.out.sim.len]
  rintro e w4 ⟨rfl, rfl⟩
  go_wp2_with fail
  refine (rwrites_any w3 Fr R rs H3.out.r).mono ?_
  generalize rs.old.length = no
  rintro e w4 ⟨rfl, rfl⟩
  go_wp2_with fail
  refine (versions_any w3 Fp B st H3.out.s name).mono ?_
  rw [H3.out.sim.vers']
  rintro e w4 ⟨rfl, rfl⟩
  go_wp2_with fail
  refine (rversions_any w3 Fr R rs H3.out.r name (by have := H3.out.bnd.l; have := HI.out; omega)).mono ?_
  generalize (rverl rs.L name).length = nv
  rintro e w4 ⟨rfl, hU4, hh4⟩
  have U4 := Lib.hid (U3.out.trans hU4 (fun _ _ h => h))
  clear hU4 hh4 U3 H3
  go_wp2_with fail
  go_loopw [9] (fun k wr => ∃ j : Nat, j ≤ ns.length ∧ k = .int .i64 j ∧ Upd (fun _ => False) w1 wr) (fun k _ => ns.length - (intOf k).toNat)
  case atStart => exact ⟨0, Nat.zero_le _, rfl, U4.out⟩
  case round =>
    obtain ⟨k, hk, rfl, hr⟩ := hrel
    have UR := Lib.hid hr
    clear hr U4
    by_cases hlt : k < ns.length
    · obtain ⟨g, o, arr, t, f, rfl, hb, hv⟩ := isS_cell (own_isS HOWN.out) k hlt
      have l1 := upd_cell UR.out hb (fun h => h) _ _ hv
      simp only [sv] at l1
      have hmem : ns[k] ∈ sortedNames st.shows := by rw [H1.out.sim.names', HNS.out]; exact List.getElem_mem hlt
      have hk0 : (0 : Int) ≤ (k : Int) := by omega
      have hk1 : (k : Int) < ((ns.length : Nat) : Int) := by omega
      have hk2 : (k : Int) ≤ 100 := by rw [← HNS.out] at hlt; have := show_few H1.out.sim H1.out.bnd; rw [H1.out.sim.names'] at this; have := HI.out; omega
      generalize ns[k] = x at *
      have HR := Lib.hid (H1.out.same UR.out)
      have HMEM := Lib.hid hmem
      have HL1 := Lib.hid l1
      have HB := Lib.hid hb
      have HV := Lib.hid hv
      clear hmem hb hv
      go_wp2_with fail
      have HG := Lib.hid (HR.out.get x)
      obtain ⟨b, hbx⟩ : ∃ b, rget rs.L x = some b := by
        have := mem_sorted.1 HMEM.out
        rw [kvGet_in, H1.out.sim.get] at this
        exact Option.isSome_iff_exists.1 this
      have HBL : Hid (b.length ≤ 300) := Lib.hid (by have := shows_b H1.out.sim H1.out.bnd x; rw [hbx] at this; exact this)
      have HG2 := Lib.hid (fun w (h : Both w Fp B st Fr R rs i) => h.rget HI.out x)
      rw [hbx] at HG HG2
      clear hbx
      refine HG.out.mono ?_
      rintro e w5 ⟨a1, c1, rfl, hf1, hU5⟩
      simp only [Option.getD_some, Option.isSome_some] at hf1 ⊢
      have HF1 := Lib.hid hf1
      have U5 := Lib.hid (UR.out.trans hU5 (fun _ _ h => h))
      have l5 := upd_cell U5.out HB.out (fun h => h) _ _ HV.out
      simp only [sv] at l5
      clear hf1
      have UA := Lib.hid hU5
      clear hU5 l1 HL1
      go_wp2_with fail
      refine (HG2.out w5 (H1.out.same U5.out)).mono ?_
      rintro e w6 ⟨a2, c2, rfl, hf2, hU6⟩
      simp only [Option.getD_some, Option.isSome_some] at hf2 ⊢
      have HF2 := Lib.hid hf2
      have UB := Lib.hid hU6
      clear hf2 hU6 l5
      go_wp2_with fail
      refine (bytes_eq w6 _ _ _ _ a1 a2 b.length b.length c1 c2 b (HF1.out.upto (fun g hg => UB.out.block g hg (fun h => h))) (HF2.out.upto (fun g hg => rfl))).mono ?_
      rintro e w7 ⟨rfl, rfl⟩
      go_wp2_with fail
      refine (spoil_fresh wr w5 w6 a1 c1 b HF1.out (fun g hg => UB.out.block g hg (fun h => h)) (by have := HBL.out; omega)).mono ?_
      rintro e w7 ⟨rfl, hU7⟩
      have U7 : Hid (Upd (fun _ => False) wr w7) := Lib.hid ((UA.out.trans UB.out (fun _ _ h => h)).trans hU7 (fun j hj h => by omega))
      clear hU7
      go_wp2_with fail
      go_roundw
      case rel => exact ⟨k + 1, by omega, by go_num, UR.out.trans U7.out (fun _ _ h => h)⟩
      case measure => simp [intOf]; omega
    · have HR := Lib.hid (H1.out.same UR.out)
      have HBL : Hid (((rget rs.L name).getD []).length ≤ 300) := Lib.hid (shows_b H1.out.sim H1.out.bnd name)
      have HG := Lib.hid (HR.out.get name)
      have HG2 := Lib.hid (fun w (h : Both w Fp B st Fr R rs i) => h.rget HI.out name)
      generalize rget rs.L name = r at HBL HG HG2
      go_wp2_with fail
      refine HG.out.mono ?_
      rintro e w5 ⟨a1, c1, rfl, hf1, hU5⟩
      generalize hb : r.getD [] = b at hf1
      have HB := Lib.hid hb
      generalize hq : r.isSome = q
      have HQ := Lib.hid hq
      have HF1 := Lib.hid hf1
      have UA := Lib.hid hU5
      have HR5 := Lib.hid (HR.out.same hU5)
      clear hf1 hU5 hb hq
      go_wp2_with fail
      refine (HG2.out w5 HR5.out).mono ?_
      intro e w6 hG
      unfold GetPost at hG
      rw [HB.out, HQ.out] at hG
      obtain ⟨a2, c2, rfl, hf2, hU6⟩ := hG
      have HF2 := Lib.hid hf2
      have UB := Lib.hid hU6
      clear hf2 hU6
      go_wp2_with fail
      refine (bytes_eq w6 _ _ _ _ a1 a2 b.length b.length c1 c2 b (HF1.out.upto (fun g hg => UB.out.block g hg (fun h => h))) (HF2.out.upto (fun g hg => rfl))).mono ?_
      rintro e w7 ⟨rfl, rfl⟩
      go_wp2_with fail
      go_ret
      exact ⟨rfl, ((U1.out.trans UR.out (fun _ _ h => h)).trans UA.out (fun _ _ h => h)).trans UB.out (fun _ _ h => h)⟩
end Go.Proofs.Ytajmaebofhkjjaa
