import Derived.Test.YtajmaebofhkjjaaSmall
import Derived.Test.YtajmaebofhkjjaaConcat
import Derived.Test.YtajmaebofhkjjaaDraw
import Derived.Deep.DeepCutAuto
import Derived.Test.YtajmaebofhkjjaaClip
namespace Go.Proofs.Ytajmaebofhkjjaa
open Go.RowKit Go.Proofs.Dm Go.MapKept
attribute [local go_sem ↓] Go.wp_at_zero Go.wp_at_succ

theorem info_bs : (Try.prog.info? 31).map (fun i => (i.zero, i.size, i.bytes)) = some (some (.slice none 0 0), 1, 24) := by kernel_rfl
theorem info_int : (Try.prog.info? 3).map (fun i => (i.zero, i.size, i.bytes)) = some (some (.int .i64 0), 1, 8) := by kernel_rfl

/-- Behind 's.puts = append(s.puts, len(s.changes))'. -/
theorem put_mid {w1 w2 : World} {F : Nat → Prop} {B m1 m2 : Nat} {ca : Option Addr} {cc : Nat} {pa : Option Addr} {pc : Nat} {k1 k2 : List (ByteArray × Value)} {xs : List Value} {st : St} (h : Parts w1 F B m1 m2 ca cc pa pc k1 k2 xs st)
    {o : Obj} (hgrow : (w1.alloc o).drew.grownBy w2 (pa.map (·.block))) {g cap : Nat}
    (hown : w2.ownsRow 0 3 1 (.slice (some ⟨g, 0, none⟩) (st.puts.length + 1) cap) (st.puts.length + 1) ((st.puts.map fun n : Nat => Value.int .i64 (n : Int)) ++ [.int .i64 st.chs.length]))
    (hat : pa.map (·.block) = some g ∨ w1.heap.size + 1 ≤ g) (hlt : g < w2.heap.size) :
    let w3 := w2.setCell ⟨B, 3, none⟩ (.slice (some ⟨g, 0, none⟩) (st.puts.length + 1) cap)
    IsStore w3 (Plus F w1 w3) B { st with puts := st.puts ++ [st.chs.length] } ∧ Upd F w1 w3 ∧ KeepB w1 w3 := by
  intro w3
  have hkeep : ∀ b, b < w1.heap.size → b ≠ B → pa.map (·.block) ≠ some b → w3.heap[b]? = w1.heap[b]? := by
    intro b hb h1 h2
    show (w2.setCell _ _).heap[b]? = _
    rw [Below.heap_setCell _ _ _ _ h1, hgrow.block b (by simp; omega) (Ne.symm h2)]
    exact Below.heap_alloc _ _ _ hb
  have hsz : w1.heap.size ≤ w3.heap.size := by
    have := hgrow.size
    simp [w3, World.setCell] at this ⊢; omega
  have hlt3 : g < w3.heap.size := by simpa [w3, World.setCell] using hlt
  have hT : ∀ b, pa.map (·.block) = some b → ∃ arr, w1.heap[b]? = some (.cells arr 3 (0, 0)) := own_ty h.pown
  have hF : ∀ b, b < w1.heap.size → F b → Plus F w1 w3 b := fun b _ hf => .inl hf
  have hkT : ∀ b, b < w1.heap.size → (∃ arr t f, (t = 5 ∨ t = 31 ∨ t = 66) ∧ w1.heap[b]? = some (.cells arr t f)) → w3.heap[b]? = w1.heap[b]? := by
    rintro b hb ⟨arr, t, f, ht, hbk⟩
    refine hkeep b hb ?_ ?_
    · rintro rfl; rw [h.blk] at hbk; cases hbk; revert ht; decide
    · intro e; obtain ⟨arr', ha⟩ := hT b e; rw [ha] at hbk; cases hbk; revert ht; decide
  have hmne : ∀ {m k}, IsMap w1 m k → w3.heap[m]? = w1.heap[m]? := by
    intro m k hm
    refine hkeep m hm.lt (hm.ne_blk h.blk) (fun e => ?_)
    obtain ⟨arr, ha⟩ := hT m e
    exact hm.ne_blk ha rfl
  have hgB : g ≠ B := by
    rintro rfl
    rcases hat with e | e
    · obtain ⟨arr', ha⟩ := hT _ e; rw [h.blk] at ha; cases ha
    · have := lt_of_blk h.blk; omega
  have hB2 : w2.heap[B]? = some (.cells #[.map (some m1), .map (some m2), .slice ca st.chs.length cc, .slice pa st.puts.length pc] 49 (0, 0)) := by
    have hb := lt_of_blk h.blk
    rw [hgrow.block B (by simp; omega) (fun e => ?_)]
    · exact (Below.heap_alloc _ _ _ hb).trans h.blk
    · obtain ⟨arr', ha⟩ := hT B e.symm; rw [h.blk] at ha; cases ha
  have hB3 : w3.heap[B]? = some (.cells #[.map (some m1), .map (some m2), .slice ca st.chs.length cc, .slice (some ⟨g, 0, none⟩) (st.puts.length + 1) cap] 49 (0, 0)) := by
    show (w2.setCell _ _).heap[B]? = _
    rw [blk_setCell hB2 3 _]; rfl
  refine ⟨⟨m1, m2, ca, cc, some ⟨g, 0, none⟩, cap, k1, k2, xs, ?_⟩, ⟨hgrow.os, hgrow.tape, hgrow.output, hsz, fun b hb hf => hkeep b hb ?_ ?_⟩, fun b hb ⟨arr, t, f, ht, hbk⟩ => hkT b hb ⟨arr, t, f, ht.elim .inl (fun h => .inr (.inl h)), hbk⟩⟩
  · refine ⟨.inl h.fB, .inl h.f1, .inl h.f2, h.ne, by simpa using hB3, h.map1.kept (hmne h.map1), h.map2.kept (hmne h.map2), ?_, ?_, ?_, fun b e => .inl (h.fc b e), ?_, ?_, ?_⟩
    · exact Rel2.mono h.rel1 (fun a b hab => ⟨hab.1, IsRow.kept hab.2 hF (fun b hb hf ⟨arr, t, f, ht, hbk⟩ => hkT b hb ⟨arr, t, f, .inl ht, hbk⟩)⟩)
    · exact Rel2.mono h.rel2 (fun a b hab => ⟨hab.1, hab.2.kept hF (fun b hb hf ⟨arr, t, f, ht, hbk⟩ => hkT b hb ⟨arr, t, f, ht.elim .inl (fun h => .inr (.inl h)), hbk⟩)⟩)
    · obtain ⟨l1, l2⟩ := h.own
      refine ⟨l1, l2.imp id ?_⟩
      rintro ⟨g', cap', cur, e1, h3, h4, h5⟩
      exact ⟨g', cap', cur, e1, h3, (hkT g' (lt_of_blk h4) ⟨_, _, _, .inr (.inr rfl), h4⟩).trans h4, h5⟩
    · exact h.rel.kept hF (fun b hb hf ⟨arr, t, f, ht, hbk⟩ => hkT b hb ⟨arr, t, f, .inl ht, hbk⟩)
    · obtain ⟨_, l2⟩ := hown
      refine ⟨by simp, l2.elim (fun h => by obtain ⟨h, _⟩ := h; cases h) (fun h => .inr ?_)⟩
      obtain ⟨g', cap', cur, e1, h3, h4, h5⟩ := h
      cases e1
      refine ⟨g, cap, cur, by simp, h3, ?_, by simpa using h5⟩
      show (w2.setCell _ _).heap[g]? = _
      rw [Below.heap_setCell _ _ _ _ hgB]; exact h4
    · intro b e
      simp at e; subst e
      rcases hat with e | e
      · exact .inl (h.fp _ e)
      · exact .inr ⟨by omega, hlt3⟩
  · rintro rfl; exact hf h.fB
  · intro e; exact hf (h.fp b e)

def PutMid (w : World) (F : Nat → Prop) (B : Nat) (st : St) (a1 : Option Addr) (c1 : Nat) (b : List UInt8) (w3 : World) : Prop :=
  IsB w3 (Plus F w w3) tB (.slice a1 b.length c1) b ∧ IsStore w3 (Plus F w w3) B st ∧ Upd F w w3 ∧ KeepB w w3

theorem put_mid' {w w1 w2 : World} {F : Nat → Prop} {B m1 m2 : Nat} {ca : Option Addr} {cc : Nat} {pa : Option Addr} {pc : Nat} {k1 k2 : List (ByteArray × Value)} {xs : List Value} {st : St} (h : Parts w1 F B m1 m2 ca cc pa pc k1 k2 xs st)
    {o : Obj} (hgrow : (w1.alloc o).drew.grownBy w2 (pa.map (·.block))) {g cap : Nat}
    (hown : w2.ownsRow 0 3 1 (.slice (some ⟨g, 0, none⟩) (st.puts.length + 1) cap) (st.puts.length + 1) ((st.puts.map fun n : Nat => Value.int .i64 (n : Int)) ++ [.int .i64 st.chs.length]))
    (hat : pa.map (·.block) = some g ∨ w1.heap.size + 1 ≤ g) (hlt : g < w2.heap.size)
    {w0 : World} (hw0 : w.heap.size ≤ w0.heap.size) {a1 : Option Addr} {c1 : Nat} {b : List UInt8} (hfr : FreshB w0 w1 a1 c1 b) (hU1 : Upd (fun _ => False) w w1) :
    PutMid w F B { st with puts := st.puts ++ [st.chs.length] } a1 c1 b (w2.setCell ⟨B, 3, none⟩ (.slice (some ⟨g, 0, none⟩) (st.puts.length + 1) cap)) := by
  obtain ⟨hS3, hU3, hk3⟩ := put_mid h hgrow hown hat hlt
  generalize w2.setCell ⟨B, 3, none⟩ (.slice (some ⟨g, 0, none⟩) (st.puts.length + 1) cap) = w3 at *
  have hsz3 := hU3.size
  refine ⟨hk3.isB (hfr.isB tB rfl) (fun g hg h => .inr ⟨Nat.le_trans hw0 h.1, Nat.lt_of_lt_of_le h.2 hsz3⟩), hS3.kept (fun b _ h => h.imp id (fun h => ⟨Nat.le_trans hU1.size h.1, h.2⟩)) (fun _ _ _ => rfl),
    (hU1.mono (S' := F) (fun _ _ h => h.elim)).trans hU3 (fun _ _ h => h), (KeepB.ofUpd hU1).trans hk3 hU1.size⟩

/-- Behind 's.versions[name] = append(slices.Clip(s.versions[name]), b)'. -/
theorem put_last {w4 w5 w6 : World} {F : Nat → Prop} {B m1 m2 : Nat} {ca : Option Addr} {cc : Nat} {pa : Option Addr} {pc : Nat} {k1 k2 : List (ByteArray × Value)} {xs : List Value} {st : St} (h : Parts w4 F B m1 m2 ca cc pa pc k1 k2 xs st)
    {o : Obj} (hgrow : (w4.alloc o).drew.grownBy w5 none) (name : ByteArray) {g cap l : Nat} {vs : List Value} {ls : List (List UInt8)} {v : Value} {b : List UInt8} (hl : ls.length = l) (hrel : Rel2 (IsB w4 F tB) vs ls) (hb : IsB w4 F tB v b)
    (hown : w5.ownsRow (w4.heap.size + 1) 31 1 (.slice (some ⟨g, 0, none⟩) (l + 1) cap) (l + 1) (vs ++ [v])) (hg : w4.heap.size + 1 ≤ g) (hlt : g < w5.heap.size)
    (hm : IsMap w6 m2 (kvSet k2 name (.slice (some ⟨g, 0, none⟩) (l + 1) cap))) (hU : Upd (fun k => k = m2) w5 w6) :
    IsStore w6 (Plus F w4 w6) B { st with vers := kvSet st.vers name (ls ++ [b]) } ∧ Upd F w4 w6 ∧ KeepB w4 w6 := by
  have hsz : w4.heap.size ≤ w6.heap.size := by have := hgrow.size; have := hU.size; simp at *; omega
  have hkeep : ∀ b, b < w4.heap.size → b ≠ m2 → w6.heap[b]? = w4.heap[b]? := by
    intro b hb h1
    have hb5 : b < w5.heap.size := Nat.lt_of_lt_of_le (Nat.lt_of_lt_of_le hb (by simp)) hgrow.size
    rw [hU.block b hb5 h1, hgrow.block b (by simp; omega) (by simp)]
    exact Below.heap_alloc _ _ _ hb
  have hkT : ∀ b, b < w4.heap.size → (∃ arr t f, w4.heap[b]? = some (.cells arr t f)) → w6.heap[b]? = w4.heap[b]? := by
    rintro b hb ⟨arr, t, f, hbk⟩
    refine hkeep b hb ?_
    rintro rfl; exact h.map2.ne_blk hbk rfl
  have hF : ∀ b, b < w4.heap.size → F b → Plus F w4 w6 b := fun b _ hf => .inl hf
  have hown6 : ∀ {e size : Nat} {a : Option Addr} {n c : Nat} {xs : List Value}, w4.ownsRow 0 e size (.slice a n c) n xs → w6.ownsRow 0 e size (.slice a n c) n xs := by
    intro e size a n c xs ho
    obtain ⟨l1, l2⟩ := ho
    refine ⟨l1, l2.imp id ?_⟩
    rintro ⟨g', cap', cur, e1, h3, h4, h5⟩
    exact ⟨g', cap', cur, e1, h3, (hkT g' (lt_of_blk h4) ⟨_, _, _, h4⟩).trans h4, h5⟩
  have hbb : IsBB w6 (Plus F w4 w6) (.slice (some ⟨g, 0, none⟩) (l + 1) cap) (ls ++ [b]) := by
    have h6 : w6.ownsRow 0 31 1 (.slice (some ⟨g, 0, none⟩) (l + 1) cap) (l + 1) (vs ++ [v]) := by
      obtain ⟨l1, l2⟩ := hown
      refine ⟨l1, l2.imp id ?_⟩
      rintro ⟨g', cap', cur, e1, h3, h4, h5⟩
      refine ⟨g', cap', cur, e1, Nat.zero_le _, ?_, h5⟩
      cases e1
      rw [hU.block g (lt_of_blk h4) (by have := h.map2.lt; omega)]; exact h4
    refine ⟨vs ++ [v], ?_, ?_⟩
    · have := ownsRow_row h6 (Plus F w4 w6) (fun g' e => by simp at e; subst e; exact .inr ⟨by omega, Nat.lt_of_lt_of_le hlt hU.size⟩) tBB rfl
      simpa [hl] using this
    · refine Rel2.append ?_ ⟨?_, trivial⟩
      · exact hrel.mono (fun a b hab => IsRow.kept hab hF (fun b hb _ ⟨arr, t, f, ht, hbk⟩ => hkT b hb ⟨arr, t, f, hbk⟩))
      · exact IsRow.kept hb hF (fun b hb _ ⟨arr, t, f, ht, hbk⟩ => hkT b hb ⟨arr, t, f, hbk⟩)
  refine ⟨⟨m1, m2, ca, cc, pa, pc, k1, kvSet k2 name (.slice (some ⟨g, 0, none⟩) (l + 1) cap), xs, ?_⟩, ⟨hU.os.trans hgrow.os, hU.tape.trans hgrow.tape, hU.output.trans hgrow.output, hsz, fun b hb hf => hkeep b hb (by rintro rfl; exact hf h.f2)⟩, fun b hb ⟨arr, t, f, ht, hbk⟩ => hkT b hb ⟨arr, t, f, hbk⟩⟩
  refine ⟨.inl h.fB, .inl h.f1, .inl h.f2, h.ne, (hkT B (lt_of_blk h.blk) ⟨_, _, _, h.blk⟩).trans h.blk, h.map1.kept (hkeep m1 h.map1.lt h.ne), hm, ?_, ?_, hown6 h.own, fun b e => .inl (h.fc b e), ?_, hown6 h.pown, fun b e => .inl (h.fp b e)⟩
  · exact Rel2.mono h.rel1 (fun a b hab => ⟨hab.1, IsRow.kept hab.2 hF (fun b hb hf ⟨arr, t, f, ht, hbk⟩ => hkT b hb ⟨arr, t, f, hbk⟩)⟩)
  · refine KRel.set ?_ name _ _ hbb
    exact Rel2.mono h.rel2 (fun a b hab => ⟨hab.1, hab.2.kept hF (fun b hb hf ⟨arr, t, f, ht, hbk⟩ => hkT b hb ⟨arr, t, f, hbk⟩)⟩)
  · exact h.rel.kept hF (fun b hb hf ⟨arr, t, f, ht, hbk⟩ => hkT b hb ⟨arr, t, f, hbk⟩)

set_option maxRecDepth 100000 in
set_option maxHeartbeats 1000000 in
theorem put_any (w : World) (F : Nat → Prop) (B : Nat) (st : St) (hS : IsStore w F B st) (name : ByteArray) (a : Option Addr) (n c : Nat) (b : List UInt8) (F' : Nat → Prop) (T : TypeId → Prop) (hb : IsB w F' T (.slice a n c) b)
    (hl : b.length ≤ 1048576 * 1048576) (hn : st.chs.length < 1048576 * 1048576) (hn' : st.puts.length < 1048576 * 1048576) (hv : ((kvGet st.vers name).getD []).length < 1048576 * 1048576) :
    Calls Try.prog 17 #[.pointer (some ⟨B, 0, none⟩), .string name, .slice a n c] w fun e w' => e = .returned (.tuple #[]) ∧
      IsStore w' (Plus F w w') B (st.put name b) ∧ Upd F w w' ∧ KeepB w w' := by
  go_enter Try.func17, Try.ntmps17
  go_wp2_with fail
  have hb0 : ((w.alloc (.cells #[] 5)).alloc (.cells #[.slice (some ⟨w.heap.size, 0, none⟩) 0 0, .slice a n c] 31)).heap[w.heap.size + 1]? = some (.cells #[.slice (some ⟨w.heap.size, 0, none⟩) 0 0, .slice a n c] 31 (0, 0)) := by
    simpa using heap_alloc_new (w.alloc (.cells #[] 5)) (.cells #[.slice (some ⟨w.heap.size, 0, none⟩) 0 0, .slice a n c] 31)
  have HB0 := Lib.hid hb0
  clear hb0
  refine (concat_any _ F' T (w.heap.size + 1) 0 2 2 _ _ _ [.slice (some ⟨w.heap.size, 0, none⟩) 0 0, .slice a n c] [[], b] HB0.out (fun i u h => by simpa using h) ⟨⟨_, 0, rfl, (fun h => by cases h), Nat.le_refl _, fun h => absurd rfl h⟩, IsRow.kept hb (fun _ _ h => h) (fun g hg _ _ => (Below.heap_alloc _ _ _ (by simp; omega)).trans (Below.heap_alloc _ _ _ hg)), trivial⟩ rfl (by simpa using hl) (by decide)).mono ?_
  rintro e w1 ⟨a1, c1, rfl, hfr, hU⟩
  have hU1 : Upd (fun _ => False) w w1 := (((Upd.refl _ w).alloc _).alloc _).trans hU (fun _ _ h => h)
  have hfl : ([[], b] : List (List UInt8)).flatten = b := by simp
  rw [hfl] at hfr ⊢
  obtain ⟨m1, m2, ca, cc, pa, pc, k1, k2, xs, P0⟩ := hS
  have P1 := P0.kept (w' := w1) (F' := F) (fun _ _ h => h) (fun g hg _ => hU1.block g hg (fun h => h))
  have hc2 := cell_blk P1.blk 2 _ rfl
  have hc3 := cell_blk P1.blk 3 _ rfl
  have hf3 := free_blk P1.blk 3
  have hp := P1.pown
  have HP1 := Lib.hid P1
  have HFR := Lib.hid hfr
  have HU1 := Lib.hid hU1
  clear P0 P1 hfr hU1 hU hb hfl
  go_upto_region 2 with fail
  go_cut [] (fun wx => PutMid w F B { st with puts := st.puts ++ [st.chs.length] } a1 c1 b wx)
  case first =>
   obtain ⟨i0, hi, hz0, hz1, hz2⟩ := info_parts info_int
   have hpB : pa.map (·.block) ≠ some B := HP1.out.pa_ne_B
   have HPB := Lib.hid hpB
   clear hpB
   have ha2 : ∀ o, (w1.alloc o).cell? ⟨B, 2, none⟩ = some (.slice ca st.chs.length cc) := fun o => cell_blk (alloc_keep HP1.out.blk o) 2 _ rfl
   have ha3 : ∀ o, (w1.alloc o).cell? ⟨B, 3, none⟩ = some (.slice pa st.puts.length pc) := fun o => cell_blk (alloc_keep HP1.out.blk o) 3 _ rfl
   go_region_law
     ((refine step_append1 _ (by rfl) _ _ 47 (by rfl) 3 i0 _ 1 8 Try.underlying47 hi hz0 hz1 hz2 rfl (by decide) pa st.puts.length pc _ (by rfl) (hp.alloc _).drew w1.heap.size [.int .i64 st.chs.length] 3 (0, 0) (by rfl) (drew_keep (heap_alloc_new _ _)) rfl (by simp [Value.oneCell']) (by omega) (by decide) (w1.heap.size + 1) (by simp) ?_; intro g cap w2 hown2 hgrow2 hat2 hlt2; have hBk := grown_keep hgrow2 (drew_keep (alloc_keep HP1.out.blk _)) (Ne.symm HPB.out); have hc23 := cell_blk hBk 3 _ rfl; have hf23 := free_blk hBk 3; have HBK := Lib.hid hBk; clear hBk))
   all_goals (go_wp2_with fail; go_meet; exact put_mid' HP1.out hgrow2 hown2 hat2 hlt2 (by simp; omega) HFR.out HU1.out)
  case rest =>
   clear hc2 hc3 hf3 hp HP1 HFR HB0 HU1
   obtain ⟨hb3, hS3', hU3', hK3⟩ := hcut
   go_wp2_with fail
   refine (set_any _ _ B _ hS3' name a1 b.length c1 b true hb3 hn).mono ?_
   rintro e w4 ⟨rfl, hS4, hU4, hK4⟩
   have hb4 := hK4.isB hb3 (F' := Plus F w w4) (fun g hg h => h.imp id (fun h => ⟨h.1, Nat.lt_of_lt_of_le h.2 hU4.size⟩))
   have hS4' : IsStore w4 (Plus F w w4) B _ := hS4.kept (fun g _ h => h.elim (fun h => h.imp id (fun h => ⟨h.1, Nat.lt_of_lt_of_le h.2 hU4.size⟩)) (fun h => .inr ⟨Nat.le_trans hU3'.size h.1, h.2⟩)) (fun _ _ _ => rfl)
   have hK4' : KeepB w w4 := hK3.trans hK4 hU3'.size
   have hU4' : Upd F w w4 := hU3'.trans hU4 (fun i hi h => h.elim id (fun h => by omega))
   clear hb3 hS3' hU3' hS4 hU4 hK4
   obtain ⟨m1', m2', ca', cc', pa', pc', k1', k2', xs', P4⟩ := hS4'
   obtain ⟨wa, wc, hw1, hwb, hw2⟩ := getD_bb P4.rel2 name
   obtain ⟨vs, hrow, hrel⟩ := hwb
   generalize hl' : ((kvGet ((St.set { st with puts := st.puts ++ [st.chs.length] } name (if true = true then some b else none)).vers) name).getD []).length = l at hw1 hrow
   have hc1 := cell_blk P4.blk 1 _ rfl
   have hm := P4.map2
   have hlk : (Instr.lookup 45 (.map (some m2')) (.string name) false).run Try.prog w4.drew = .ok (.slice wa l wc) w4.drew := by
     rw [lookup1_str Try.underlying45 Try.underlying9 zero_bb (hm.kept (w' := w4.drew) rfl) name, hw1]
   have hlk2 : ∀ ob, (Instr.lookup 45 (.map (some m2')) (.string name) false).run Try.prog (w4.alloc ob).drew = .ok (.slice wa l wc) (w4.alloc ob).drew := by
     intro ob
     rw [lookup1_str Try.underlying45 Try.underlying9 zero_bb (hm.kept (w' := (w4.alloc ob).drew) (Below.heap_alloc _ _ _ hm.lt)) name, hw1]
   have ha1 : ∀ o, (w4.alloc o).cell? ⟨B, 1, none⟩ = some (.map (some m2')) := fun o => cell_blk (alloc_keep P4.blk o) 1 _ rfl
   obtain ⟨hlc, hln⟩ : l ≤ wc ∧ (wa = none → wc = 0 ∧ l = 0) := by obtain ⟨_, _, h, h1, h2, _⟩ := hrow; cases h; exact ⟨h2, h1⟩
   obtain ⟨i1, hi1, hy0, hy1, hy2⟩ := info_parts info_bs
   have HP4 := Lib.hid P4
   have HL := Lib.hid hl'
   have HROW := Lib.hid hrow
   have HREL := Lib.hid hrel
   have HW1 := Lib.hid hw1
   have HB4 := Lib.hid hb4
   have HLN := Lib.hid hln
   clear P4 hl' hrow hrel hw1 hw2 hb4 hln
   go_wp2_with fail
   have hl1 : l < 1048576 * 1048576 := by rw [← HL.out]; exact hv
   have hxl : vs.length = l := by rw [← HL.out]; exact HREL.out.length
   have hmB : B ≠ m2' := fun e => hm.ne_blk HP4.out.blk e.symm
   have hrow2 : ∀ ob, IsRow (w4.alloc ob).drew (Plus F w w4) tBB (.slice wa l l) l vs := by
     intro ob
     obtain ⟨_, _, h, h1, h2, h3⟩ := HROW.out
     cases h
     exact ⟨wa, l, rfl, fun h => ⟨(h1 h).2, (h1 h).2⟩, Nat.le_refl _, h3.kept (fun _ _ h => h) (fun g hg _ _ => Below.heap_alloc _ _ _ hg)⟩
   have HXL := Lib.hid hxl
   have HROW2 := Lib.hid hrow2
   have HMB := Lib.hid hmB
   clear hxl hrow2 hmB hn hn' hl
   go_region_held3 (fun w' => w'.cell? ⟨B, 1, none⟩ = some (.map (some m2')))
     (first
       | go_keep
       | exact cell_blk (grown_keep hgrow5 (drew_keep (alloc_keep HP4.out.blk _)) (by simp)) 1 _ rfl
       | exact cell_blk (hU6.keep (grown_keep hgrow5 (drew_keep (alloc_keep HP4.out.blk _)) (by simp)) HMB.out) 1 _ rfl)
     (first
       | (go_at_call 41; refine (clip_any _ wa l wc hlc HLN.out).mono ?_; rintro e w5 ⟨rfl, rfl⟩)
       | (refine step_append_full _ (by rfl) _ _ 55 (by rfl) 31 i1 _ 1 24 Try.underlying55 hi1 hy0 hy1 hy2 rfl (by decide) wa l vs _ tBB (by rfl) (HROW2.out _) (by rw [HXL.out]; omega) w4.heap.size [.slice a1 b.length c1] 31 (0, 0) (by rfl) (drew_keep (heap_alloc_new _ _)) rfl (by simp [Value.oneCell']) (by omega) (by decide) (w4.heap.size + 1) (by simp) ?_; intro g cap w5 hown5 hgrow5 hg5 hlt5; obtain ⟨w6, hrun6, hm6, hU6⟩ := update_str' Try.underlying45 Try.underlying9 (hm.kept (w' := w5) ((hgrow5.block _ (by have := hm.lt; simp; omega) (by simp)).trans (Below.heap_alloc _ _ _ hm.lt))) name (.slice (some ⟨g, 0, none⟩) (l + 1) cap)))
   all_goals
     go_wp2_with fail
     go_end0
     obtain ⟨hS6, hU6', hK6⟩ := put_last HP4.out hgrow5 name HL.out HREL.out HB4.out hown5 hg5 hlt5 hm6 hU6
     refine ⟨rfl, ?_, ?_, ?_⟩
     · exact hS6.kept (fun g _ h => h.elim (fun h => h.imp id (fun h => ⟨h.1, Nat.lt_of_lt_of_le h.2 hU6'.size⟩)) (fun h => .inr ⟨Nat.le_trans hU4'.size h.1, h.2⟩)) (fun _ _ _ => rfl)
     · exact hU4'.trans hU6' (fun i hi h => h.elim id (fun h => by omega))
     · exact hK4'.trans hK6 hU4'.size
end Go.Proofs.Ytajmaebofhkjjaa
