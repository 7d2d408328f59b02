import Derived.Test.YtajmaebofhkjjaaShows
import Derived.Test.YtajmaebofhkjjaaAwake
import Derived.Test.YtajmaebofhkjjaaFork
import Derived.Test.YtajmaebofhkjjaaKept
import Derived.Deep.RegionHeld3
import Derived.Deep.DeepCutAuto
import Derived.Deep.CutBlock
namespace Go.Proofs.Ytajmaebofhkjjaa
open Go.RowKit Go.Proofs.Dm Go.MapKept
attribute [local go_sem ↓] Go.wp_at_zero Go.wp_at_succ

/-- One call of a script. -/
structure OpC where
  kind : Int
  n : Int
  name : ByteArray
  tgt : ByteArray
  b : List UInt8

/-- Where a call of a script lies. -/
structure OpAt (w : World) (a : Option Addr) (k : Nat) (o : OpC) (g off : Nat) (arr : Array Value) (t : TypeId) (f : Nat × Nat) (ba : Option Addr) (bc : Nat) : Prop where
  addr : a = some ⟨g, off, none⟩
  blk : w.heap[g]? = some (.cells arr t f)
  c0 : arr[off + k * 5]? = some (.int .i64 o.kind)
  c1 : arr[off + k * 5 + 1]? = some (.int .i64 o.n)
  c2 : arr[off + k * 5 + 2]? = some (.string o.name)
  c3 : arr[off + k * 5 + 3]? = some (.string o.tgt)
  c4 : arr[off + k * 5 + 4]? = some (.slice ba o.b.length bc)
  b : IsB w (fun g => g < w.heap.size) (fun _ => True) (.slice ba o.b.length bc) o.b
  name : o.name.size ≤ maxLen
  n : o.n ≤ 9223372036854775807

def IsScript (w : World) (v : Value) (os : List OpC) : Prop :=
  ∃ a cap, v = .slice a os.length cap ∧ ∀ k (h : k < os.length), ∃ g off arr t f ba bc, OpAt w a k os[k] g off arr t f ba bc

/-- Both stores in a play that began at w. -/
structure Pl (w wr : World) (Fp Fr : Nat → Prop) (B : Nat) (st : St) (R : Nat) (rs : RSt) (k : Nat) : Prop where
  both : Both wr Fp B st Fr R rs k
  fp : ∀ g, Fp g → w.heap.size ≤ g ∧ g < wr.heap.size
  fr : ∀ g, Fr g → w.heap.size ≤ g ∧ g < wr.heap.size
  dis : ∀ g, Fp g → ¬ Fr g
  upd : Upd (fun _ => False) w wr

theorem Pl.same {w wr w1 : World} {Fp Fr : Nat → Prop} {B : Nat} {st : St} {R : Nat} {rs : RSt} {k : Nat} (h : Pl w wr Fp Fr B st R rs k) (hU : Upd (fun _ => False) wr w1) : Pl w w1 Fp Fr B st R rs k :=
  ⟨h.both.same hU, fun g hg => ⟨(h.fp g hg).1, Nat.lt_of_lt_of_le (h.fp g hg).2 hU.size⟩, fun g hg => ⟨(h.fr g hg).1, Nat.lt_of_lt_of_le (h.fr g hg).2 hU.size⟩, h.dis, h.upd.trans hU (fun _ _ h => h)⟩

/-- Between the program's call and the reference's. -/
structure Md (wr w1 : World) (Fp Fr : Nat → Prop) (B : Nat) (st : St) (R : Nat) (rs : RSt) : Prop where
  s : IsStore w1 (Plus Fp wr w1) B st
  r : IsRef w1 Fr R rs
  u : Upd Fp wr w1

theorem Pl.md {w wr w1 : World} {Fp Fr : Nat → Prop} {B : Nat} {st st' : St} {R : Nat} {rs : RSt} {k : Nat} (h : Pl w wr Fp Fr B st R rs k) (hs : IsStore w1 (Plus Fp wr w1) B st') (hu : Upd Fp wr w1) : Md wr w1 Fp Fr B st' R rs :=
  ⟨hs, h.both.r.kept (fun _ _ h => h) (fun g hg hr => hu.block g hg (fun hp => h.dis g hp hr)), hu⟩

theorem Pl.close {w wr w1 w2 : World} {Fp Fr : Nat → Prop} {B : Nat} {st st' : St} {R : Nat} {rs rs' : RSt} {k : Nat} (h : Pl w wr Fp Fr B st R rs k) (m : Md wr w1 Fp Fr B st' R rs) (hr : IsRef w2 (Plus Fr w1 w2) R rs') (hu : Upd Fr w1 w2) (hM : Sim st' rs') (hB : Bnd st' rs' (k + 1)) :
    Pl w w2 (Plus Fp wr w1) (Plus Fr w1 w2) B st' R rs' (k + 1) ∧ Upd (fun g => Fp g ∨ Fr g) wr w2 := by
  have s1 := m.u.size
  have s2 := hu.size
  have s0 := h.upd.size
  have hn : ∀ g, Plus Fp wr w1 g → ¬ Fr g := fun g hg hf => hg.elim (fun hg => h.dis g hg hf) (fun hg => by have := (h.fr g hf).2; omega)
  have hU : Upd (fun g => Fp g ∨ Fr g) wr w2 := (m.u.mono (S' := fun g => Fp g ∨ Fr g) (fun _ _ h => .inl h)).trans hu (fun _ _ h => .inr h)
  refine ⟨⟨⟨m.s.kept (fun _ _ h => h) (fun g hg hp => hu.block g hg (hn g hp)), hr, hM, hB⟩, fun g hg => ?_, fun g hg => ?_, fun g hg hf => ?_, h.upd.trans hU (fun g hg hf => hf.elim (fun hf => by have := (h.fp g hf).1; omega) (fun hf => by have := (h.fr g hf).1; omega))⟩, hU⟩
  · rcases hg with hg | hg
    · exact ⟨(h.fp g hg).1, by have := (h.fp g hg).2; omega⟩
    · omega
  · rcases hg with hg | hg
    · exact ⟨(h.fr g hg).1, by have := (h.fr g hg).2; omega⟩
    · omega
  · rcases hf with hf | hf
    · exact hn g hg hf
    · rcases hg with hg | hg
      · have := (h.fp g hg).2; omega
      · omega

/-- The element of the script, in its box. -/
def BoxAt (w : World) (b : Nat) (o : OpC) (ba : Option Addr) (bc : Nat) : Prop :=
  w.heap[b]? = some (.cells #[.int .i64 o.kind, .int .i64 o.n, .string o.name, .string o.tgt, .slice ba o.b.length bc] 33 (0, 0))

def CutAt (w : World) (R k b : Nat) (o : OpC) (ba : Option Addr) (bc : Nat) (s ok : Value) (wx : World) : Prop :=
  ok = .bool true ∧ BoxAt wx b o ba bc ∧ ∃ B Fp Fr st rs, s = .pointer (some ⟨B, 0, none⟩) ∧ Pl w wx Fp Fr B st R rs (k + 1)

def HeadAt (w : World) (R k : Nat) (s : Value) (wx : World) : Prop := ∃ B Fp Fr st rs, s = .pointer (some ⟨B, 0, none⟩) ∧ Pl w wx Fp Fr B st R rs k

theorem isRef_new {w : World} {R : Nat} (h : w.heap[R]? = some (.cells #[.slice none 0 0, .slice none 0 0] 29 (0, 0))) : IsRef w (fun g => g = R) R ⟨[], []⟩ :=
  ⟨none, 0, none, 0, [], rfl, h, ⟨[], ⟨none, 0, rfl, fun _ => ⟨rfl, rfl⟩, Nat.le_refl _, fun h => absurd rfl h⟩, trivial⟩, World.ownsRow_nil _ _ _ _, fun g hg => by simp at hg, trivial⟩

theorem sim_new : Sim St.new ⟨[], []⟩ :=
  ⟨List.Pairwise.nil, fun _ => rfl, fun _ => rfl, List.nodup_nil, fun c hc => (by cases hc), rfl, fun i p o hp => (by simp [St.new] at hp)⟩
theorem bnd_new : Bnd St.new ⟨[], []⟩ 0 :=
  ⟨Nat.le_refl _, Nat.le_refl _, Nat.le_refl _, fun o ho => (by cases ho), fun c hc => (by cases hc), fun o ho => (by cases ho)⟩

def Nx (w wr w2 : World) (Fp Fr : Nat → Prop) (B R k : Nat) : Prop := (∃ Fp' Fr' st' rs', Pl w w2 Fp' Fr' B st' R rs' (k + 1)) ∧ Upd (fun g => Fp g ∨ Fr g) wr w2
/-- Behind the program's call. -/
def Post1 (wr : World) (Fp Fr : Nat → Prop) (B : Nat) (st : St) (R : Nat) (rs : RSt) (r : Bool) (e : Ending) (w1 : World) : Prop := e = .returned (.bool r) ∧ Md wr w1 Fp Fr B st R rs
/-- Behind the reference's. -/
def Post2 (w wr : World) (Fp Fr : Nat → Prop) (B R k : Nat) (r : Bool) (e : Ending) (w2 : World) : Prop := e = .returned (.bool r) ∧ Nx w wr w2 Fp Fr B R k

section
variable {w wr w1 : World} {Fp Fr : Nat → Prop} {B : Nat} {st : St} {R : Nat} {rs : RSt} {k : Nat}

theorem Pl.refR (h : Pl w wr Fp Fr B st R rs k) : Fr R := by obtain ⟨_, _, _, _, _, p⟩ := h.both.r; exact p.fR
theorem Pl.up (h : Pl w wr Fp Fr B st R rs k) : Pl w wr Fp Fr B st R rs (k + 1) := ⟨⟨h.both.s, h.both.r, h.both.sim, h.both.bnd.up (Nat.le_succ k)⟩, h.fp, h.fr, h.dis, h.upd⟩
theorem Pl.drew (h : Pl w wr Fp Fr B st R rs k) : Pl w wr.drew Fp Fr B st R rs k := h.same (Upd.refl _ _).drew

theorem Pl.post1 (h : Pl w wr Fp Fr B st R rs k) {st' : St} {r r' : Bool} {e : Ending} (hp : StPost wr Fp B r st' e w1) (hr : r = r') : Post1 wr Fp Fr B st' R rs r' e w1 := by
  obtain ⟨rfl, hs, hu, _⟩ := hp
  exact ⟨by rw [hr], h.md hs hu⟩
theorem Pl.post2 (h : Pl w wr Fp Fr B st R rs k) {st' : St} (m : Md wr w1 Fp Fr B st' R rs) {rs' : RSt} {r : Bool} {e : Ending} {w2 : World} (hp : RPost w1 Fr R r rs' e w2) (hM : Sim st' rs') (hB : Bnd st' rs' (k + 1)) : Post2 w wr Fp Fr B R k r e w2 := by
  obtain ⟨rfl, hs, hu⟩ := hp
  obtain ⟨c1, c2⟩ := h.close m hs (hu.mono (fun i _ e => by subst e; exact h.refR)) hM hB
  exact ⟨rfl, ⟨_, _, _, _, c1⟩, c2⟩

theorem chs_lt {i : Nat} (hB : Bnd st rs i) (hi : i ≤ 100) : st.chs.length + st.chs.length + 2 < 1048576 * 1048576 := by have := hB.chs; omega
theorem l_lt {i : Nat} (hB : Bnd st rs i) (hi : i ≤ 100) : rs.L.length < 1048576 * 1048576 := by have := hB.l; omega

theorem rep1 (h : Pl w wr Fp Fr B st R rs k) (hk : k ≤ 60) (x : ByteArray) (n : Int) :
    Calls Try.prog 6 #[.pointer (some ⟨B, 0, none⟩), .string x, .int .i64 n] wr (Post1 wr Fp Fr B (st.replay x n) R rs (rcanRep rs.L x n)) :=
  (replay_any wr Fp B st h.both.s x n (by have := chs_lt h.both.bnd (by omega); omega)).mono fun _ _ hp => h.post1 hp (h.both.sim.rep x n).1
theorem rep2 (h : Pl w wr Fp Fr B st R rs k) (hk : k ≤ 60) (x : ByteArray) (n : Int) (m : Md wr w1 Fp Fr B (st.replay x n) R rs) :
    Calls Try.prog 7 #[.pointer (some ⟨R, 0, none⟩), .string x, .int .i64 n] w1 (Post2 w wr Fp Fr B R k (rcanRep rs.L x n)) :=
  (rreplay_any w1 Fr R rs m.r x n (by have := l_lt h.both.bnd (by omega); omega)).mono fun _ _ hp => h.post2 m hp (h.both.sim.rep x n).2 (h.both.bnd.rep x n)

theorem swap1 (h : Pl w wr Fp Fr B st R rs k) (hk : k ≤ 60) (x y : ByteArray) :
    Calls Try.prog 8 #[.pointer (some ⟨B, 0, none⟩), .string x, .string y] wr (Post1 wr Fp Fr B (st.swap x y) R rs ((rsh rs.L x).isSome && (rsh rs.L y).isSome)) :=
  (swap_any wr Fp B st h.both.s x y (by have := chs_lt h.both.bnd (by omega); omega)).mono fun _ _ hp => h.post1 hp (h.both.sim.swap x y).1
theorem swap2 (h : Pl w wr Fp Fr B st R rs k) (hk : k ≤ 60) (x y : ByteArray) (m : Md wr w1 Fp Fr B (st.swap x y) R rs) :
    Calls Try.prog 9 #[.pointer (some ⟨R, 0, none⟩), .string x, .string y] w1 (Post2 w wr Fp Fr B R k ((rsh rs.L x).isSome && (rsh rs.L y).isSome)) :=
  (rswap_any w1 Fr R rs m.r x y (by have := l_lt h.both.bnd (by omega); omega)).mono fun _ _ hp => h.post2 m hp (h.both.sim.swap x y).2 (h.both.bnd.swap x y)

theorem flip1 (h : Pl w wr Fp Fr B st R rs k) (hk : k ≤ 60) (x : ByteArray) (n : Int) (hn : n ≤ 9223372036854775807) :
    Calls Try.prog 14 #[.pointer (some ⟨B, 0, none⟩), .string x, .int .i64 n] wr (Post1 wr Fp Fr B (st.flip x n) R rs (rcanFlip rs.L x n)) :=
  (flip_any wr Fp B st h.both.s x n (by have := chs_lt h.both.bnd (by omega); omega) (by unfold St.show; rw [h.both.sim.get]; have := shows_b h.both.sim h.both.bnd x; omega) hn).mono fun _ _ hp => h.post1 hp (h.both.sim.flip x n).1
theorem flip2 (h : Pl w wr Fp Fr B st R rs k) (hk : k ≤ 60) (x : ByteArray) (n : Int) (hn : n ≤ 9223372036854775807) (m : Md wr w1 Fp Fr B (st.flip x n) R rs) :
    Calls Try.prog 15 #[.pointer (some ⟨R, 0, none⟩), .string x, .int .i64 n] w1 (Post2 w wr Fp Fr B R k (rcanFlip rs.L x n)) :=
  (rflip_any w1 Fr R rs m.r x n (by have := l_lt h.both.bnd (by omega); omega) hn (fun c hc => by have := (h.both.bnd.cells c hc).b; omega)).mono fun _ _ hp => h.post2 m hp (h.both.sim.flip x n).2 (h.both.bnd.flip x n)

def delSt (st : St) (x : ByteArray) : St := if (kvGet st.shows x).isSome then st.set x none else st
theorem del_sim (hM : Sim st rs) (x : ByteArray) : Sim (delSt st x) { rs with L := rdel rs.L x } := by
  obtain ⟨h1, h2, h3⟩ := hM.del x
  unfold delSt
  rw [h1]
  cases hq : rsh rs.L x with
  | some i => exact h2 (by rw [hq]; simp)
  | none => rw [h3 hq]; exact hM
theorem del1 (h : Pl w wr Fp Fr B st R rs k) (hk : k ≤ 60) (x : ByteArray) :
    Calls Try.prog 10 #[.pointer (some ⟨B, 0, none⟩), .string x] wr (Post1 wr Fp Fr B (delSt st x) R rs (rsh rs.L x).isSome) :=
  (delete_any wr Fp B st h.both.s x (by have := chs_lt h.both.bnd (by omega); omega)).mono fun _ _ hp => h.post1 (r := (kvGet st.shows x).isSome) hp (h.both.sim.del x).1
theorem del2 (h : Pl w wr Fp Fr B st R rs k) (hk : k ≤ 60) (x : ByteArray) (m : Md wr w1 Fp Fr B (delSt st x) R rs) :
    Calls Try.prog 11 #[.pointer (some ⟨R, 0, none⟩), .string x] w1 (Post2 w wr Fp Fr B R k (rsh rs.L x).isSome) :=
  (rdelete_any w1 Fr R rs m.r x (by have := l_lt h.both.bnd (by omega); omega)).mono fun _ _ hp => h.post2 m hp (del_sim h.both.sim x) (h.both.bnd.del x)

theorem puts_ok (hM : Sim st rs) : ∀ p ∈ st.puts, p < st.chs.length := by
  intro p hp
  obtain ⟨i, hi⟩ := List.mem_iff_getElem?.1 hp
  have hlt : i < rs.old.length := by rw [← hM.len]; exact (List.getElem?_eq_some_iff.1 hi).1
  exact (hM.puts i p _ hi (List.getElem?_eq_getElem hlt)).1
theorem names_ok {i : Nat} (hM : Sim st rs) (hB : Bnd st rs i) : ∀ c ∈ st.chs, c.name.size ≤ maxLen := by
  intro c hc
  obtain ⟨d, hd⟩ := Option.isSome_iff_exists.1 (hM.names c hc)
  have := (hB.cells d (List.mem_of_find?_eq_some hd)).name
  rwa [cellOf_name hd] at this

theorem roll1 (h : Pl w wr Fp Fr B st R rs k) (hk : k ≤ 60) (n : Int) :
    Calls Try.prog 12 #[.pointer (some ⟨B, 0, none⟩), .int .i64 n] wr (Post1 wr Fp Fr B (roll st n) R rs (rcanRoll rs n)) :=
  (roll_any wr Fp B st h.both.s (fun b hb => (h.fp b hb).2) n (puts_ok h.both.sim) (by have := chs_lt h.both.bnd (by omega); omega) (by rw [h.both.sim.len]; have := h.both.bnd.old; omega) (names_ok h.both.sim h.both.bnd)).mono fun _ _ hp => h.post1 hp (h.both.sim.roll n).1
theorem roll2 (h : Pl w wr Fp Fr B st R rs k) (hk : k ≤ 60) (n : Int) (m : Md wr w1 Fp Fr B (roll st n) R rs) :
    Calls Try.prog 13 #[.pointer (some ⟨R, 0, none⟩), .int .i64 n] w1 (Post2 w wr Fp Fr B R k (rcanRoll rs n)) :=
  (rroll_any w1 Fr R rs m.r n (by have := l_lt h.both.bnd (by omega); omega) (by have := h.both.bnd.old; omega) (fun l hl => by have := h.both.bnd.olds l hl; omega)).mono fun _ _ hp => h.post2 m hp (h.both.sim.roll n).2 (Bnd.roll h.both.sim h.both.bnd (by omega) n)

/-- What the fork is, behind what is done to the one that it was forked of. -/
structure Fk (w wr w1 : World) (Fp Fr : Nat → Prop) (B B' : Nat) (st st' : St) (R : Nat) (rs : RSt) (k : Nat) (Fo : Nat → Prop) : Prop where
  old : IsStore w1 Fo B st'
  fo : ∀ g, Fo g → Fp g ∨ (wr.heap.size ≤ g ∧ g < w1.heap.size)
  pl : ∃ Ff, Pl w w1 Ff Fr B' st R rs k ∧ (∀ g, Ff g → Fo g → BBlk w1 g)
  upd : Upd Fp wr w1

theorem fork1 (h : Pl w wr Fp Fr B st R rs k) (hk : k ≤ 60) :
    Calls Try.prog 16 #[.pointer (some ⟨B, 0, none⟩)] wr fun e w1 => ∃ B', e = .returned (.pointer (some ⟨B', 0, none⟩)) ∧ Fk w wr w1 Fp Fr B B' st st R rs k Fp := by
  refine (fork_any wr Fp B st h.both.s (by have := chs_lt h.both.bnd (by omega); omega) (by rw [h.both.sim.len]; have := h.both.bnd.old; omega)).mono ?_
  rintro e w1 ⟨B', rfl, hS, hU⟩
  have h1 := h.same hU
  have hs := h.upd.size
  refine ⟨B', rfl, h1.both.s, fun g hg => .inl hg, ⟨_, ⟨⟨hS, h1.both.r, h1.both.sim, h1.both.bnd⟩, fun g hg => ?_, h1.fr, fun g hg hf => ?_, h1.upd⟩, fun g hg hf => ?_⟩, hU.mono (fun _ _ h => h.elim)⟩
  · exact hg.elim (fun hg => h1.fp g hg.1) (fun hg => ⟨by omega, hg.2⟩)
  · exact hg.elim (fun hg => h1.dis g hg.1 hf) (fun hg => by have := (h.fr g hf).2; omega)
  · rcases hg with ⟨_, arr, t, f, ht, hb⟩ | hg
    · exact ⟨arr, t, f, ht, hU.keep hb (fun h => h)⟩
    · have := (h.fp g hf).2; omega

/-- A step of the old one: the fork stays. -/
theorem Fk.step {w2 : World} {B' : Nat} {st' st'' : St} {Fo : Nat → Prop} (hw : Pl w wr Fp Fr B st R rs k) (h : Fk w wr w1 Fp Fr B B' st st' R rs k Fo) (hS : IsStore w2 (Plus Fo w1 w2) B st'') (hU : Upd Fo w1 w2) (hK : KeepB w1 w2) :
    Fk w wr w2 Fp Fr B B' st st'' R rs k (Plus Fo w1 w2) := by
  obtain ⟨Ff, hP, hb⟩ := h.pl
  have s1 := h.upd.size
  have s2 := hU.size
  have s0 := hw.upd.size
  have hfr : ∀ g, Fr g → ¬ Fo g := fun g hg hf => (h.fo g hf).elim (fun hp => hw.dis g hp hg) (fun hp => by have := (hw.fr g hg).2; omega)
  refine ⟨hS, fun g hg => ?_, ⟨Ff, ⟨⟨hP.both.s.kept (fun _ _ h => h) (fun g hg hf => ?_), hP.both.r.kept (fun _ _ h => h) (fun g hg hf => hU.block g hg (hfr g hf)), hP.both.sim, hP.both.bnd⟩, fun g hg => ⟨(hP.fp g hg).1, Nat.lt_of_lt_of_le (hP.fp g hg).2 s2⟩, fun g hg => ⟨(hP.fr g hg).1, Nat.lt_of_lt_of_le (hP.fr g hg).2 s2⟩, hP.dis, hP.upd.trans hU (fun g hg hf => ?_)⟩, fun g hg hf => ?_⟩, h.upd.trans hU (fun g hg hf => ?_)⟩
  · rcases hg with hg | hg
    · exact (h.fo g hg).imp id (fun h => ⟨h.1, by omega⟩)
    · exact .inr ⟨by omega, hg.2⟩
  · rcases Classical.em (Fo g) with hq | hq
    · obtain ⟨arr, t, f, ht, hbk⟩ := hb g hf hq
      exact hK g hg ⟨arr, t, f, ht, hbk⟩
    · exact hU.block g hg hq
  · exact (h.fo g hf).elim (fun hp => by have := (hw.fp g hp).1; omega) (fun hp => by omega)
  · rcases hf with hf | hf
    · obtain ⟨arr, t, f, ht, hbk⟩ := hb g hg hf
      exact ⟨arr, t, f, ht, (hK g (lt_of_blk hbk) ⟨arr, t, f, ht, hbk⟩).trans hbk⟩
    · have := (hP.fp g hg).2; omega
  · exact (h.fo g hf).elim id (fun hp => by omega)

theorem Fk.same {w2 : World} {B' : Nat} {st' : St} {Fo : Nat → Prop} (h : Fk w wr w1 Fp Fr B B' st st' R rs k Fo) (hU : Upd (fun _ => False) w1 w2) : Fk w wr w2 Fp Fr B B' st st' R rs k Fo := by
  obtain ⟨Ff, hP, hb⟩ := h.pl
  have s2 := hU.size
  exact ⟨h.old.kept (fun _ _ h => h) (fun g hg _ => hU.block g hg (fun h => h)), fun g hg => (h.fo g hg).imp id (fun h => ⟨h.1, by omega⟩), ⟨Ff, hP.same hU, fun g hg hf => by obtain ⟨arr, t, f, ht, hbk⟩ := hb g hg hf; exact ⟨arr, t, f, ht, hU.keep hbk (fun h => h)⟩⟩, h.upd.trans hU (fun _ _ h => h.elim)⟩

theorem verl_few {i : Nat} (hM : Sim st rs) (hB : Bnd st rs i) (x : ByteArray) : ((kvGet st.vers x).getD []).length ≤ i := by
  rw [hM.vers x]
  cases hc : cellOf rs.L x with
  | none => exact Nat.zero_le _
  | some c => exact (hB.cells c (List.mem_of_find?_eq_some hc)).all

theorem fput {B' : Nat} {Fo : Nat → Prop} (hw : Pl w wr Fp Fr B st R rs k) (hk : k ≤ 60) (h : Fk w wr w1 Fp Fr B B' st st R rs k Fo) (x : ByteArray) (a : Option Addr) (c : Nat) (F' : Nat → Prop) (T : TypeId → Prop) (hb : IsB w1 F' T (.slice a 1 c) [7]) :
    Calls Try.prog 17 #[.pointer (some ⟨B, 0, none⟩), .string x, .slice a 1 c] w1 fun e w2 => e = .returned (.tuple #[]) ∧ Fk w wr w2 Fp Fr B B' st (st.put x [7]) R rs k (Plus Fo w1 w2) := by
  refine (put_any w1 Fo B st h.old x a 1 c [7] F' T hb (by decide) (by have := chs_lt hw.both.bnd (by omega); omega) (by rw [hw.both.sim.len]; have := hw.both.bnd.old; omega) (by have := verl_few hw.both.sim hw.both.bnd x; omega)).mono ?_
  rintro e w2 ⟨rfl, hS, hU, hK⟩
  exact ⟨rfl, h.step hw hS hU hK⟩

theorem froll {B' : Nat} {Fo : Nat → Prop} (hw : Pl w wr Fp Fr B st R rs k) (hk : k ≤ 60) {x : ByteArray} (hx : x.size ≤ maxLen) (h : Fk w wr w1 Fp Fr B B' st (st.put x [7]) R rs k Fo) (n : Int) :
    Calls Try.prog 12 #[.pointer (some ⟨B, 0, none⟩), .int .i64 n] w1 fun e w2 => ∃ r, e = .returned (.bool r) ∧ Fk w wr w2 Fp Fr B B' st (roll (st.put x [7]) n) R rs k (Plus Fo w1 w2) := by
  have hM := hw.both.sim.put x [7]
  have hB := hw.both.bnd.put x [7] hx (by decide)
  refine (roll_any w1 Fo B _ h.old (fun b hb => (h.fo b hb).elim (fun hp => Nat.lt_of_lt_of_le (hw.fp b hp).2 h.upd.size) (fun hp => hp.2)) n (puts_ok hM) (by have := chs_lt hB (by omega); omega) (by rw [hM.len]; have := hB.old; omega) (names_ok hM hB)).mono ?_
  rintro e w2 ⟨rfl, hS, hU, hK⟩
  exact ⟨_, rfl, h.step hw hS hU hK⟩

theorem Pl.spoil (h : Pl w wr Fp Fr B st R rs k) {g : Nat} (hU : Upd (fun b => b = g) wr w1) (hp : ¬ Fp g) (hr : ¬ Fr g) (hg : w.heap.size ≤ g) : Pl w w1 Fp Fr B st R rs k :=
  ⟨⟨h.both.s.kept (fun _ _ h => h) (fun b hb hf => hU.block b hb (fun e => by subst e; exact hp hf)), h.both.r.kept (fun _ _ h => h) (fun b hb hf => hU.block b hb (fun e => by subst e; exact hr hf)), h.both.sim, h.both.bnd⟩,
   fun b hb => ⟨(h.fp b hb).1, Nat.lt_of_lt_of_le (h.fp b hb).2 hU.size⟩, fun b hb => ⟨(h.fr b hb).1, Nat.lt_of_lt_of_le (h.fr b hb).2 hU.size⟩, h.dis, h.upd.trans hU (fun b hb e => by subst e; omega)⟩

theorem put1 (h : Pl w wr Fp Fr B st R rs k) (hk : k ≤ 60) (x : ByteArray) (a : Option Addr) (n c : Nat) (b : List UInt8) (F' : Nat → Prop) (T : TypeId → Prop) (hb : IsB wr F' T (.slice a n c) b) (hl : b.length ≤ 300) :
    Calls Try.prog 17 #[.pointer (some ⟨B, 0, none⟩), .string x, .slice a n c] wr fun e w1 => e = .returned (.tuple #[]) ∧ Md wr w1 Fp Fr B (st.put x b) R rs := by
  refine (put_any wr Fp B st h.both.s x a n c b F' T hb (by omega) (by have := chs_lt h.both.bnd (by omega); omega) (by rw [h.both.sim.len]; have := h.both.bnd.old; omega) (by have := verl_few h.both.sim h.both.bnd x; omega)).mono ?_
  rintro e w2 ⟨rfl, hS, hU, hK⟩
  exact ⟨rfl, h.md hS hU⟩

def PutPost2 (w wr w1 : World) (Fp Fr : Nat → Prop) (B : Nat) (st : St) (R : Nat) (rs : RSt) (k : Nat) (e : Ending) (w2 : World) : Prop :=
  e = .returned (.tuple #[]) ∧ Pl w w2 (Plus Fp wr w1) (Plus Fr w1 w2) B st R rs (k + 1) ∧ Upd (fun g => Fp g ∨ Fr g) wr w2
theorem put2 (h : Pl w wr Fp Fr B st R rs k) (hk : k ≤ 60) (x : ByteArray) (hx : x.size ≤ maxLen) (a : Option Addr) (n c : Nat) (b : List UInt8) (T : TypeId → Prop) (hb : IsB wr (fun g => g < w.heap.size) T (.slice a n c) b) (hl : b.length ≤ 300) (m : Md wr w1 Fp Fr B (st.put x b) R rs) :
    Calls Try.prog 19 #[.pointer (some ⟨R, 0, none⟩), .string x, .slice a n c] w1 (PutPost2 w wr w1 Fp Fr B (st.put x b) R ⟨rput rs.L x b, rs.old ++ [rs.L]⟩ k) := by
  refine (rput_any w1 Fr R rs m.r x a n c b (fun g => g < w.heap.size) T (IsRow.kept hb (fun _ _ h => h) (fun g hg hf _ => m.u.block g hg (fun hp => by have := (h.fp g hp).1; omega))) (fun g hg hf => by have := (h.fr g hf).1; omega) (by omega) (l_lt h.both.bnd (by omega)) (by have := h.both.bnd.old; omega) (fun c hc => by have := (h.both.bnd.cells c hc).all; omega)).mono ?_
  rintro e w2 ⟨rfl, hS, hU⟩
  exact ⟨rfl, h.close m hS hU (h.both.sim.put x b) (h.both.bnd.put x b hx hl)⟩

theorem cut_nx {b : Nat} {o : OpC} {ba : Option Addr} {bc : Nat} {w2 : World} (hb : BoxAt w2 b o ba bc) (m : Nx w wr w2 Fp Fr B R k) : CutAt w R k b o ba bc (.pointer (some ⟨B, 0, none⟩)) (.bool true) w2 := by
  obtain ⟨⟨_, _, _, _, h⟩, _⟩ := m
  exact ⟨rfl, hb, _, _, _, _, _, rfl, h⟩

theorem cut_fk {B' : Nat} {st' : St} {Fo : Nat → Prop} {b : Nat} {o : OpC} {ba : Option Addr} {bc : Nat} (hb : BoxAt wr b o ba bc) (hn : ¬ Fp b) (h : Fk w wr w1 Fp Fr B B' st st' R rs k Fo) : CutAt w R k b o ba bc (.pointer (some ⟨B', 0, none⟩)) (.bool true) w1 := by
  obtain ⟨Ff, hP, _⟩ := h.pl
  exact ⟨rfl, h.upd.keep hb hn, _, _, _, _, _, rfl, hP.up⟩

theorem OwnLies.kept {w w' : World} {g cap : Nat} {b : List UInt8} {fill : UInt8} {k : Nat} (h : OwnLies w g cap b fill k) (he : ∀ o, w.heap[g]? = some o → w'.heap[g]? = some o) : OwnLies w' g cap b fill k := by
  obtain ⟨cur, h1, h2⟩ := h
  exact ⟨cur, he _ h1, h2⟩
theorem OwnLies.spoil {w : World} {g cap : Nat} {b : List UInt8} {fill : UInt8} {k : Nat} (h : OwnLies w g cap b fill k) : SpoilMid w w g 0 b.length := by
  obtain ⟨cur, h1, _, _, h4, _⟩ := h
  exact ⟨⟨cur, h1, fun i hi => ⟨b[i], by rw [Nat.zero_add]; exact h4 i hi⟩⟩, Upd.refl _ _⟩

/-- All of it behind the default kind. -/
theorem cut_put {w2 w3 w4 w5 : World} {st' : St} {rs' : RSt} {b g : Nat} {o : OpC} {ba : Option Addr} {bc : Nat} (hb : BoxAt wr b o ba bc) (hn : ¬ (Fp b ∨ Fr b)) (hbw : w.heap.size ≤ g) (h1 : Upd (fun _ => False) wr w1) (hg : wr.heap.size ≤ g) (hg1 : g < w1.heap.size)
    (hP : Pl w w3 (Plus Fp w1 w2) (Plus Fr w2 w3) B st' R rs' (k + 1)) (hU : Upd (fun g => Fp g ∨ Fr g) w1 w3) (s2 : w1.heap.size ≤ w2.heap.size) (hf : ∀ g, Fp g ∨ Fr g → g < wr.heap.size) (h4 : SameD w3 w4) (h5 : Upd (fun b => b = g) w4 w5) : CutAt w R k b o ba bc (.pointer (some ⟨B, 0, none⟩)) (.bool true) w5 := by
  have hP4 := hP.same h4.1
  have hp : ¬ Plus Fp w1 w2 g := fun h => h.elim (fun h => by have := hf g (.inl h); omega) (fun h => by omega)
  have hr : ¬ Plus Fr w2 w3 g := fun h => h.elim (fun h => by have := hf g (.inr h); omega) (fun h => by omega)
  have hb1 : BoxAt w1 b o ba bc := h1.keep hb (fun h => h)
  have hb3 : BoxAt w3 b o ba bc := hU.keep hb1 hn
  have hb4 : BoxAt w4 b o ba bc := h4.1.keep hb3 (fun h => h)
  have hbl : b < wr.heap.size := lt_of_blk hb
  exact ⟨rfl, h5.keep hb4 (by omega), _, _, _, _, _, rfl, hP4.spoil h5 hp hr hbw⟩

theorem box_md {b : Nat} {o : OpC} {ba : Option Addr} {bc : Nat} {st' : St} (hb : BoxAt wr b o ba bc) (hn : ¬ Fp b) (m : Md wr w1 Fp Fr B st' R rs) : BoxAt w1 b o ba bc := m.u.keep hb hn
theorem box_nx {b : Nat} {o : OpC} {ba : Option Addr} {bc : Nat} (hb : BoxAt wr b o ba bc) (hn : ¬ (Fp b ∨ Fr b)) {w2 : World} (m : Nx w wr w2 Fp Fr B R k) : BoxAt w2 b o ba bc := m.2.keep hb hn
end

set_option maxRecDepth 100000 in
set_option maxHeartbeats 8000000 in
theorem play_any (w : World) (a : Option Addr) (cap : Nat) (os : List OpC) (hS : IsScript w (.slice a os.length cap) os) :
    Calls Try.prog 3 #[.slice a os.length cap] w fun e w' => e = .returned (.bool true) ∧ Upd (fun _ => False) w w' := by
  have HSC := Lib.hid hS
  clear hS
  go_enter Try.func3, Try.ntmps3
  go_wp2_with fail
  refine (new_any w).mono ?_
  rintro e w1 ⟨B, rfl, hS, hU1, hB⟩
  have H1 : Hid (Pl w (w1.alloc (.cells #[.slice none 0 0, .slice none 0 0] 29)) (Plus (fun _ => False) w w1) (fun g => g = w1.heap.size) B St.new w1.heap.size ⟨[], []⟩ 0) := Lib.hid (by
    have hs := hU1.size
    refine ⟨⟨hS.kept (fun _ _ h => h) (fun b hb _ => Below.heap_alloc _ _ _ hb), isRef_new (heap_alloc_new _ _), sim_new, bnd_new⟩, fun g hg => ?_, fun g hg => ?_, fun g hg hf => ?_, hU1.alloc _⟩
    · exact hg.elim (fun h => h.elim) (fun h => ⟨h.1, by simp; omega⟩)
    · subst hg; exact ⟨hs, by simp⟩
    · subst hf; exact hg.elim (fun h => h.elim) (fun h => by omega))
  clear hS hU1 hB
  generalize hR : w1.heap.size = R at H1
  go_wp2_with fail
  refine (awake_any _).mono ?_
  rintro e w2 ⟨rfl, hU2⟩
  have H2 := Lib.hid (H1.out.same hU2)
  have HR := Lib.hid hR
  clear hU2 hR H1
  go_wp2_with fail
  go_loopw [3, 5] (fun s i wr => ∃ k : Nat, k ≤ 60 ∧ i = .int .i64 k ∧ HeadAt w R k s wr) (fun _ i _ => 60 - (intOf i).toNat)
  case atStart => exact ⟨0, by omega, rfl, _, _, _, _, _, rfl, H2.out⟩
  case round =>
    obtain ⟨k, hk, rfl, B, Fp, Fr, st, rs, rfl, hP⟩ := hrel
    have HP := Lib.hid hP
    clear hP
    by_cases hlt : k < os.length ∧ k < 60
    · obtain ⟨hlt, hlt60⟩ := hlt
      obtain ⟨_, _, he, hops⟩ := HSC.out
      cases he
      obtain ⟨g, off, arr, t, f, ba, bc, hO⟩ := hops k hlt
      clear hops
      generalize os[k] = o at hO
      obtain rfl := hO.addr
      have l0 := upd_cell HP.out.upd hO.blk (fun h => h) _ _ hO.c0
      have l1 := upd_cell HP.out.upd hO.blk (fun h => h) _ _ hO.c1
      have l2 := upd_cell HP.out.upd hO.blk (fun h => h) _ _ hO.c2
      have l3 := upd_cell HP.out.upd hO.blk (fun h => h) _ _ hO.c3
      have l4 := upd_cell HP.out.upd hO.blk (fun h => h) _ _ hO.c4
      have HO := Lib.hid hO
      clear hO
      have hk0 : (0 : Int) ≤ (k : Int) := by omega
      have hk1 : (k : Int) < ((os.length : Nat) : Int) := by omega
      have hk2 : (k : Int) < 60 := by omega
      have HPB : Hid (Pl w (wr.alloc (.cells #[.int .i64 o.kind, .int .i64 o.n, .string o.name, .string o.tgt, .slice ba o.b.length bc] 33)) Fp Fr B st R rs k) := Lib.hid (HP.out.same ((Upd.refl _ _).alloc _))
      have HBX : Hid (BoxAt (wr.alloc (.cells #[.int .i64 o.kind, .int .i64 o.n, .string o.name, .string o.tgt, .slice ba o.b.length bc] 33)) wr.heap.size o ba bc) := Lib.hid (heap_alloc_new _ _)
      have HNB : Hid (¬ (Fp wr.heap.size ∨ Fr wr.heap.size)) := Lib.hid (fun h => h.elim (fun h => by have := (HP.out.fp _ h).2; omega) (fun h => by have := (HP.out.fr _ h).2; omega))
      by_cases hbig : (¬ o.kind = 1 ∧ ¬ o.kind = 2 ∧ ¬ o.kind = 3 ∧ ¬ o.kind = 4 ∧ ¬ o.kind = 5 ∧ ¬ o.kind = 6) ∧ 300 < o.b.length
      · obtain ⟨⟨d1, d2, d3, d4, d5, d6⟩, hbl⟩ := hbig
        go_wp2_with fail
        go_roundw
        case rel => exact ⟨k + 1, by omega, by go_num, _, _, _, _, _, rfl, HPB.out.up⟩
        case measure => simp [intOf]; omega
      · go_upto_block 2 with fail
        generalize hbx : wr.heap.size = bx at HBX HNB ⊢
        generalize hwb : wr.alloc (.cells #[.int .i64 o.kind, .int .i64 o.n, .string o.name, .string o.tgt, .slice ba o.b.length bc] 33) = wb at HPB HBX ⊢
        have HSZ : Hid (w.heap.size ≤ bx) := Lib.hid (by rw [← hbx]; exact HP.out.upd.size)
        clear hbx hwb
        go_cut [3, 7, 32, 34] (fun s ok _ _ wx => CutAt w R k bx o ba bc s ok wx)
        case first =>
          have b1 : wb.cell? ⟨bx, 1, none⟩ = some (.int .i64 o.n) := cell_blk HBX.out 1 _ rfl
          have b2 : wb.cell? ⟨bx, 2, none⟩ = some (.string o.name) := cell_blk HBX.out 2 _ rfl
          have b3 : wb.cell? ⟨bx, 3, none⟩ = some (.string o.tgt) := cell_blk HBX.out 3 _ rfl
          have b4 : wb.cell? ⟨bx, 4, none⟩ = some (.slice ba o.b.length bc) := cell_blk HBX.out 4 _ rfl
          have HK : Hid (k ≤ 60) := Lib.hid (by omega)
          have HNM : Hid (o.n ≤ 9223372036854775807) := Lib.hid HO.out.n
          have HBD : Hid (BoxAt wb.drew bx o ba bc) := Lib.hid HBX.out
          have HNP : Hid (¬ Fp bx) := Lib.hid (fun h => HNB.out (.inl h))
          clear l0 l1 l2 l3 l4
          by_cases d1 : o.kind = 1
          · go_wp2_with fail
            go_region_held3 (fun w' => w'.cell? ⟨bx, 2, none⟩ = some (.string o.name) ∧ w'.cell? ⟨bx, 1, none⟩ = some (.int .i64 o.n))
              (first
                | exact ⟨b2, b1⟩
                | exact ⟨cell_blk HBY.out 2 _ rfl, cell_blk HBY.out 1 _ rfl⟩
                | exact ⟨cell_blk HBZ.out 2 _ rfl, cell_blk HBZ.out 1 _ rfl⟩
                | go_keep)
              (first
                | (go_at_call 6; refine (rep1 (w := w) (k := k) HPB.out.drew HK.out o.name o.n).mono ?_; rintro e w1 ⟨rfl, m⟩; have HM := Lib.hid m; have HBY := Lib.hid (box_md HBD.out HNP.out m); clear m)
                | (go_at_call 7; refine (rep2 (w := w) (k := k) HPB.out.drew HK.out o.name o.n HM.out).mono ?_; rintro e w2 ⟨rfl, m⟩; have HN := Lib.hid m; have HBZ := Lib.hid (box_nx HBD.out HNB.out m); clear m))
            go_wp2_with fail
            go_meet
            exact cut_nx HBZ.out HN.out
          by_cases d2 : o.kind = 2
          · go_wp2_with fail
            go_region_held3 (fun w' => w'.cell? ⟨bx, 2, none⟩ = some (.string o.name) ∧ w'.cell? ⟨bx, 3, none⟩ = some (.string o.tgt))
              (first
                | exact ⟨b2, b3⟩
                | exact ⟨cell_blk HBY.out 2 _ rfl, cell_blk HBY.out 3 _ rfl⟩
                | exact ⟨cell_blk HBZ.out 2 _ rfl, cell_blk HBZ.out 3 _ rfl⟩
                | go_keep)
              (first
                | (go_at_call 8; refine (swap1 (w := w) (k := k) HPB.out.drew HK.out o.name o.tgt).mono ?_; rintro e w1 ⟨rfl, m⟩; have HM := Lib.hid m; have HBY := Lib.hid (box_md HBD.out HNP.out m); clear m)
                | (go_at_call 9; refine (swap2 (w := w) (k := k) HPB.out.drew HK.out o.name o.tgt HM.out).mono ?_; rintro e w2 ⟨rfl, m⟩; have HN := Lib.hid m; have HBZ := Lib.hid (box_nx HBD.out HNB.out m); clear m))
            go_wp2_with fail
            go_meet
            exact cut_nx HBZ.out HN.out
          by_cases d3 : o.kind = 3
          · go_wp2_with fail
            go_region_held3 (fun w' => w'.cell? ⟨bx, 2, none⟩ = some (.string o.name))
              (first
                | exact b2
                | exact cell_blk HBY.out 2 _ rfl
                | exact cell_blk HBZ.out 2 _ rfl
                | go_keep)
              (first
                | (go_at_call 10; refine (del1 (w := w) (k := k) HPB.out.drew HK.out o.name).mono ?_; rintro e w1 ⟨rfl, m⟩; have HM := Lib.hid m; have HBY := Lib.hid (box_md HBD.out HNP.out m); clear m)
                | (go_at_call 11; refine (del2 (w := w) (k := k) HPB.out.drew HK.out o.name HM.out).mono ?_; rintro e w2 ⟨rfl, m⟩; have HN := Lib.hid m; have HBZ := Lib.hid (box_nx HBD.out HNB.out m); clear m))
            go_wp2_with fail
            go_meet
            exact cut_nx HBZ.out HN.out
          by_cases d4 : o.kind = 4
          · go_wp2_with fail
            go_region_held3 (fun w' => w'.cell? ⟨bx, 1, none⟩ = some (.int .i64 o.n))
              (first
                | exact b1
                | exact cell_blk HBY.out 1 _ rfl
                | exact cell_blk HBZ.out 1 _ rfl
                | go_keep)
              (first
                | (go_at_call 12; refine (roll1 (w := w) (k := k) HPB.out.drew HK.out o.n).mono ?_; rintro e w1 ⟨rfl, m⟩; have HM := Lib.hid m; have HBY := Lib.hid (box_md HBD.out HNP.out m); clear m)
                | (go_at_call 13; refine (roll2 (w := w) (k := k) HPB.out.drew HK.out o.n HM.out).mono ?_; rintro e w2 ⟨rfl, m⟩; have HN := Lib.hid m; have HBZ := Lib.hid (box_nx HBD.out HNB.out m); clear m))
            go_wp2_with fail
            go_meet
            exact cut_nx HBZ.out HN.out
          by_cases d5 : o.kind = 5
          · go_wp2_with fail
            go_region_held3 (fun w' => w'.cell? ⟨bx, 2, none⟩ = some (.string o.name) ∧ w'.cell? ⟨bx, 1, none⟩ = some (.int .i64 o.n))
              (first
                | exact ⟨b2, b1⟩
                | exact ⟨cell_blk HBY.out 2 _ rfl, cell_blk HBY.out 1 _ rfl⟩
                | exact ⟨cell_blk HBZ.out 2 _ rfl, cell_blk HBZ.out 1 _ rfl⟩
                | go_keep)
              (first
                | (go_at_call 14; refine (flip1 (w := w) (k := k) HPB.out.drew HK.out o.name o.n HNM.out).mono ?_; rintro e w1 ⟨rfl, m⟩; have HM := Lib.hid m; have HBY := Lib.hid (box_md HBD.out HNP.out m); clear m)
                | (go_at_call 15; refine (flip2 (w := w) (k := k) HPB.out.drew HK.out o.name o.n HNM.out HM.out).mono ?_; rintro e w2 ⟨rfl, m⟩; have HN := Lib.hid m; have HBZ := Lib.hid (box_nx HBD.out HNB.out m); clear m))
            go_wp2_with fail
            go_meet
            exact cut_nx HBZ.out HN.out
          by_cases d6 : o.kind = 6
          · go_wp2_with fail
            refine (fork1 HPB.out HK.out).mono ?_
            rintro e w1 ⟨B', rfl, hF⟩
            have HF1 := Lib.hid hF
            clear hF
            go_wp2_with fail
            refine (fput HPB.out HK.out (HF1.out.same ((Upd.refl _ _).alloc _)) _ (some ⟨w1.heap.size, 0, none⟩) 1 (fun _ => True) (fun _ => True)
              ⟨_, 1, rfl, (fun h => by cases h), Nat.le_refl _, fun _ => ⟨w1.heap.size, 0, _, _, _, rfl, trivial, trivial, heap_alloc_new _ _, fun i u hu => by
                cases i with
                | zero => simpa [bv] using hu
                | succ i => simp at hu⟩⟩).mono ?_
            rintro e w2 ⟨rfl, hF⟩
            have HF2 := Lib.hid hF
            clear hF
            go_wp2_with fail
            refine (froll HPB.out HK.out (by decide) HF2.out 3).mono ?_
            rintro e w3 ⟨r, rfl, hF⟩
            have HF3 := Lib.hid hF
            clear hF
            go_wp2_with fail
            go_meet
            exact cut_fk HBX.out HNP.out HF3.out
          have hbl : o.b.length ≤ 300 := Decidable.byContradiction fun h => hbig ⟨⟨d1, d2, d3, d4, d5, d6⟩, by omega⟩
          have HBL := Lib.hid hbl
          have hbl' : ¬ (300 : Int) < ((o.b.length : Nat) : Int) := by omega
          have HOB : Hid (IsB wb (fun g => g < w.heap.size) (fun _ => True) (.slice ba o.b.length bc) o.b) := Lib.hid (IsRow.kept HO.out.b (fun _ _ h => h) (fun g hg _ _ => HPB.out.upd.block g hg (fun h => h)))
          have HOWN := own_any wb (fun g => g < w.heap.size) (fun _ => True) ba o.b.length bc o.b 71 HOB.out (by omega)
          rw [show bv 71 = .int .u8 71 from rfl] at HOWN
          have HOWN := Lib.hid HOWN
          clear hbl hbig
          go_wp2_with fail
          refine HOWN.out.mono ?_
          rintro e w1 ⟨gi, ci, rfl, hgi, hlie, hU1⟩
          have HGI := Lib.hid hgi
          have HLI := Lib.hid hlie
          have HU1 := Lib.hid hU1
          have HP1 := Lib.hid (HPB.out.same hU1)
          have HB1 := Lib.hid (hU1.keep HBX.out (fun h => h))
          have c2 : w1.cell? ⟨bx, 2, none⟩ = some (.string o.name) := cell_blk HB1.out 2 _ rfl
          clear hgi hlie hU1 HOWN b1 b2 b3 b4
          go_wp2_with fail
          refine (put1 HP1.out HK.out o.name (some ⟨gi, 0, none⟩) o.b.length ci o.b _ _ HLI.out.isB HBL.out).mono ?_
          rintro e w2 ⟨rfl, m⟩
          have HM := Lib.hid m
          have HB2 := Lib.hid (m.u.keep HB1.out HNP.out)
          have c2 : w2.cell? ⟨bx, 2, none⟩ = some (.string o.name) := cell_blk HB2.out 2 _ rfl
          have c4 : w2.cell? ⟨bx, 4, none⟩ = some (.slice ba o.b.length bc) := cell_blk HB2.out 4 _ rfl
          have HOB1 := Lib.hid (IsRow.kept HOB.out (fun _ _ h => h) (fun g hg _ _ => HU1.out.block g hg (fun h => h)) : IsB w1 (fun g => g < w.heap.size) (fun _ => True) (.slice ba o.b.length bc) o.b)
          clear m
          go_wp2_with fail
          refine (put2 HP1.out HK.out o.name HO.out.name ba o.b.length bc o.b (fun _ => True) HOB1.out HBL.out HM.out).mono ?_
          rintro e w3 ⟨rfl, hP3, hU3⟩
          have HP3 := Lib.hid hP3
          have HU3 := Lib.hid hU3
          have HB3 := Lib.hid (hU3.keep HB1.out HNB.out)
          have c4 : w3.cell? ⟨bx, 4, none⟩ = some (.slice ba o.b.length bc) := cell_blk HB3.out 4 _ rfl
          clear hP3 hU3
          go_wp2_with fail
          have HNF : Hid (∀ g, Fp g ∨ Fr g → g < wb.heap.size) := Lib.hid (fun g hg => hg.elim (fun hg => (HPB.out.fp g hg).2) (fun hg => (HPB.out.fr g hg).2))
          have HL3 : Hid (OwnLies w3 gi ci o.b 71 3) := Lib.hid (HLI.out.kept (fun ob hob => HU3.out.keep hob (fun h => by have := HNF.out gi h; have := HGI.out; omega)))
          have HKE := kept_any w3 (fun g => g < w.heap.size) (fun _ => True) gi ci ba o.b.length bc o.b 71 HL3.out (IsRow.kept HOB1.out (fun _ _ h => h) (fun g hg hf _ => HU3.out.block g hg (fun h => h.elim (fun h => by have := (HPB.out.fp g h).1; omega) (fun h => by have := (HPB.out.fr g h).1; omega)))) (by have := HBL.out; omega)
          rw [show ((71 : UInt8).toNat : Int) = 71 from rfl] at HKE
          refine HKE.mono ?_
          rintro e w4 ⟨rfl, hS4⟩
          have HS4 := Lib.hid hS4
          clear hS4 HKE
          go_wp2_with fail
          refine (spoil_some w4 gi 0 o.b.length ci (by have := HBL.out; omega) (HL3.out.kept (fun ob hob => HS4.out.blk hob)).spoil).mono ?_
          rintro e w5 ⟨rfl, _, hU5⟩
          have HU5 := Lib.hid hU5
          clear hU5
          go_wp2_with fail
          go_meet
          exact cut_put HBX.out HNB.out (Nat.le_trans HPB.out.upd.size HGI.out) HU1.out HGI.out (by obtain ⟨_, h, _⟩ := HLI.out; exact lt_of_blk h) HP3.out HU3.out HM.out.u.size HNF.out HS4.out HU5.out
        case rest =>
          obtain ⟨rfl, hB, B', Fp', Fr', st', rs', rfl, hP'⟩ := hcut
          have HB := Lib.hid hB
          have HP' := Lib.hid hP'
          have c2 : wc.cell? ⟨bx, 2, none⟩ = some (.string o.name) := cell_blk HB.out 2 _ rfl
          clear hB hP' l0 l1 l2 l3 l4
          go_wp2_with fail
          refine (shows_any _ Fp' B' st' Fr' R rs' (k + 1) HP'.out.both (by omega) o.name).mono ?_
          rintro e w1 ⟨rfl, hU1⟩
          have HU1 := Lib.hid hU1
          have c3 : w1.cell? ⟨bx, 3, none⟩ = some (.string o.tgt) := cell_blk (hU1.keep HB.out (fun h => h)) 3 _ rfl
          clear hU1
          go_wp2_with fail
          refine (shows_any _ Fp' B' st' Fr' R rs' (k + 1) (HP'.out.same HU1.out).both (by omega) o.tgt).mono ?_
          rintro e w2 ⟨rfl, hU2⟩
          have HU2 := Lib.hid hU2
          clear hU2 c2 c3
          go_wp2_with fail
          go_roundw
          case rel => exact ⟨k + 1, by omega, by go_num, _, _, _, _, _, rfl, (HP'.out.same HU1.out).same HU2.out⟩
          case measure => simp [intOf]; omega
    · by_cases h60 : k < 60
      · have hk1 : ¬ (k : Int) < ((os.length : Nat) : Int) := by omega
        go_wp2_with fail
        go_ret
        exact ⟨rfl, HP.out.upd⟩
      · obtain rfl : k = 60 := by omega
        by_cases hl : 60 < os.length
        · have hk1 : (60 : Int) < ((os.length : Nat) : Int) := by omega
          go_wp2_with fail
          go_ret
          exact ⟨rfl, HP.out.upd⟩
        · have hk1 : ¬ (60 : Int) < ((os.length : Nat) : Int) := by omega
          go_wp2_with fail
          go_ret
          exact ⟨rfl, HP.out.upd⟩
end Go.Proofs.Ytajmaebofhkjjaa
