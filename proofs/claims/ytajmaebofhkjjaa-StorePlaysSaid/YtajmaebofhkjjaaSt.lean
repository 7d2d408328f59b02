import Derived.Test.YtajmaebofhkjjaaChecked
import Derived.Test.YtajmaebofhkjjaaBase
namespace Go.Proofs.Ytajmaebofhkjjaa
open Go.RowKit Go.Proofs.Dm Go.MapKept

/-- A change of a store: what a name showed ahead of it. -/
structure Ch where
  name : ByteArray
  b : List UInt8
  is : Bool

/-- What a store knows. -/
structure St where
  shows : List (ByteArray × List UInt8)
  vers : List (ByteArray × List (List UInt8))
  chs : List Ch
  puts : List Nat

def St.new : St := ⟨[], [], [], []⟩
def St.set (st : St) (name : ByteArray) (b : Option (List UInt8)) : St :=
  { st with
    chs := st.chs ++ [⟨name, (kvGet st.shows name).getD [], (kvGet st.shows name).isSome⟩]
    shows := match b with | some b => kvSet st.shows name b | none => kvDel st.shows name }
def St.put (st : St) (name : ByteArray) (b : List UInt8) : St :=
  let s := { st with puts := st.puts ++ [st.chs.length] }.set name (some b)
  { s with vers := kvSet s.vers name ((kvGet s.vers name).getD [] ++ [b]) }

def tB (t : TypeId) : Prop := t = 5
def tBB (t : TypeId) : Prop := t = 31

/-- A slice of slices of bytes. -/
def IsBB (w : World) (F : Nat → Prop) (v : Value) (l : List (List UInt8)) : Prop :=
  ∃ vs, IsRow w F tBB v l.length vs ∧ Rel2 (IsB w F tB) vs l

def chCells (c : Ch) (v : Value) : List Value := [.string c.name, v, .bool c.is]
/-- Cells of changes. -/
def ChRel (w : World) (F : Nat → Prop) : List Value → List Ch → Prop
  | [], [] => True
  | k :: v :: i :: r, c :: cs => k = .string c.name ∧ IsB w F tB v c.b ∧ i = .bool c.is ∧ ChRel w F r cs
  | _, _ => False

/-- A store's parts, block by block. -/
structure Parts (w : World) (F : Nat → Prop) (B m1 m2 : Nat) (ca : Option Addr) (cc : Nat) (pa : Option Addr) (pc : Nat) (k1 k2 : List (ByteArray × Value)) (xs : List Value) (st : St) : Prop where
  fB : F B
  f1 : F m1
  f2 : F m2
  ne : m1 ≠ m2
  blk : w.heap[B]? = some (.cells #[.map (some m1), .map (some m2), .slice ca st.chs.length cc, .slice pa st.puts.length pc] 49 (0, 0))
  map1 : IsMap w m1 k1
  map2 : IsMap w m2 k2
  rel1 : KRel (IsB w F tB) k1 st.shows
  rel2 : KRel (IsBB w F) k2 st.vers
  own : w.ownsRow 0 66 3 (.slice ca st.chs.length cc) st.chs.length xs
  fc : ∀ g, ca.map (·.block) = some g → F g
  rel : ChRel w F xs st.chs
  pown : w.ownsRow 0 3 1 (.slice pa st.puts.length pc) st.puts.length (st.puts.map fun n : Nat => Value.int .i64 (n : Int))
  fp : ∀ g, pa.map (·.block) = some g → F g

theorem own_ty {w : World} {e size : Nat} {a : Option Addr} {n c : Nat} {xs : List Value} (h : w.ownsRow 0 e size (.slice a n c) n xs) (b : Nat) (hb : a.map (·.block) = some b) : ∃ arr, w.heap[b]? = some (.cells arr e (0, 0)) := by
  cases a with
  | none => simp at hb
  | some ad =>
    simp only [Option.map_some, Option.some.injEq] at hb
    rcases h.2 with ⟨h', _⟩ | ⟨g', cap', cur, h', _, hg, _⟩
    · cases h'
    · cases h'; subst hb; exact ⟨cur, hg⟩

theorem own_upd {w w' : World} {e size : Nat} {a : Option Addr} {n c : Nat} {xs : List Value} (h : w.ownsRow 0 e size (.slice a n c) n xs) (hU : Upd (fun _ => False) w w') : w'.ownsRow 0 e size (.slice a n c) n xs := by
  obtain ⟨l1, l2⟩ := h
  refine ⟨l1, l2.imp id ?_⟩
  rintro ⟨g', cap', cur, e1, h3, h4, h5⟩
  exact ⟨g', cap', cur, e1, h3, hU.keep h4 (fun h => h), h5⟩

theorem Parts.pa_ne_B {w : World} {F : Nat → Prop} {B m1 m2 : Nat} {ca : Option Addr} {cc : Nat} {pa : Option Addr} {pc : Nat} {k1 k2 : List (ByteArray × Value)} {xs : List Value} {st : St} (h : Parts w F B m1 m2 ca cc pa pc k1 k2 xs st) : pa.map (·.block) ≠ some B := by
  intro e
  obtain ⟨arr, ha⟩ := own_ty h.pown B e
  rw [h.blk] at ha; cases ha

def IsStore (w : World) (F : Nat → Prop) (B : Nat) (st : St) : Prop :=
  ∃ m1 m2 ca cc pa pc k1 k2 xs, Parts w F B m1 m2 ca cc pa pc k1 k2 xs st

theorem ChRel.kept {w w' : World} {F F' : Nat → Prop} {xs : List Value} {cs : List Ch} (h : ChRel w F xs cs) (hF : ∀ g, g < w.heap.size → F g → F' g)
    (hk : ∀ g, g < w.heap.size → F g → (∃ arr t f, tB t ∧ w.heap[g]? = some (.cells arr t f)) → w'.heap[g]? = w.heap[g]?) : ChRel w' F' xs cs := by
  induction cs generalizing xs with
  | nil => cases xs <;> simp_all [ChRel]
  | cons c cs ih =>
    match xs, h with
    | k :: v :: i :: r, h =>
      exact ⟨h.1, IsRow.kept h.2.1 hF hk, h.2.2.1, ih h.2.2.2⟩
theorem ChRel.snoc {w : World} {F : Nat → Prop} {xs : List Value} {cs : List Ch} (h : ChRel w F xs cs) (c : Ch) (v : Value) (hv : IsB w F tB v c.b) : ChRel w F (xs ++ [.string c.name, v, .bool c.is]) (cs ++ [c]) := by
  induction cs generalizing xs with
  | nil =>
    cases xs with
    | nil => exact ⟨rfl, hv, rfl, trivial⟩
    | cons _ _ => simp [ChRel] at h
  | cons c' cs ih =>
    match xs, h with
    | k :: v :: i :: r, h =>
      exact ⟨h.1, h.2.1, h.2.2.1, ih h.2.2.2⟩
theorem IsBB.kept {w w' : World} {F F' : Nat → Prop} {v : Value} {l : List (List UInt8)} (h : IsBB w F v l) (hF : ∀ g, g < w.heap.size → F g → F' g)
    (hk : ∀ g, g < w.heap.size → F g → (∃ arr t f, (tB t ∨ tBB t) ∧ w.heap[g]? = some (.cells arr t f)) → w'.heap[g]? = w.heap[g]?) : IsBB w' F' v l := by
  obtain ⟨vs, h1, h2⟩ := h
  exact ⟨vs, h1.kept hF (fun g hg hf ⟨arr, t, f, ht, hb⟩ => hk g hg hf ⟨arr, t, f, .inr ht, hb⟩), h2.mono (fun a b hab => IsRow.kept hab hF (fun g hg hf ⟨arr, t, f, ht, hb⟩ => hk g hg hf ⟨arr, t, f, .inl ht, hb⟩))⟩

/-- What a store is stays, where its blocks stay. -/
theorem Parts.kept {w w' : World} {F F' : Nat → Prop} {B m1 m2 : Nat} {ca : Option Addr} {cc : Nat} {pa : Option Addr} {pc : Nat} {k1 k2 : List (ByteArray × Value)} {xs : List Value} {st : St}
    (h : Parts w F B m1 m2 ca cc pa pc k1 k2 xs st) (hF : ∀ g, g < w.heap.size → F g → F' g) (hk : ∀ g, g < w.heap.size → F g → w'.heap[g]? = w.heap[g]?) : Parts w' F' B m1 m2 ca cc pa pc k1 k2 xs st := by
  have hl : ∀ {v : Value} {a : Option Addr} {n c e size : Nat} {xs : List Value}, v = .slice a n c → w.ownsRow 0 e size v n xs → (∀ g, a.map (·.block) = some g → F g) → w'.ownsRow 0 e size v n xs ∧ (∀ g, a.map (·.block) = some g → F' g) := by
    intro v a n c e size xs hv ho hf
    refine ⟨?_, fun g hg => hF g ?_ (hf g hg)⟩
    · obtain ⟨h1, h2⟩ := ho
      refine ⟨h1, h2.imp id ?_⟩
      rintro ⟨g, cap, cur, e1, h3, h4, h5⟩
      rw [e1] at hv
      cases hv
      exact ⟨g, _, cur, e1, h3, (hk g (lt_of_blk h4) (hf g rfl)).trans h4, h5⟩
    · subst hv
      cases a with
      | none => simp at hg
      | some ad => simp at hg; subst hg; exact (ho.lt ad.block rfl).2
  refine ⟨hF B (lt_of_blk h.blk) h.fB, hF m1 h.map1.lt h.f1, hF m2 h.map2.lt h.f2, h.ne, (hk B (lt_of_blk h.blk) h.fB).trans h.blk, h.map1.kept (hk m1 h.map1.lt h.f1), h.map2.kept (hk m2 h.map2.lt h.f2), ?_, ?_, (hl rfl h.own h.fc).1, (hl rfl h.own h.fc).2, ?_, (hl rfl h.pown h.fp).1, (hl rfl h.pown h.fp).2⟩
  · exact Rel2.mono h.rel1 (fun a b hab => ⟨hab.1, IsRow.kept hab.2 hF (fun g hg hf _ => hk g hg hf)⟩)
  · exact Rel2.mono h.rel2 (fun a b hab => ⟨hab.1, hab.2.kept hF (fun g hg hf _ => hk g hg hf)⟩)
  · exact h.rel.kept hF (fun g hg hf _ => hk g hg hf)

theorem IsStore.kept {w w' : World} {F F' : Nat → Prop} {B : Nat} {st : St} (h : IsStore w F B st) (hF : ∀ g, g < w.heap.size → F g → F' g) (hk : ∀ g, g < w.heap.size → F g → w'.heap[g]? = w.heap[g]?) : IsStore w' F' B st := by
  obtain ⟨m1, m2, ca, cc, pa, pc, k1, k2, xs, h⟩ := h
  exact ⟨m1, m2, ca, cc, pa, pc, k1, k2, xs, h.kept hF hk⟩

/-- The blocks of F, and all that were laid since. -/
def Plus (F : Nat → Prop) (w w' : World) (b : Nat) : Prop := F b ∨ (w.heap.size ≤ b ∧ b < w'.heap.size)

/-- Blocks of bytes, and of slices of bytes, stay. -/
def KeepB (w w' : World) : Prop := ∀ b, b < w.heap.size → (∃ arr t f, (tB t ∨ tBB t) ∧ w.heap[b]? = some (.cells arr t f)) → w'.heap[b]? = w.heap[b]?
theorem KeepB.refl (w : World) : KeepB w w := fun _ _ _ => rfl
theorem KeepB.trans {a b c : World} (h : KeepB a b) (k : KeepB b c) (hs : a.heap.size ≤ b.heap.size) : KeepB a c := by
  intro i hi ⟨arr, t, f, ht, hb⟩
  rw [k i (by omega) ⟨arr, t, f, ht, (h i hi ⟨arr, t, f, ht, hb⟩).trans hb⟩, h i hi ⟨arr, t, f, ht, hb⟩]
theorem KeepB.ofUpd {w w' : World} (h : Upd (fun _ => False) w w') : KeepB w w' := fun b hb _ => h.block b hb (fun h => h)
theorem KeepB.isB {w w' : World} (h : KeepB w w') {F F' : Nat → Prop} {v : Value} {b : List UInt8} (hb : IsB w F tB v b) (hF : ∀ g, g < w.heap.size → F g → F' g) : IsB w' F' tB v b :=
  IsRow.kept hb hF (fun g hg _ ⟨arr, t, f, ht, hbk⟩ => h g hg ⟨arr, t, f, .inl ht, hbk⟩)

theorem info_ch : (Try.prog.info? 66).map (fun i => (i.zero, i.size, i.bytes)) = some (some (.agg #[.string ⟨#[]⟩, .slice none 0 0, .bool false]), 3, 48) := by kernel_rfl
theorem zero_b (w : World) : (zeroValue 31).run Try.prog w = .ok (.slice none 0 0) w := by kernel_rfl

theorem new_any (w : World) : Calls Try.prog 4 #[] w fun e w' => ∃ B, e = .returned (.pointer (some ⟨B, 0, none⟩)) ∧ IsStore w' (Plus (fun _ => False) w w') B St.new ∧ Upd (fun _ => False) w w' ∧ w.heap.size ≤ B := by
  have hmm := @run_makeMap Try.prog
  go_enter Try.func4, Try.ntmps4
  go_wp2
  go_ret
  refine ⟨_, rfl, ⟨w.heap.size, w.heap.size + 1, none, 0, none, 0, [], [], [], ?_⟩, (((Upd.refl _ w).alloc _).alloc _).alloc _, by omega⟩
  have h1 : ((w.alloc (.map #[] 0)).alloc (.map #[] 0)).heap[w.heap.size]? = some (.map #[] 0) := alloc_keep (heap_alloc_new w _) _
  have h2 : ((w.alloc (.map #[] 0)).alloc (.map #[] 0)).heap[w.heap.size + 1]? = some (.map #[] 0) := by simpa using heap_alloc_new (w.alloc (.map #[] 0)) (.map #[] 0)
  refine ⟨.inr ⟨by omega, by simp⟩, .inr ⟨by omega, by simp; omega⟩, .inr ⟨by omega, by simp⟩, by omega, by simpa [St.new] using heap_alloc_new ((w.alloc (.map #[] 0)).alloc (.map #[] 0)) _, IsMap.new (alloc_keep h1 _), IsMap.new (alloc_keep h2 _), trivial, trivial, World.ownsRow_nil _ _ _ _, fun g hg => by simp at hg, trivial, World.ownsRow_nil _ _ _ _, fun g hg => by simp at hg⟩
end Go.Proofs.Ytajmaebofhkjjaa
