import Derived.Test.YtajmaebofhkjjaaSt
import Derived.WalkLawsBesides
import Derived.Deep.RegionHeld3
import Derived.Deep.DrawnRows
import Derived.Deep.DeepCutAuto
namespace Go.Proofs.Ytajmaebofhkjjaa
open Go.RowKit Go.Proofs.Dm Go.MapKept
attribute [local go_sem ↓] Go.wp_at_zero Go.wp_at_succ

/-- A name of the reference's store. -/
structure RC where
  name : ByteArray
  shows : Bool
  b : List UInt8
  all : List (List UInt8)
structure RSt where
  L : List RC
  old : List (List RC)

def tC (t : TypeId) : Prop := t = 59
def CRel (w : World) (F : Nat → Prop) : List Value → List RC → Prop
  | [], [] => True
  | n :: s :: b :: a :: r, c :: cs => n = .string c.name ∧ s = .bool c.shows ∧ IsB w F tB b c.b ∧ IsBB w F a c.all ∧ CRel w F r cs
  | _, _ => False
def IsCs (w : World) (F : Nat → Prop) (v : Value) (l : List RC) : Prop := ∃ cs, IsRow w F tC v l.length cs ∧ CRel w F cs l

structure RParts (w : World) (F : Nat → Prop) (R : Nat) (la : Option Addr) (lc : Nat) (oa : Option Addr) (oc : Nat) (ovs : List Value) (st : RSt) : Prop where
  fR : F R
  blk : w.heap[R]? = some (.cells #[.slice la st.L.length lc, .slice oa st.old.length oc] 29 (0, 0))
  row : IsCs w F (.slice la st.L.length lc) st.L
  own : w.ownsRow 0 26 1 (.slice oa st.old.length oc) st.old.length ovs
  fo : ∀ g, oa.map (·.block) = some g → F g
  rel : Rel2 (IsCs w F) ovs st.old

def IsRef (w : World) (F : Nat → Prop) (R : Nat) (st : RSt) : Prop := ∃ la lc oa oc ovs, RParts w F R la lc oa oc ovs st

theorem CRel.length {w : World} {F : Nat → Prop} {xs : List Value} {cs : List RC} (h : CRel w F xs cs) : xs.length = cs.length * 4 := by
  induction cs generalizing xs with
  | nil => cases xs <;> simp_all [CRel]
  | cons c cs ih =>
    match xs, h with
    | n :: s :: b :: a :: r, h => have := ih h.2.2.2.2; simp; omega
theorem CRel.get {w : World} {F : Nat → Prop} {xs : List Value} {cs : List RC} (h : CRel w F xs cs) (k : Nat) (hk : k < cs.length) :
    xs[k * 4]? = some (.string cs[k].name) ∧ xs[k * 4 + 1]? = some (.bool cs[k].shows) ∧ ∃ b a, xs[k * 4 + 2]? = some b ∧ IsB w F tB b cs[k].b ∧ xs[k * 4 + 3]? = some a ∧ IsBB w F a cs[k].all := by
  induction cs generalizing xs k with
  | nil => simp at hk
  | cons c cs ih =>
    match xs, h with
    | n :: s :: b :: a :: r, h =>
      cases k with
      | zero => obtain ⟨rfl, rfl, h3, h4, h5⟩ := h; exact ⟨rfl, rfl, b, a, rfl, h3, rfl, h4⟩
      | succ k =>
        have := ih h.2.2.2.2 k (by simpa using hk)
        have e3 : (k + 1) * 4 + 3 = k * 4 + 3 + 1 + 1 + 1 + 1 := by omega
        have e2 : (k + 1) * 4 + 2 = k * 4 + 2 + 1 + 1 + 1 + 1 := by omega
        have e1 : (k + 1) * 4 + 1 = k * 4 + 1 + 1 + 1 + 1 + 1 := by omega
        have e0 : (k + 1) * 4 = k * 4 + 1 + 1 + 1 + 1 := by omega
        rw [e3, e2, e1, e0]
        simp only [List.getElem?_cons_succ, List.getElem_cons_succ]
        exact this
theorem CRel.kept {w w' : World} {F F' : Nat → Prop} {xs : List Value} {cs : List RC} (h : CRel w F xs cs) (hF : ∀ g, g < w.heap.size → F g → F' g)
    (hk : ∀ g, g < w.heap.size → F g → (∃ arr t f, (tB t ∨ tBB t) ∧ w.heap[g]? = some (.cells arr t f)) → w'.heap[g]? = w.heap[g]?) : CRel w' F' xs cs := by
  induction cs generalizing xs with
  | nil => cases xs <;> simp_all [CRel]
  | cons c cs ih =>
    match xs, h with
    | n :: s :: b :: a :: r, h =>
      exact ⟨h.1, h.2.1, IsRow.kept h.2.2.1 hF (fun g hg hf ⟨arr, t, f, ht, hb⟩ => hk g hg hf ⟨arr, t, f, .inl ht, hb⟩), h.2.2.2.1.kept hF hk, ih h.2.2.2.2⟩
theorem CRel.append {w : World} {F : Nat → Prop} {xs ys : List Value} {cs ds : List RC} (h : CRel w F xs cs) (h' : CRel w F ys ds) : CRel w F (xs ++ ys) (cs ++ ds) := by
  induction cs generalizing xs with
  | nil => cases xs with
    | nil => exact h'
    | cons _ _ => simp [CRel] at h
  | cons c cs ih =>
    match xs, h with
    | n :: s :: b :: a :: r, h => exact ⟨h.1, h.2.1, h.2.2.1, h.2.2.2.1, ih h.2.2.2.2⟩
theorem CRel.one {w : World} {F : Nat → Prop} {xs : List Value} {cs : List RC} (h : CRel w F xs cs) : ∀ u ∈ xs, u.oneCell' = true := by
  induction cs generalizing xs with
  | nil => cases xs <;> simp_all [CRel]
  | cons c cs ih =>
    match xs, h with
    | n :: s :: b :: a :: r, h =>
      obtain ⟨rfl, rfl, ⟨_, _, rfl, _⟩, ⟨_, ⟨_, _, rfl, _⟩, _⟩, h4⟩ := h
      intro u hu
      simp only [List.mem_cons] at hu
      rcases hu with rfl | rfl | rfl | rfl | hu
      · rfl
      · rfl
      · rfl
      · rfl
      · exact ih h4 u hu
theorem IsCs.kept {w w' : World} {F F' : Nat → Prop} {v : Value} {l : List RC} (h : IsCs w F v l) (hF : ∀ g, g < w.heap.size → F g → F' g)
    (hk : ∀ g, g < w.heap.size → F g → (∃ arr t f, (tB t ∨ tBB t ∨ tC t) ∧ w.heap[g]? = some (.cells arr t f)) → w'.heap[g]? = w.heap[g]?) : IsCs w' F' v l := by
  obtain ⟨cs, h1, h2⟩ := h
  exact ⟨cs, h1.kept hF (fun g hg hf ⟨arr, t, f, ht, hb⟩ => hk g hg hf ⟨arr, t, f, .inr (.inr ht), hb⟩), h2.kept hF (fun g hg hf ⟨arr, t, f, ht, hb⟩ => hk g hg hf ⟨arr, t, f, ht.elim .inl (fun h => .inr (.inl h)), hb⟩)⟩

/-- Name by name: is a's ahead of b's? -/
def nl (a b : ByteArray) : Bool := Op.bytesLess a.toList b.toList
def ratK (L : List RC) (name : ByteArray) : Nat := (L.takeWhile fun c => nl c.name name).length
def ratF (L : List RC) (name : ByteArray) : Bool := match L[ratK L name]? with | some c => c.name.toList == name.toList | none => false

theorem ratK_le (L : List RC) (name : ByteArray) : ratK L name ≤ L.length := by unfold ratK; exact (List.takeWhile_prefix _).length_le
theorem ratK_lt (L : List RC) (name : ByteArray) (k : Nat) (h : k < ratK L name) (h' : k < L.length) : nl L[k].name name = true := by
  unfold ratK at h
  induction L generalizing k with
  | nil => simp at h'
  | cons c L ih =>
    rw [List.takeWhile_cons] at h
    split at h
    · rename_i hc
      cases k with
      | zero => exact hc
      | succ k => exact ih k (by simpa using h) (by simpa using h')
    · simp at h
theorem ratK_at (L : List RC) (name : ByteArray) (h : ratK L name < L.length) : nl L[ratK L name].name name = false := by
  unfold ratK at *
  induction L with
  | nil => simp at h
  | cons c L ih =>
    by_cases hc : nl c.name name = true
    · have e : (List.takeWhile (fun c => nl c.name name) (c :: L)).length = (List.takeWhile (fun c => nl c.name name) L).length + 1 := by simp [hc]
      simp only [e] at h ⊢
      simpa using ih (by simpa using h)
    · have e : (List.takeWhile (fun c => nl c.name name) (c :: L)).length = 0 := by simp [hc]
      simp only [e] at h ⊢
      simpa using hc

/-- The cells of a name, where they lie. -/
theorem RParts.cells {w : World} {F : Nat → Prop} {R : Nat} {la : Option Addr} {lc : Nat} {oa : Option Addr} {oc : Nat} {ovs : List Value} {st : RSt} (h : RParts w F R la lc oa oc ovs st) (hpos : 0 < st.L.length) :
    ∃ g o arr f, la = some ⟨g, o, none⟩ ∧ F g ∧ w.heap[g]? = some (.cells arr 59 f) ∧ ∀ k (hk : k < st.L.length), arr[o + k * 4]? = some (.string st.L[k].name) ∧ arr[o + k * 4 + 1]? = some (.bool st.L[k].shows) ∧
      ∃ ba bc aa ac, arr[o + k * 4 + 2]? = some (.slice ba st.L[k].b.length bc) ∧ IsB w F tB (.slice ba st.L[k].b.length bc) st.L[k].b ∧ arr[o + k * 4 + 3]? = some (.slice aa st.L[k].all.length ac) ∧ IsBB w F (.slice aa st.L[k].all.length ac) st.L[k].all := by
  obtain ⟨cs, ⟨_, _, he, _, _, hro⟩, hrel⟩ := h.row
  cases he
  have hl := hrel.length
  obtain ⟨g, o, arr, t, f, e1, hg, rfl, hb, hc⟩ := hro (by rintro rfl; simp at hl; omega)
  refine ⟨g, o, arr, f, e1, hg, hb, fun k hk => ?_⟩
  obtain ⟨h1, h2, b, a, h3, h4, h5, h6⟩ := hrel.get k hk
  obtain ⟨ba, bc, rfl, h4'⟩ := h4
  obtain ⟨vs, ⟨aa, ac, rfl, h6'⟩, h6''⟩ := h6
  exact ⟨hc _ _ h1, by simpa [Nat.add_assoc] using hc _ _ h2, ba, bc, aa, ac, by simpa [Nat.add_assoc] using hc _ _ h3, ⟨ba, bc, rfl, h4'⟩, by simpa [Nat.add_assoc] using hc _ _ h5, vs, ⟨aa, ac, rfl, h6'⟩, h6''⟩
end Go.Proofs.Ytajmaebofhkjjaa
