import Derived.Test.YtajmaebofhkjjaaBack
import Derived.Test.YtajmaebofhkjjaaKeys
import Derived.Test.YtajmaebofhkjjaaSet
import Derived.Test.YtajmaebofhkjjaaRep
import Derived.Maps.OwnIn
import Derived.Deep.RegionHeld3
import Derived.ControlIn
import Derived.Test.YtajmaebofhkjjaaRput
namespace Go.Proofs.Ytajmaebofhkjjaa
open Go.RowKit Go.Proofs.Dm Go.MapKept Go.Shelf
attribute [local go_sem] Oper.semAt_some

def chvVal (x : ChV) : Value := .agg #[.string x.name, .slice x.a x.n x.c, .bool x.is]
def wasV (pre : List (Nat × ChV)) : List (ByteArray × Value) := pre.foldl (fun k x => kvSet k x.2.name (chvVal x.2)) []
theorem wasV_snoc (pre : List (Nat × ChV)) (x : Nat × ChV) : wasV (pre ++ [x]) = kvSet (wasV pre) x.2.name (chvVal x.2) := by simp [wasV]

theorem own_blk {w : World} {e size : Nat} {g n c : Nat} {xs : List Value} (h : w.ownsRow 0 e size (.slice (some ⟨g, 0, none⟩) n c) n xs) : ∃ cur : Array Value, w.heap[g]? = some (.cells cur e (0, 0)) ∧ ∀ (i : Nat) (v : Value), xs[i]? = some v → cur[i]? = some v := by
  obtain ⟨l1, l2⟩ := h
  rcases l2 with ⟨h, _⟩ | ⟨g', cap', cur, e1, h3, h4, h5, h6, h7, h8⟩
  · cases h
  · cases e1
    refine ⟨cur, h4, fun i v hv => ?_⟩
    rw [← h8, List.getElem?_take] at hv
    split at hv
    · simpa using hv
    · cases hv

theorem wpListIn_update_str {F : Fence} {nF : Nat} {P : Program} (w : World) {ops : Array Oper} {rest : List Oper} {o : Oper} {a : Act} {Q : Exit → Act → World → Prop} {T K E : TypeId} (hg : o.guard = none) (m x v : Operand) (hop : o.op = Op.mapUpdate T m x v)
    (hT : P.underlying T = some (.map K E)) (hK : P.underlying K = some .string) (b : Nat) (kvs : List (ByteArray × Value)) (hm : a.eval m = .map (some b)) (h : IsMap w b kvs)
    (key : ByteArray) (val : Value) (hx : a.eval x = .string key) (hv : a.eval v = val)
    (hK' : ∀ w', IsMap w' b (kvSet kvs key val) → w.grownBy w' (some b) → wpListIn F nF P ops Q rest (a.put o.dst undef) w') :
    wpListIn F nF P ops Q (o :: rest) a w := by
  refine wpListIn_plain hg fun K' hK'' => ?_
  obtain ⟨w', hrun, hm', hU⟩ := update_str' hT hK h key val
  unfold Oper.wpIn
  refine ⟨by simp [Oper.about, hop], ?_⟩
  rw [Oper.semAt_plain F _ _ (by rw [hop]; intro c hc'; cases hc')]
  simp [execOp, hop, hm, hx, hv, hrun, Result.andThen]
  exact hK'' _ _ (hK' _ hm' ⟨hU.os, hU.tape, hU.output, hU.size, fun k hk hn => hU.block k hk (fun e => hn (by rw [e]))⟩)

theorem name_all {c : Code} {F : Fence} {n : Nat} {P : Program} {Q : Exit → Act → World → Prop} {w : World} {tm : Array Value} {ds : List Deferred} (h : ∀ T W, T = tm → W = w → c.wpIn F n P Q { tmps := T, defers := ds } W) : c.wpIn F n P Q { tmps := tm, defers := ds } w := h tm w rfl rfl

theorem i64_id {x : Int} (h0 : 0 ≤ x) (h1 : x < 9223372036854775808) : IntKind.i64.wrap x = x := by
  obtain ⟨n, rfl⟩ := Int.eq_ofNat_of_zero_le h0
  simp [IntKind.wrap, IntKind.bits, IntKind.signed]; omega

theorem back_call (a : Option Addr) (len cap : Nat) (w : World) :
    Calls Try.prog 31 #[.slice a len cap] w fun e w' => e = .returned (.func (.func 51) #[] #[.pointer (some ⟨w.heap.size, 0, none⟩)]) ∧ w' = w.alloc (.cells #[.slice a len cap] 46) :=
  (callsIn_wide (n := 1)).1 (back_in Fence.wide 1 trivial rfl a len cap w)

theorem ChRel.get {w : World} {F : Nat → Prop} {xs : List Value} {cs : List Ch} (h : ChRel w F xs cs) (i : Nat) (c : Ch) (hc : cs[i]? = some c) : xs[i * 3]? = some (.string c.name) ∧ (∃ a cap, xs[i * 3 + 1]? = some (.slice a c.b.length cap) ∧ IsB w F tB (.slice a c.b.length cap) c.b) ∧ xs[i * 3 + 2]? = some (.bool c.is) := by
  induction cs generalizing xs i with
  | nil => simp at hc
  | cons d cs ih =>
    match xs, h with
    | n :: v :: b :: r, h =>
      cases i with
      | zero =>
        simp at hc; subst hc
        obtain ⟨a, cap, rfl, hv⟩ := h.2.1
        exact ⟨by rw [h.1]; rfl, ⟨a, cap, rfl, a, cap, rfl, hv⟩, by rw [h.2.2.1]; rfl⟩
      | succ i =>
        have e2 : (i + 1) * 3 + 2 = i * 3 + 2 + 1 + 1 + 1 := by omega
        have e1 : (i + 1) * 3 + 1 = i * 3 + 1 + 1 + 1 + 1 := by omega
        have e0 : (i + 1) * 3 = i * 3 + 1 + 1 + 1 := by omega
        rw [e2, e1, e0]
        simp only [List.getElem?_cons_succ]
        exact ih h.2.2.2 i (by simpa using hc)

def ChvRel (w : World) (F : Nat → Prop) (x : ChV) (c : Ch) : Prop := x.name = c.name ∧ x.is = c.is ∧ IsB w F tB (.slice x.a x.n x.c) c.b

theorem Parts.chvs {w : World} {F : Nat → Prop} {B m1 m2 : Nat} {ca : Nat} {cc : Nat} {pa : Option Addr} {pc : Nat} {k1 k2 : List (ByteArray × Value)} {xs : List Value} {st : St} (h : Parts w F B m1 m2 (some ⟨ca, 0, none⟩) cc pa pc k1 k2 xs st) (p : Nat) :
    ∃ L : List ChV, L.length = st.chs.length - p ∧ (∀ i x, L[i]? = some x → w.cell? ⟨ca, p * 3 + i * 3, none⟩ = some (.string x.name) ∧ w.cell? ⟨ca, p * 3 + i * 3 + 1, none⟩ = some (.slice x.a x.n x.c) ∧ w.cell? ⟨ca, p * 3 + i * 3 + 2, none⟩ = some (.bool x.is)) ∧ Rel2 (ChvRel w F) L (st.chs.drop p) := by
  obtain ⟨cur, hb, hcu⟩ := own_blk h.own
  have hex : ∀ i : Nat, ∀ c : Ch, (st.chs.drop p)[i]? = some c → ∃ x : ChV, w.cell? ⟨ca, p * 3 + i * 3, none⟩ = some (.string x.name) ∧ w.cell? ⟨ca, p * 3 + i * 3 + 1, none⟩ = some (.slice x.a x.n x.c) ∧ w.cell? ⟨ca, p * 3 + i * 3 + 2, none⟩ = some (.bool x.is) ∧ ChvRel w F x c := by
    intro i c hc
    rw [List.getElem?_drop] at hc
    obtain ⟨h1, ⟨a, cap, h2, h3⟩, h4⟩ := h.rel.get (p + i) c hc
    refine ⟨⟨c.name, a, c.b.length, cap, c.is⟩, ?_, ?_, ?_, rfl, rfl, h3⟩
    · exact cell_blk hb _ _ (by rw [show p * 3 + i * 3 = (p + i) * 3 by omega]; exact hcu _ _ h1)
    · exact cell_blk hb _ _ (by rw [show p * 3 + i * 3 + 1 = (p + i) * 3 + 1 by omega]; exact hcu _ _ h2)
    · exact cell_blk hb _ _ (by rw [show p * 3 + i * 3 + 2 = (p + i) * 3 + 2 by omega]; exact hcu _ _ h4)
  have : ∀ (l : List Ch) (k : Nat), (∀ i c, l[i]? = some c → (st.chs.drop p)[k + i]? = some c) → ∃ L : List ChV, L.length = l.length ∧ (∀ i x, L[i]? = some x → w.cell? ⟨ca, p * 3 + (k + i) * 3, none⟩ = some (.string x.name) ∧ w.cell? ⟨ca, p * 3 + (k + i) * 3 + 1, none⟩ = some (.slice x.a x.n x.c) ∧ w.cell? ⟨ca, p * 3 + (k + i) * 3 + 2, none⟩ = some (.bool x.is)) ∧ Rel2 (ChvRel w F) L l := by
    intro l
    induction l with
    | nil => intro k _; exact ⟨[], rfl, fun i x hx => by simp at hx, trivial⟩
    | cons c l ih =>
      intro k hk
      obtain ⟨x, q1, q2, q3, q4⟩ := hex (k + 0) c (hk 0 c rfl)
      obtain ⟨L, g1, g2, g3⟩ := ih (k + 1) (fun i d hd => by rw [show k + 1 + i = k + (i + 1) by omega]; exact hk (i + 1) d (by simpa using hd))
      refine ⟨x :: L, by simp [g1], fun i y hy => ?_, q4, g3⟩
      cases i with
      | zero => simp at hy; subst hy; exact ⟨q1, q2, q3⟩
      | succ i =>
        rw [show k + (i + 1) = k + 1 + i by omega]
        exact g2 i y (by simpa using hy)
  obtain ⟨L, g1, g2, g3⟩ := this (st.chs.drop p) 0 (fun i c hc => by simpa using hc)
  exact ⟨L, by simpa using g1, fun i x hx => by simpa using g2 i x hx, g3⟩

def VRel (w : World) (F : Nat → Prop) (v : Value) (c : Ch) : Prop := ∃ nm a n cc, v = .agg #[.string nm, .slice a n cc, .bool c.is] ∧ IsB w F tB (.slice a n cc) c.b
/-- What each name showed ahead of the changes. -/
def wasS (chs : List Ch) : List (ByteArray × Ch) := chs.reverse.foldl (fun k c => kvSet k c.name c) []

theorem rel2_reverse {α β : Type} {R : α → β → Prop} {l : List α} {r : List β} (h : Rel2 R l r) : Rel2 R l.reverse r.reverse := by
  induction l generalizing r with
  | nil => cases r with
    | nil => trivial
    | cons _ _ => simp [Rel2] at h
  | cons a l ih => cases r with
    | nil => simp [Rel2] at h
    | cons b r =>
      rw [List.reverse_cons, List.reverse_cons]
      exact Rel2.append (ih h.2) ⟨h.1, trivial⟩

theorem back_all (L : List ChV) : (back L L.length).map (·.2) = L.reverse := by
  apply List.ext_getElem?
  intro i
  rw [List.getElem?_map]
  unfold back
  rw [List.getElem?_map]
  by_cases h : i < L.length
  · rw [List.getElem?_range h, List.getElem?_reverse h]
    simp
    rw [List.getElem?_eq_getElem (by omega)]; simp
  · rw [List.getElem?_eq_none (by simp; omega), List.getElem?_eq_none (by simp; omega)]; rfl

theorem was_rel {w : World} {F : Nat → Prop} {L : List ChV} {chs : List Ch} (h : Rel2 (ChvRel w F) L chs) : KRel (VRel w F) (wasV (back L L.length)) (wasS chs) := by
  have e : wasV (back L L.length) = L.reverse.foldl (fun k x => kvSet k x.name (chvVal x)) [] := by
    rw [← back_all]; unfold wasV; rw [List.foldl_map]
  rw [e]
  unfold wasS
  have : ∀ (l : List ChV) (r : List Ch) (k1 : List (ByteArray × Value)) (k2 : List (ByteArray × Ch)), Rel2 (ChvRel w F) l r → KRel (VRel w F) k1 k2 → KRel (VRel w F) (l.foldl (fun k x => kvSet k x.name (chvVal x)) k1) (r.foldl (fun k c => kvSet k c.name c) k2) := by
    intro l
    induction l with
    | nil => intro r k1 k2 h hk; cases r with
      | nil => exact hk
      | cons _ _ => simp [Rel2] at h
    | cons x l ih => intro r k1 k2 h hk; cases r with
      | nil => simp [Rel2] at h
      | cons c r =>
        simp only [List.foldl_cons]
        refine ih r _ _ h.2 ?_
        rw [h.1.1]
        exact hk.set c.name _ _ ⟨x.name, x.a, x.n, x.c, by rw [← h.1.2.1]; rfl, h.1.2.2⟩
  exact this _ _ [] [] (rel2_reverse h) trivial

theorem kvSet_len {α : Type} (k : List (ByteArray × α)) (x : ByteArray) (v : α) : (kvSet k x v).length ≤ k.length + 1 := by
  induction k with
  | nil => simp [kvSet]
  | cons p k ih => obtain ⟨a, b⟩ := p; simp only [kvSet]; split <;> simp <;> omega
theorem wasS_len (chs : List Ch) : (wasS chs).length ≤ chs.length := by
  unfold wasS
  have : ∀ (l : List Ch) (k : List (ByteArray × Ch)), (l.foldl (fun k c => kvSet k c.name c) k).length ≤ k.length + l.length := by
    intro l
    induction l with
    | nil => intro k; simp
    | cons c l ih => intro k; have := ih (kvSet k c.name c); have := kvSet_len k c.name c; simp only [List.foldl_cons, List.length_cons]; omega
  have := this chs.reverse []
  simpa using this

theorem wasS_pos {chs : List Ch} (h : chs ≠ []) : 0 < (wasS chs).length := by
  cases chs with
  | nil => exact absurd rfl h
  | cons c t =>
    unfold wasS
    rw [List.reverse_cons, List.foldl_append]
    simp only [List.foldl_cons, List.foldl_nil]
    generalize t.reverse.foldl (fun k c => kvSet k c.name c) [] = k
    cases k with
    | nil => simp [kvSet]
    | cons p k => obtain ⟨a, b⟩ := p; simp only [kvSet]; split <;> simp
def rollSet (was : List (ByteArray × Ch)) (st : St) (name : ByteArray) : St := match kvGet was name with | some c => st.set name (if c.is then some c.b else none) | none => st
theorem rollSet_len (was : List (ByteArray × Ch)) (l : List ByteArray) (st : St) : (l.foldl (rollSet was) st).chs.length ≤ st.chs.length + l.length := by
  induction l generalizing st with
  | nil => simp
  | cons x l ih =>
    have := ih (rollSet was st x)
    have h2 : (rollSet was st x).chs.length ≤ st.chs.length + 1 := by
      unfold rollSet; split
      · simp [St.set]
      · omega
    simp only [List.foldl_cons, List.length_cons]; omega
theorem kvGet_mem {α : Type} {k : List (ByteArray × α)} {x : ByteArray} (h : ∃ p ∈ k, p.1 = x) : ∃ v, kvGet k x = some v := by
  induction k with
  | nil => obtain ⟨p, hp, _⟩ := h; cases hp
  | cons q k ih =>
    obtain ⟨a, b⟩ := q
    simp only [kvGet]
    split
    · exact ⟨_, rfl⟩
    · rename_i hne
      obtain ⟨p, hp, e⟩ := h
      rcases List.mem_cons.1 hp with rfl | hp
      · exact absurd e hne
      · exact ih ⟨p, hp, e⟩
theorem sorted_mem {α : Type} {k : List (ByteArray × α)} {x : ByteArray} (h : x ∈ sortedNames k) : ∃ v, kvGet k x = some v := by
  unfold sortedNames at h
  obtain ⟨l, hl, rfl⟩ := List.mem_map.1 h
  rw [List.mem_mergeSort] at hl
  obtain ⟨p, hp, rfl⟩ := List.mem_map.1 hl
  exact kvGet_mem ⟨p, hp, by simp⟩
theorem krel_get {α β : Type} {R : α → β → Prop} {l : List (ByteArray × α)} {r : List (ByteArray × β)} (h : KRel R l r) {x : ByteArray} {v : α} (hv : kvGet l x = some v) : ∃ c, kvGet r x = some c ∧ R v c := by
  cases hr : kvGet r x with
  | none => rw [h.get_none x hr] at hv; cases hv
  | some c =>
    obtain ⟨a, ha, hR⟩ := h.get_some x c hr
    rw [hv] at ha; cases ha
    exact ⟨c, rfl, hR⟩
theorem zero_ch (w : World) : (zeroValue 66).run Try.prog w = .ok (.agg #[.string ⟨#[]⟩, .slice none 0 0, .bool false]) w := by kernel_rfl

theorem fld1 (nm : ByteArray) (va : Option Addr) (vn vc : Nat) (is : Bool) : ∀ w : World, (Instr.field 66 (.agg #[.string nm, .slice va vn vc, .bool is]) 1).run Try.prog w = .ok (.slice va vn vc) w := fun _ => by kernel_rfl
theorem fld2 (nm : ByteArray) (va : Option Addr) (vn vc : Nat) (is : Bool) : ∀ w : World, (Instr.field 66 (.agg #[.string nm, .slice va vn vc, .bool is]) 2).run Try.prog w = .ok (.bool is) w := fun _ => by kernel_rfl

def rollSt (st : St) (p : Nat) : St := (sortedNames (wasS (st.chs.drop p))).foldl (rollSet (wasS (st.chs.drop p))) st

theorem krel_keys {α β : Type} {R : α → β → Prop} {l : List (ByteArray × α)} {r : List (ByteArray × β)} (h : KRel R l r) : keyList l = keyList r := by
  induction l generalizing r with
  | nil => cases r with
    | nil => rfl
    | cons _ _ => simp [KRel, Rel2] at h
  | cons a l ih => cases r with
    | nil => simp [KRel, Rel2] at h
    | cons b r =>
      have := ih h.2
      simp only [keyList, List.map_cons] at this ⊢
      rw [h.1.1, this]

theorem putObj_upd {S : Nat → Prop} {w wr : World} (h : Upd S w wr) {D : Nat} (hD : w.heap.size ≤ D) (o : Obj) : Upd S w (wr.putObj D o) :=
  ⟨h.os, h.tape, h.output, by simpa using h.size, fun k hk hn => (World.putObj_heap_other (by omega)).trans (h.block k hk hn)⟩

theorem roll_post {w w2 wr : World} {F : Nat → Prop} {B : Nat} {st : St} (hU : Upd (fun _ => False) w w2) (hS : IsStore wr (Plus F w2 wr) B st) (hU2 : Upd F w2 wr) (hK : KeepB w2 wr) {D : Nat} (hD : w.heap.size ≤ D) (hD2 : D < w2.heap.size)
    {o : Obj} (hDr : wr.heap[D]? = some (.deferred (some []))) (hF : ∀ b, F b → b < w.heap.size) : StPost w F B true st (.returned (.bool true)) (wr.putObj D o) := by
  have hUw : Upd F w wr := (hU.mono (S' := F) (fun _ _ h => h.elim)).trans hU2 (fun _ _ h => h)
  have hne : ∀ b, Plus F w2 wr b → b ≠ D := fun b h e => by subst e; exact h.elim (fun h => by have := hF _ h; omega) (fun h => by omega)
  refine ⟨rfl, hS.kept (fun b hb h => h.imp id (fun h => ⟨Nat.le_trans hU.size h.1, by simpa using hb⟩)) (fun b _ h => World.putObj_heap_other (hne b h)), putObj_upd hUw hD o, ?_⟩
  intro b hb hex
  rw [World.putObj_heap_other (by omega)]
  exact ((KeepB.ofUpd hU).trans hK hU.size) b hb hex

theorem kvSet_mem {α : Type} {k : List (ByteArray × α)} {x : ByteArray} {v : α} {p : ByteArray × α} (h : p ∈ kvSet k x v) : p.1 = x ∨ ∃ q ∈ k, q.1 = p.1 := by
  induction k with
  | nil => simp [kvSet] at h; exact .inl (by rw [h])
  | cons q k ih =>
    obtain ⟨a, b⟩ := q
    simp only [kvSet] at h
    split at h
    · rename_i e
      rcases List.mem_cons.1 h with rfl | h
      · exact .inl e
      · exact .inr ⟨p, List.mem_cons_of_mem _ h, rfl⟩
    · rcases List.mem_cons.1 h with rfl | h
      · exact .inr ⟨_, List.mem_cons_self, rfl⟩
      · rcases ih h with h | ⟨q, hq, e⟩
        · exact .inl h
        · exact .inr ⟨q, List.mem_cons_of_mem _ hq, e⟩
theorem wasS_names (chs : List Ch) : ∀ p ∈ wasS chs, ∃ c ∈ chs, c.name = p.1 := by
  unfold wasS
  have : ∀ (l : List Ch) (k : List (ByteArray × Ch)) (p : ByteArray × Ch), p ∈ l.foldl (fun k c => kvSet k c.name c) k → (∃ q ∈ k, q.1 = p.1) ∨ ∃ c ∈ l, c.name = p.1 := by
    intro l
    induction l with
    | nil => intro k p h; exact .inl ⟨p, h, rfl⟩
    | cons c l ih =>
      intro k p h
      rcases ih _ p h with ⟨q, hq, e⟩ | ⟨d, hd, e⟩
      · rcases kvSet_mem hq with h | ⟨r, hr, e'⟩
        · exact .inr ⟨c, List.mem_cons_self, by rw [← e, h]⟩
        · exact .inl ⟨r, hr, e'.trans e⟩
      · exact .inr ⟨d, List.mem_cons_of_mem _ hd, e⟩
  intro p hp
  rcases this chs.reverse [] p hp with ⟨q, hq, _⟩ | ⟨c, hc, e⟩
  · cases hq
  · exact ⟨c, List.mem_reverse.1 hc, e⟩
theorem krel_mem {α β : Type} {R : α → β → Prop} {l : List (ByteArray × α)} {r : List (ByteArray × β)} (h : KRel R l r) : ∀ p ∈ l, ∃ q ∈ r, q.1 = p.1 := by
  induction l generalizing r with
  | nil => intro p hp; cases hp
  | cons a l ih => cases r with
    | nil => simp [KRel, Rel2] at h
    | cons b r =>
      intro p hp
      rcases List.mem_cons.1 hp with rfl | hp
      · exact ⟨b, List.mem_cons_self, h.1.1.symm⟩
      · obtain ⟨q, hq, e⟩ := ih h.2 p hp
        exact ⟨q, List.mem_cons_of_mem _ hq, e⟩
theorem wasV_names {w : World} {F : Nat → Prop} {kv : List (ByteArray × Value)} {chs : List Ch} {m : Nat} (h : KRel (VRel w F) kv (wasS chs)) (hn : ∀ c ∈ chs, c.name.size ≤ m) : ∀ p ∈ kv, p.1.size ≤ m := by
  intro p hp
  obtain ⟨q, hq, e⟩ := krel_mem h p hp
  obtain ⟨c, hc, e'⟩ := wasS_names chs q hq
  rw [← e, ← e']; exact hn c hc

set_option maxRecDepth 100000 in
set_option maxHeartbeats 4000000 in
theorem roll_yes (w : World) (F : Nat → Prop) (B : Nat) (st : St) (hS : IsStore w F B st) (hF : ∀ b, F b → b < w.heap.size) (j p : Nat) (hj0 : 0 < j) (hj : j ≤ st.puts.length) (hp : st.puts[st.puts.length - j]? = some p) (hpl : p < st.chs.length) (hn : st.chs.length + st.chs.length < 1048576 * 1048576) (hnp : st.puts.length < 1048576 * 1048576) (hnm : ∀ c ∈ st.chs, c.name.size ≤ maxLen) :
    Calls Try.prog 12 #[.pointer (some ⟨B, 0, none⟩), .int .i64 j] w (StPost w F B true (rollSt st p)) := by
  have hmm := @run_makeMap Try.prog
  obtain ⟨m1, m2, ca, cc, pa, pc, k1, k2, xs, P0⟩ := hS
  have hc2 := cell_blk P0.blk 2 _ rfl
  have hc3 := cell_blk P0.blk 3 _ rfl
  refine (callsIn_wide (n := 6)).1 ?_
  have hro : Fence.wide.round = none := rfl
  refine callsIn_of_wp_marks Try.func12 rfl trivial ?_ hro
  simp only [Try.ntmps12, List.size_toArray, List.length_cons, List.length_nil, Nat.reduceAdd, Nat.reduceSub, Array.replicate_succ, Array.replicate_zero, List.push_toArray, List.append_toArray, List.nil_append, List.cons_append]
  obtain ⟨ca, rfl, hcaF⟩ : ∃ g, ca = some ⟨g, 0, none⟩ ∧ F g := by
    rcases P0.own.2 with ⟨_, h0⟩ | ⟨g, cap, cur, hv, _⟩
    · omega
    · cases hv; exact ⟨g, rfl, P0.fc g rfl⟩
  have hcc : st.chs.length ≤ cc := by
    rcases P0.own.2 with ⟨_, h0⟩ | ⟨g, cap, cur, hv, _, _, h1, _⟩
    · omega
    · cases hv; exact h1
  obtain ⟨pg, rfl⟩ : ∃ g, pa = some ⟨g, 0, none⟩ := by
    rcases P0.pown.2 with ⟨_, h0⟩ | ⟨g, cap, cur, hv, _⟩
    · omega
    · cases hv; exact ⟨g, rfl⟩
  obtain ⟨pcur, hpb, hpcu⟩ := own_blk P0.pown
  have hpv := hpcu (st.puts.length - j) (.int .i64 p) (by rw [List.getElem?_map, hp]; rfl)
  have hcp : cc ≠ p := by omega
  have hb1 : (0 : Int) ≤ (st.puts.length : Int) - (j : Int) := by omega
  have hb2 : (st.puts.length : Int) - (j : Int) < (st.puts.length : Int) := by omega
  have hb3 : ((st.puts.length : Int) - (j : Int)).toNat = st.puts.length - j := by omega
  have hb4 : IntKind.i64.wrap ((st.puts.length : Int) - (j : Int)) = (st.puts.length : Int) - (j : Int) := i64_id (by omega) (by omega)
  have hb5 : (0 : Int) ≤ (p : Int) := by omega
  have hb6 : (p : Int) ≤ (st.chs.length : Int) := by omega
  gi_wp2
  refine wpIn_wide.2 ?_
  have g2 : ∀ o1 o2 : Obj, ((w.alloc o1).alloc o2).cell? ⟨B, 2, none⟩ = some (.slice (some ⟨ca, 0, none⟩) st.chs.length cc) := fun _ _ => cell_blk (alloc_keep (alloc_keep P0.blk _) _) 2 _ rfl
  have g3 : ∀ o1 o2 : Obj, ((w.alloc o1).alloc o2).cell? ⟨B, 3, none⟩ = some (.slice (some ⟨pg, 0, none⟩) st.puts.length pc) := fun _ _ => cell_blk (alloc_keep (alloc_keep P0.blk _) _) 3 _ rfl
  go_region_held3 (fun w' => w'.cell? ⟨B, 2, none⟩ = some (.slice (some ⟨ca, 0, none⟩) st.chs.length cc) ∧ w'.cell? ⟨B, 3, none⟩ = some (.slice (some ⟨pg, 0, none⟩) st.puts.length pc) ∧ w'.cell? ⟨pg, st.puts.length - j, none⟩ = some (.int .i64 p))
    (first
      | exact ⟨cell_blk (alloc_keep (alloc_keep P0.blk _) _) 2 _ rfl, cell_blk (alloc_keep (alloc_keep P0.blk _) _) 3 _ rfl, cell_blk (alloc_keep (alloc_keep hpb _) _) _ _ hpv⟩
      | exact ⟨cell_blk (alloc_keep (alloc_keep (alloc_keep P0.blk _) _) _) 2 _ rfl, cell_blk (alloc_keep (alloc_keep (alloc_keep P0.blk _) _) _) 3 _ rfl, cell_blk (alloc_keep (alloc_keep (alloc_keep hpb _) _) _) _ _ hpv⟩
      | go_keep)
    (first | (go_at_call 31; refine (back_call _ _ _ _).mono ?_; rintro e w5 ⟨rfl, rfl⟩))
  gi_wp2
  refine name_all ?_
  intro T W0 hT hW0
  have hU0 : Upd (fun _ => False) w W0 := by rw [hW0]; exact (((Upd.refl _ w).alloc _).alloc _).alloc _ |>.drew
  have hsz : W0.heap.size = w.heap.size + 3 := by rw [hW0]; simp
  have hmap : IsMap W0 w.heap.size [] := by rw [hW0]; exact IsMap.new (alloc_keep (alloc_keep (heap_alloc_new w _) _) _)
  have hbw : W0.heap[w.heap.size + 1]? = some (.cells #[.map (some w.heap.size)] 61 (0, 0)) := by rw [hW0]; exact drew_keep (by simpa using alloc_keep (heap_alloc_new (w.alloc (.map #[] 0)) _) _)
  have hbs : W0.heap[w.heap.size + 2]? = some (.cells #[.slice (some ⟨ca, p * 3, none⟩) (st.chs.length - p) (cc - p)] 46 (0, 0)) := by rw [hW0]; exact drew_keep (by simpa [Nat.add_assoc] using heap_alloc_new ((w.alloc (.map #[] 0)).alloc (.cells #[.map (some w.heap.size)] 61)) _)
  obtain ⟨L, hLl, hLL, hLR⟩ := P0.chvs p
  rw [← hLl] at hbs
  have hB0 : Below w.heap.size w W0 := hU0.below
  have hlies : BackLies w.heap.size W0 ca (p * 3) L := ⟨hF ca hcaF, fun i x hx => by
    obtain ⟨h1, h2, h3⟩ := hLL i x hx
    exact ⟨(hB0.cell (p := ⟨ca, p * 3 + i * 3, none⟩) (hF ca hcaF)).trans h1, (hB0.cell (p := ⟨ca, p * 3 + i * 3 + 1, none⟩) (hF ca hcaF)).trans h2, (hB0.cell (p := ⟨ca, p * 3 + i * 3 + 2, none⟩) (hF ca hcaF)).trans h3⟩⟩
  clear hW0 hcp hb1 hb2 hb3 hb4 hb5 hb6 g2 g3 hpv hpcu hpb hc2 hc3
  refine wpIn_rangeFunc_ownH hro (by omega) (gf := 51) (lb := #[.pointer (some ⟨w.heap.size + 2, 0, none⟩)]) (by subst hT; simp [Act.eval]) trivial (enters_of Try.func51 (by kernel_rfl) rfl)
    (back_stops Fence.wide 5 trivial hro (by omega) (w.heap.size + 2) w.heap.size ca (p * 3) (cc - p) L (by omega) W0 (by omega) hbs hlies) KpB.trans (KpB.obj (by omega) (by omega)) (Below.refl _ _) (fun _ => rfl)
    (fun pre W => (Boxed W (w.heap.size + 1) 61 (.map (some w.heap.size)) ∧ IsMap W w.heap.size (wasV pre)) ∧ Below w.heap.size w W)
    (fun _ _ _ => False)
    (OwnFrom.and (fun s A B' row hs hg hr => ⟨hs.1.kept hg (fun e => by have := (hr _ e.symm).1; omega), hs.2.kept (hg.block _ hs.2.lt (fun e => by have := (hr _ e.symm).1; omega))⟩) (ownFrom_below (Nat.le_refl _) (by omega)))
    (fun _ _ _ _ _ hs _ _ => hs)
    ⟨⟨hbw, hmap⟩, hB0⟩
    (fun x a' W => ∃ Bx, w.heap.size + 1 < Bx ∧ W.heap[Bx]? = some (.cells #[.string x.2.name, .slice x.2.a x.2.n x.2.c, .bool x.2.is] 66 (0, 0)) ∧ a' = { tmps := ((T.setIfInBounds 47 (.int .i64 (x.1 : Int))).setIfInBounds 48 (.agg #[.string x.2.name, .slice x.2.a x.2.n x.2.c, .bool x.2.is])).setIfInBounds 7 (.pointer (some ⟨Bx, 0, none⟩)), defers := [] })
    (fun x a' _ X Y row hs hg hr => by obtain ⟨Bx, h1, h2, h3⟩ := hs; exact ⟨Bx, h1, (hg.block Bx (lt_of_blk h2) (fun e => by obtain ⟨_, o, ho, hc⟩ := hr Bx e.symm; rw [h2] at ho; cases ho; cases hc)).trans h2, h3⟩)
    ?assign ?body ?done ?stop
  case assign =>
    rintro l pre x W K ⟨⟨bS1, bM1⟩, hB1⟩ hK
    subst hT
    simp only [chvEnc]
    gi_wp2
    exact hK _ _ ((KeepsOthers.alloc _ _).from _) ⟨(Below.refl _ W).alloc hB1.size _, fun h => Below.heap_alloc _ _ _ h⟩ ⟨⟨bS1.alloc _, bM1.kept (Below.heap_alloc _ _ _ bM1.lt)⟩, hB1.alloc hB1.size _⟩ ⟨W.heap.size, bS1.lt, heap_alloc_new _ _, by simp⟩
  case body =>
    rintro l pre x a' W hl ⟨r, hr⟩ ⟨⟨bS1, bM1⟩, hB1⟩ ⟨Bx, hBx, bX, rfl⟩ hlt
    subst hT
    have c0 := cell_blk bX 0 _ rfl
    have c1 := cell_blk bX 1 _ rfl
    have c2 := cell_blk bX 2 _ rfl
    have cS := bS1.cell
    gi_wp2_with (gi_at_mapUpdate; refine wpListIn_update_str _ rfl _ _ _ rfl Try.underlying61 Try.underlying9 w.heap.size (wasV pre) rfl bM1 x.2.name (chvVal x.2) rfl rfl ?_; intro w1 hm1 hgrow1)
    exact ⟨KeepsFrom.of_grownBy hgrow1 (fun k e => by cases e; omega), ⟨(Below.refl _ W).grown hgrow1 hB1.size (fun k e => by cases e; exact Nat.le_refl _), fun h => hgrow1.block _ h (by simp)⟩,
      ⟨⟨bS1.kept hgrow1 (by simp), by rw [wasV_snoc]; exact hm1⟩, hB1.grown hgrow1 hB1.size (fun k e => by cases e; exact Nat.le_refl _)⟩⟩
  case done =>
    rintro D ys W hD rfl ⟨⟨bS1, bM1⟩, hB1⟩ hK
    subst hT
    have cS := bS1.cell
    have hU1 : Upd (fun _ => False) w W := Upd.ofBelow hB1 _
    have hWS := was_rel hLR
    have hkl := hWS.length
    have hwl : (wasS (st.chs.drop p)).length ≤ st.chs.length := by have := wasS_len (st.chs.drop p); have := List.length_drop (l := st.chs) (i := p); omega
    clear hLl
    gi_wp2
    refine ⟨trivial, (Try.maps_Keys_33 _ _).mono ?_⟩
    rintro e w1 ⟨rfl, rfl⟩
    gi_wp2
    refine ⟨trivial, callsIn_wide.2 ((sorted_ch W _ _ bM1 (by omega) (wasV_names hWS (fun c hc => hnm c (List.mem_of_mem_drop hc)))).mono ?_)⟩
    rintro e w2 ⟨sa, sc, rfl, hsown, hsat, hU2⟩
    gi_wp2
    refine wpIn_wide.2 ?_
    have hlen : (sortedNames (wasV (back L L.length))).length = (wasS (st.chs.drop p)).length := by rw [← hkl]; simp [sortedNames, keyList]
    have hpos : 0 < (wasS (st.chs.drop p)).length := wasS_pos (by intro h; have := congrArg List.length h; simp at this; omega)
    have hU02 : Upd (fun _ => False) w w2 := (hU1.alloc _).trans hU2 (fun _ _ h => h)
    have hS2 : IsStore w2 F B st := IsStore.kept (w := w) (F := F) ⟨_, _, _, _, _, _, _, _, _, P0⟩ (fun _ _ h => h) (fun b hb _ => hU02.block b hb (fun h => h))
    have hbx2 := hU2.keep (alloc_keep bS1 _) (fun h => h)
    have hm2 : IsMap w2 w.heap.size (wasV (back L L.length)) := bM1.kept ((hU2.block _ (by have := bM1.lt; simp; omega) (fun h => h)).trans (Below.heap_alloc _ _ _ bM1.lt))
    have hK2 := hU2.keep (alloc_keep hK _) (fun h => h)
    have hWS2 : KRel (VRel w2 F) (wasV (back L L.length)) (wasS (st.chs.drop p)) := Rel2.mono hWS (fun a b ⟨e, nm, x, n, cc, e1, e2⟩ => ⟨e, nm, x, n, cc, e1, IsRow.kept e2 (fun _ _ h => h) (fun b hb _ _ => hU02.block b hb (fun h => h))⟩)
    have hmem : ∀ x ∈ sortedNames (wasV (back L L.length)), ∃ v, kvGet (wasV (back L L.length)) x = some v := fun x hx => sorted_mem hx
    have hns : sortedNames (wasV (back L L.length)) = sortedNames (wasS (st.chs.drop p)) := by unfold sortedNames; rw [krel_keys hWS]
    generalize hkv : wasV (back L L.length) = kvs at *
    generalize hnames : sortedNames kvs = names at *
    obtain ⟨sg, rfl⟩ : ∃ g, sa = some ⟨g, 0, none⟩ := by
      rcases hsown.2 with ⟨_, h0⟩ | ⟨g, cap, cur, hv, _⟩
      · omega
      · cases hv; exact ⟨g, rfl⟩
    obtain ⟨scur, hsb, hscu⟩ := own_blk hsown
    have hsg := (hsat sg rfl).1
    simp only [World.size_alloc] at hsg
    have hWsz := hB1.size
    have hFn : ∀ b, w.heap.size ≤ b → ¬ F b := fun b hb h => by have := hF b h; omega
    have HS2 := Lib.hid hS2
    have HBX2 := Lib.hid hbx2
    have HM2 := Lib.hid hm2
    have HK2 := Lib.hid hK2
    have HWS2 := Lib.hid hWS2
    have HMEM := Lib.hid hmem
    have HSB := Lib.hid hsb
    have HSCU := Lib.hid hscu
    have HFN := Lib.hid hFn
    have HU02 := Lib.hid hU02
    have HSG : Hid (w.heap.size ≤ sg) := Lib.hid (by omega)
    have HD : Hid (w.heap.size ≤ D) := Lib.hid (by omega)
    have HDW : Hid (D < w2.heap.size) := Lib.hid (lt_of_blk hK2)
    have HNS := Lib.hid hns
    have HLEN : Hid (names.length ≤ st.chs.length) := Lib.hid (by omega)
    clear hns hS2 hbx2 hm2 hK2 hWS2 hmem hsb hscu hFn hU02 hlen hpos hsown hsat hWsz hsg bS1 bM1 cS hU1 hWS hkl hwl hB1 hK hbw hbs hmap hLL hLR hlies hB0 hU0 P0 hkv hnames hD hsz
    have hnl := HLEN.out
    go_loopw [57] (fun i wr => ∃ k : Nat, k ≤ names.length ∧ i = .int .i64 k ∧ IsStore wr (Plus F w2 wr) B ((names.take k).foldl (rollSet (wasS (st.chs.drop p))) st) ∧ Upd F w2 wr ∧ KeepB w2 wr) (fun i _ => names.length - (intOf i).toNat)
    case atStart => exact ⟨0, Nat.zero_le _, rfl, HS2.out.kept (fun _ _ h => .inl h) (fun _ _ _ => rfl), Upd.refl _ _, KeepB.refl _⟩
    case round =>
      obtain ⟨k, hk, rfl, hSr, hUr, hKr⟩ := hrel
      have HSR := Lib.hid hSr
      have HUR := Lib.hid hUr
      have HKR := Lib.hid hKr
      clear hSr hUr hKr
      by_cases hlt : k < names.length
      · obtain ⟨x, hx⟩ : ∃ x, names[k]? = some x := ⟨_, List.getElem?_eq_getElem hlt⟩
        obtain ⟨v, hv⟩ := HMEM.out x (List.mem_of_getElem? hx)
        obtain ⟨c, hc, nm, va, vn, vc, rfl, hvb⟩ := krel_get HWS2.out hv
        have hn1 := cell_blk (HUR.out.keep HSB.out (HFN.out _ HSG.out)) k _ (HSCU.out k (sv x) (by rw [List.getElem?_map, hx]; rfl))
        have hbr := cell_blk (HUR.out.keep HBX2.out (HFN.out _ (by omega))) 0 _ rfl
        have hmr : IsMap wr w.heap.size kvs := HM2.out.kept (HUR.out.block _ HM2.out.lt (HFN.out _ (Nat.le_refl _)))
        have hvr := HKR.out.isB hvb (F' := Plus F w2 wr) (fun _ _ h => .inl h)
        have hs : (names.take (k + 1)).foldl (rollSet (wasS (st.chs.drop p))) st = ((names.take k).foldl (rollSet (wasS (st.chs.drop p))) st).set x (if c.is then some c.b else none) := by
          obtain ⟨hlt', rfl⟩ := List.getElem?_eq_some_iff.1 hx
          rw [List.take_succ_eq_append_getElem hlt', List.foldl_append]
          simp [rollSet, hc]
        have hcl : ((names.take k).foldl (rollSet (wasS (st.chs.drop p))) st).chs.length < 1048576 * 1048576 := by
          have := rollSet_len (wasS (st.chs.drop p)) (names.take k) st
          have := List.length_take_le k names
          have := HLEN.out
          omega
        have hlk : (kvGet kvs x).getD (.agg #[.string ⟨#[]⟩, .slice none 0 0, .bool false]) = .agg #[.string nm, .slice va vn vc, .bool c.is] := by rw [hv]; rfl
        have HMR := Lib.hid hmr
        have HVR := Lib.hid hvr
        have HS := Lib.hid hs
        have HCL := Lib.hid hcl
        have HLK := Lib.hid hlk
        simp only [sv] at hn1
        have hk0 : (0 : Int) ≤ (k : Int) := by omega
        have hk1 : (k : Int) < ((names.length : Nat) : Int) := by omega
        clear hmr hvr hs hcl hlk hv hc hvb hx
        have hf1 := fld1 nm va vn vc c.is
        have hf2 := fld2 nm va vn vc c.is
        go_wp2_with (at_lookup; refine wpList_lookup1_str rfl _ _ rfl Try.underlying61 Try.underlying9 _ zero_ch w.heap.size kvs rfl HMR.out x rfl ?_; rw [HLK.out])
        refine (set_any wr _ B _ HSR.out x va vn vc c.b c.is HVR.out HCL.out).mono ?_
        rintro e w3 ⟨rfl, hS3, hU3, hK3⟩
        have HS3 := Lib.hid hS3
        have HU3 := Lib.hid hU3
        have HK3 := Lib.hid hK3
        clear hS3 hU3 hK3
        go_wp2_with fail
        go_roundw
        case rel => exact ⟨k + 1, by omega, by go_num, by rw [HS.out]; exact HS3.out.kept (fun b hb h => h.elim (fun h => h.imp id (fun h => ⟨h.1, hb⟩)) (fun h => .inr ⟨Nat.le_trans HUR.out.size h.1, h.2⟩)) (fun _ _ _ => rfl), HUR.out.trans HU3.out (fun i hi h => h.elim id (fun h => by omega)), HKR.out.trans HK3.out HUR.out.size⟩
        case measure => simp [intOf]; omega
      · obtain rfl : k = names.length := by omega
        have hKr2 := HUR.out.keep HK2.out (HFN.out _ HD.out)
        go_wp2_with fail
        gi_wp2
        refine ⟨by simp, .inl ⟨_, _, rfl, run_takeDeferred hKr2, ?_⟩⟩
        rw [List.take_length] at HSR
        have hrs : rollSt st p = names.foldl (rollSet (wasS (st.chs.drop p))) st := by unfold rollSt; rw [← HNS.out]
        rw [hrs]
        refine ⟨.bool true, ?_, roll_post HU02.out HSR.out HUR.out HKR.out HD.out HDW.out hKr2 hF⟩
        simp [results, Try.f12, go_sem]
  case stop =>
    rintro D c pre W _ _ h _
    exact h.elim

def canRoll (st : St) (n : Int) : Bool := decide (0 ≤ n) && decide (n ≤ st.puts.length)
/-- What becomes of a store that goes back by n puts. -/
def roll (st : St) (n : Int) : St := if canRoll st n = true ∧ n ≠ 0 then (match st.puts[st.puts.length - n.toNat]? with | some p => rollSt st p | none => st) else st

set_option maxRecDepth 100000 in
set_option maxHeartbeats 2000000 in
theorem roll_no (w : World) (F : Nat → Prop) (B : Nat) (st : St) (hS : IsStore w F B st) (n : Int) (hc : canRoll st n = false) :
    Calls Try.prog 12 #[.pointer (some ⟨B, 0, none⟩), .int .i64 n] w (StPost w F B false st) := by
  have HS := Lib.hid hS
  have hro : Fence.wide.round = none := rfl
  rcases Int.lt_or_le n 0 with h0 | h0
  · clear hc hS
    refine (callsIn_wide (n := 6)).1 ?_
    refine callsIn_of_wp_marks Try.func12 rfl trivial ?_ hro
    simp only [Try.ntmps12, List.size_toArray, List.length_cons, List.length_nil, Nat.reduceAdd, Nat.reduceSub, Array.replicate_succ, Array.replicate_zero, List.push_toArray, List.append_toArray, List.nil_append, List.cons_append]
    gi_wp2
    refine ⟨.bool false, ?_, StPost.same HS.out⟩
    simp [results, Try.f12, go_sem]
  · obtain ⟨j, rfl⟩ := Int.eq_ofNat_of_zero_le h0
    obtain ⟨m1, m2, ca, cc, pa, pc, k1, k2, xs, P0⟩ := hS
    have hc3 := cell_blk P0.blk 3 _ rfl
    have hj : st.puts.length < j := by simp [canRoll] at hc; omega
    clear hc P0
    refine (callsIn_wide (n := 6)).1 ?_
    refine callsIn_of_wp_marks Try.func12 rfl trivial ?_ hro
    simp only [Try.ntmps12, List.size_toArray, List.length_cons, List.length_nil, Nat.reduceAdd, Nat.reduceSub, Array.replicate_succ, Array.replicate_zero, List.push_toArray, List.append_toArray, List.nil_append, List.cons_append]
    gi_wp2
    refine ⟨.bool false, ?_, StPost.same HS.out⟩
    simp [results, Try.f12, go_sem]

set_option maxRecDepth 100000 in
set_option maxHeartbeats 2000000 in
theorem roll_zero (w : World) (F : Nat → Prop) (B : Nat) (st : St) (hS : IsStore w F B st) :
    Calls Try.prog 12 #[.pointer (some ⟨B, 0, none⟩), .int .i64 0] w (StPost w F B true st) := by
  have HS := Lib.hid hS
  have hro : Fence.wide.round = none := rfl
  obtain ⟨m1, m2, ca, cc, pa, pc, k1, k2, xs, P0⟩ := hS
  have hc3 := cell_blk P0.blk 3 _ rfl
  clear P0
  refine (callsIn_wide (n := 6)).1 ?_
  refine callsIn_of_wp_marks Try.func12 rfl trivial ?_ hro
  simp only [Try.ntmps12, List.size_toArray, List.length_cons, List.length_nil, Nat.reduceAdd, Nat.reduceSub, Array.replicate_succ, Array.replicate_zero, List.push_toArray, List.append_toArray, List.nil_append, List.cons_append]
  gi_wp2
  refine ⟨.bool true, ?_, StPost.same HS.out⟩
  simp [results, Try.f12, go_sem]

theorem roll_any (w : World) (F : Nat → Prop) (B : Nat) (st : St) (hS : IsStore w F B st) (hF : ∀ b, F b → b < w.heap.size) (n : Int) (hpl : ∀ p ∈ st.puts, p < st.chs.length) (hn : st.chs.length + st.chs.length < 1048576 * 1048576) (hnp : st.puts.length < 1048576 * 1048576) (hnm : ∀ c ∈ st.chs, c.name.size ≤ maxLen) :
    Calls Try.prog 12 #[.pointer (some ⟨B, 0, none⟩), .int .i64 n] w (StPost w F B (canRoll st n) (roll st n)) := by
  cases hc : canRoll st n with
  | false =>
    have hr : roll st n = st := by simp [roll, hc]
    rw [hr]
    exact roll_no w F B st hS n hc
  | true =>
    by_cases h0 : n = 0
    · subst h0
      have hr : roll st 0 = st := by simp [roll]
      rw [hr]
      exact roll_zero w F B st hS
    · have hc' := hc
      simp only [canRoll, Bool.and_eq_true, decide_eq_true_eq] at hc'
      obtain ⟨j, rfl⟩ := Int.eq_ofNat_of_zero_le hc'.1
      obtain ⟨p, hp⟩ : ∃ p, st.puts[st.puts.length - j]? = some p := ⟨_, List.getElem?_eq_getElem (by omega)⟩
      have hr : roll st j = rollSt st p := by simp only [roll, hc, true_and]; rw [if_pos h0, Int.toNat_natCast, hp]
      rw [hr]
      exact roll_yes w F B st hS hF j p (by omega) (by omega) hp (hpl _ (List.mem_of_getElem? hp)) hn hnp hnm
end Go.Proofs.Ytajmaebofhkjjaa
