import Derived.Test.YtajmaebofhkjjaaBase
import Derived.Deep.RegionHeld3
import Derived.Deep.RegionLaw
import Derived.Deep.RegionLawGrows
import Derived.Deep.DrawnRows
namespace Go.Proofs.Dm
open Go.RowKit Go.MapKept
section
variable {P : Program} {ops : Array Oper} {o : Oper} {a : Act} {K : Act → World → Prop} {Q : Exit → Act → World → Prop} {E : Prop}
theorem step_append1 (w : World) (hgd : o.guard = none) (s x : Operand) (t : TypeId)
    (ho : o.op = .call { callee := .builtin .append, args := #[s, x], argTypes := #[t, t] })
    (e : TypeId) (i : TypeInfo) (z : Value) (size bytes : Nat) (ht : P.underlying t = some (.slice e)) (hi : P.info? e = some i) (hz : i.zero = some z)
    (hsize : i.size = size) (hby : i.bytes = bytes) (hzs : z.cells.size = size) (hsz : 0 < size)
    (sa : Option Addr) (n sc : Nat) (xs : List Value) (hs : a.eval s = .slice sa n sc) (hown : w.ownsRow 0 e size (.slice sa n sc) n xs)
    (r : Nat) (cs : List Value) (t' : TypeId) (f : Nat × Nat) (hx : a.eval x = .slice (some ⟨r, 0, none⟩) 1 1) (hr : w.heap[r]? = some (.cells cs.toArray t' f)) (hl : cs.length = size) (h1 : ∀ u ∈ cs, u.oneCell' = true)
    (h63 : n + 1 ≤ 1048576 * 1048576) (hbytes : bytes ≤ 128) (H : Nat) (hH : w.heap.size = H)
    (h : ∀ g cap w', w'.ownsRow 0 e size (.slice (some ⟨g, 0, none⟩) (n + 1) cap) (n + 1) (xs ++ cs) → w.grownBy w' (sa.map (·.block)) → (sa.map (·.block) = some g ∨ H ≤ g) → g < w'.heap.size → K (a.put o.dst (.slice (some ⟨g, 0, none⟩) (n + 1) cap)) w') :
    if Region.wanted o (yielded ops a.tmps) = true then Oper.wp P o a w K Q else E :=
  step_append_lies w hgd s x t ho 0 e i z size bytes ht hi hz hsize hby hzs hsz (.slice sa n sc) n xs hs hown ⟨r, 0, none⟩ 1 1 cs hx (by rw [hl]; omega) (news_blk hr) h1 (by decide) (by unfold maxLen; omega)
    (Nat.le_trans (Nat.mul_le_mul h63 hbytes) (by decide)) (Nat.zero_le _) H hH fun g cap w' h2 h3 h4 h5 => h g cap w' h2 (by cases sa <;> simpa [Value.ownBlock] using h3) (by cases sa <;> simp_all [Value.ownBlock] <;> omega) h5

/-- 'append(clipped, x)': it is full: always a new array; what it held is read, not written. -/
theorem step_append_full (w : World) (hgd : o.guard = none) (s x : Operand) (t : TypeId)
    (ho : o.op = .call { callee := .builtin .append, args := #[s, x], argTypes := #[t, t] })
    (e : TypeId) (i : TypeInfo) (z : Value) (size bytes : Nat) (ht : P.underlying t = some (.slice e)) (hi : P.info? e = some i) (hz : i.zero = some z)
    (hsize : i.size = size) (hby : i.bytes = bytes) (hzs : z.cells.size = size) (hsz : 0 < size)
    (sa : Option Addr) (n : Nat) (xs : List Value) (F : Nat → Prop) (T : TypeId → Prop) (hs : a.eval s = .slice sa n n) (hrow : IsRow w F T (.slice sa n n) n xs) (hxl : xs.length = n * size)
    (r : Nat) (cs : List Value) (t' : TypeId) (f : Nat × Nat) (hx : a.eval x = .slice (some ⟨r, 0, none⟩) 1 1) (hr : w.heap[r]? = some (.cells cs.toArray t' f)) (hl : cs.length = size) (h1 : ∀ u ∈ cs, u.oneCell' = true)
    (h63 : n + 1 ≤ 1048576 * 1048576) (hbytes : bytes ≤ 128) (H : Nat) (hH : w.heap.size = H)
    (h : ∀ g cap w', w'.ownsRow H e size (.slice (some ⟨g, 0, none⟩) (n + 1) cap) (n + 1) (xs ++ cs) → w.grownBy w' none → H ≤ g → g < w'.heap.size → K (a.put o.dst (.slice (some ⟨g, 0, none⟩) (n + 1) cap)) w') :
    if Region.wanted o (yielded ops a.tmps) = true then Oper.wp P o a w K Q else E := by
  obtain ⟨a', c', he, hnil, _, hr'⟩ := hrow
  cases he
  refine step_append_grows hgd s x t ho e i z size bytes ht hi hz hsize hby hzs hsz sa n n xs hs (fun h => ⟨(hnil h).2, (hnil h).1⟩) hxl (fun b hb => hr'.cells hb) ⟨r, 0, none⟩ 1 1 cs hx (by rw [hl]; omega) (news_blk hr) h1 (by omega) (by unfold maxLen; omega)
    (Nat.le_trans (Nat.mul_le_mul h63 hbytes) (by decide)) ?_
  intro v' w' h2 h3
  subst hH
  rcases h2.2 with ⟨_, h0⟩ | ⟨g, cap, cur, rfl, hg, hb, _⟩
  · omega
  · exact h g cap w' h2 h3 hg (lt_of_blk hb)
theorem run_appendN (w : World) (t ty e : TypeId) (i : TypeInfo) (z : Value) (size bytes : Nat) (ht : P.underlying t = some (.slice e)) (hi : P.info? e = some i) (hz : i.zero = some z)
    (hsize : i.size = size) (hby : i.bytes = bytes) (hzs : z.cells.size = size) (hsz : 0 < size)
    (sa : Option Addr) (n sc : Nat) (xs : List Value) (hown : w.ownsRow 0 e size (.slice sa n sc) n xs)
    (xa : Option Addr) (m xc : Nat) (news : List Value) (F : Nat → Prop) (T : TypeId → Prop) (hr : IsRow w F T (.slice xa m xc) m news) (hl : news.length = m * size) (h1 : ∀ u ∈ news, u.oneCell' = true)
    (h63 : n + m ≤ 9223372036854775807) (hbytes : (n + m) * bytes ≤ 140737488355328) :
    ∃ a' c' w', (Builtin.append_ #[t, t] ty #[.slice sa n sc, .slice xa m xc]).run P w = .ok (.slice a' (n + m) c') w' ∧ w'.ownsRow 0 e size (.slice a' (n + m) c') (n + m) (xs ++ news) ∧ w.grownBy w' (sa.map (·.block)) ∧ (∀ g, a'.map (·.block) = some g → (sa.map (·.block) = some g ∨ w.heap.size ≤ g) ∧ g < w'.heap.size) := by
  obtain ⟨_, _, he, hnil, hcap, hrow⟩ := hr
  cases he
  cases xa with
  | none =>
    obtain ⟨rfl, rfl⟩ := hnil rfl
    have hn0 : news = [] := List.eq_nil_of_length_eq_zero (by simpa using hl)
    subst hn0
    refine ⟨sa, sc, w, run_append_owned_none w 0 t ty e i size ht hi _ n xs hown, by simpa using hown, ⟨rfl, rfl, rfl, Nat.le_refl _, fun _ _ _ => rfl⟩, fun g hg => ⟨.inl hg, ?_⟩⟩
    exact (hown.lt g (by cases sa with | none => simp at hg | some _ => simpa [Value.ownBlock] using hg)).2
  | some ad =>
    obtain ⟨v', w', hrun, h2, h3, h4, h5⟩ := run_append_own_at (P := P) w 0 t ty e i z size bytes ht hi hz hsize hby hzs hsz _ n xs hown ad m xc news hl (hrow.cells rfl) h1 (by unfold maxLen; omega) hbytes (Nat.zero_le _)
    have hv : ∃ a' c', v' = .slice a' (n + m) c' := by
      rcases h2.2 with ⟨rfl, e0⟩ | ⟨g, cap, cur, rfl, _⟩
      · exact ⟨none, 0, by rw [e0]⟩
      · exact ⟨_, _, rfl⟩
    obtain ⟨a', c', rfl⟩ := hv
    refine ⟨a', c', w', hrun, h2, by cases sa <;> simpa [Value.ownBlock] using h3, fun g hg => ⟨?_, (h2.lt g (by cases a' with | none => simp at hg | some _ => simpa [Value.ownBlock] using hg)).2⟩⟩
    cases a' with
    | none => simp at hg
    | some b =>
      simp only [Value.ownBlock] at h5
      simp only [Option.map_some, Option.some.injEq] at hg
      subst hg
      rcases h5 with h5 | h5
      · left; cases sa <;> simp_all [Value.ownBlock]
      · right; simp at h5; omega

/-- 'append(s, x...)' at a step: whatever x is. -/
theorem step_appendN (w : World) (hgd : o.guard = none) (s x : Operand) (t : TypeId)
    (ho : o.op = .call { callee := .builtin .append, args := #[s, x], argTypes := #[t, t] })
    (e : TypeId) (i : TypeInfo) (z : Value) (size bytes : Nat) (ht : P.underlying t = some (.slice e)) (hi : P.info? e = some i) (hz : i.zero = some z)
    (hsize : i.size = size) (hby : i.bytes = bytes) (hzs : z.cells.size = size) (hsz : 0 < size)
    (sa : Option Addr) (n sc : Nat) (xs : List Value) (hs : a.eval s = .slice sa n sc) (hown : w.ownsRow 0 e size (.slice sa n sc) n xs)
    (xa : Option Addr) (m xc : Nat) (news : List Value) (hx : a.eval x = .slice xa m xc) (F : Nat → Prop) (T : TypeId → Prop) (hr : IsRow w F T (.slice xa m xc) m news) (hl : news.length = m * size) (h1 : ∀ u ∈ news, u.oneCell' = true)
    (h63 : n + m ≤ 9223372036854775807) (hbytes : (n + m) * bytes ≤ 140737488355328)
    (h : ∀ a' c' w', w'.ownsRow 0 e size (.slice a' (n + m) c') (n + m) (xs ++ news) → w.grownBy w' (sa.map (·.block)) → (∀ g, a'.map (·.block) = some g → (sa.map (·.block) = some g ∨ w.heap.size ≤ g) ∧ g < w'.heap.size) → K (a.put o.dst (.slice a' (n + m) c')) w') :
    if Region.wanted o (yielded ops a.tmps) = true then Oper.wp P o a w K Q else E := by
  rw [if_pos (by simp [Region.wanted, hgd])]
  obtain ⟨a', c', w', hrun, h2, h3, h4⟩ := run_appendN (P := P) w t o.type e i z size bytes ht hi hz hsize hby hzs hsz sa n sc xs hown xa m xc news F T hr hl h1 h63 hbytes
  unfold Oper.wp
  simp [execOp, ho, resolve, invoke, builtin, hs, hx, hrun, Result.andThen]
  exact h a' c' w' h2 h3 h4

theorem step_update_str {T Ky El : TypeId} (w : World) (hg : o.guard = none) (m x v : Operand) (hop : o.op = Op.mapUpdate T m x v)
    (hT : P.underlying T = some (.map Ky El)) (hK : P.underlying Ky = some .string) (b : Nat) (kvs : List (ByteArray × Value)) (hm : a.eval m = .map (some b)) (h : IsMap w b kvs)
    (key : ByteArray) (val : Value) (hx : a.eval x = .string key) (hv : a.eval v = val)
    (hK' : ∀ w', IsMap w' b (kvSet kvs key val) → Upd (fun k => k = b) w w' → w'.heap.size = w.heap.size → K (a.put o.dst undef) w') :
    if Region.wanted o (yielded ops a.tmps) = true then Oper.wp P o a w K Q else E := by
  rw [if_pos (by simp [Region.wanted, hg])]
  obtain ⟨ob, hrun, hm'⟩ := update_str hT hK h key val
  unfold Oper.wp
  simp [execOp, hop, hm, hx, hv, hrun, Result.andThen]
  exact hK' _ hm' (Upd.setObj (S := fun k => k = b) (Upd.refl _ w) (fun _ => rfl) _) (by simp)
end
end Go.Proofs.Dm
