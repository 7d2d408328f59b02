/- Proved: for every script, dominolaw18.StorePlays returns true and leaves its argument as it was: the program's store answers each call, and shows, what the reference's does; no condition beyond those of the given row. -/
import Derived.Test.YtajmaebofhkjjaaRows
import Derived.Test.YtajmaebofhkjjaaPlay
import Derived.ProofKit
import Derived.Deep.Slices
import Derived.Deep.Fields
import Derived.ChangeSame
import Derived.Carry
namespace Go.Proofs.Ytajmaebofhkjjaa
open Go.ChangeShapes Go.WideShapes Go.ChangeAt Go.RowKit Go.Deep Go.Proofs.Dm

section
variable {H : Type} {enc : TypeId × Value → H} {P : Program} {w : World} {base : Nat} {spare : Nat → Bool} {held : Bool}
/-- A slice of structs of one-cell fields, opened at every field. -/
theorem open_slice_fields {t e : TypeId} {fs : Array Field} {fuel : Nat} {cs : List Value} {x : DataW H × List MemPlace} (ht : P.underlying t = some (.slice e)) (he : P.underlying e = some (.struct fs))
    (hone : oneCellFields P fs = true) (hC : P.cellsOf e = fs.size) (m : Nat) (hm : fs.size = m) (h : DataW.trod enc P w base spare held fuel t cs = some x) :
    cs = [.slice none 0 0] ∨
    ∃ (a : Addr) (len cap : Nat), cs = [.slice (some a) len cap] ∧ len ≤ cap ∧
      ∀ i, i < len → ∃ n : Nat, ∀ (j : Nat) (f : Field), fs[j]? = some f → ∃ (v : Value) (y : DataW H × List MemPlace), w.cell? (a.add (i * m + j)) = some v ∧ DataW.trod enc P w base spare held n f.type [v] = some y := by
  subst hm
  rcases open_slice ht h with h0 | ⟨a, len, cap, m, n, D, Pl, hcs, hb, hl, hm, hmm, hx, hi⟩
  · exact .inl h0.1
  · refine .inr ⟨a, len, cap, hcs, hl, fun i hil => ?_⟩
    obtain ⟨cs', hc, ht'⟩ := hi i (by rw [hmm]; split <;> omega)
    rw [hC] at hc
    obtain ⟨ys, n', hn', hy, hlen, hyl, hf⟩ := DataW.trod_struct he ht'
    obtain ⟨_, hcl, hat⟩ := World.cells?_some hc
    refine ⟨n', fun j f hj => ?_⟩
    obtain ⟨ho, hk⟩ := hone_of hone j f hj
    have hjl : j < fs.size := (Array.getElem?_eq_some_iff.1 hj).1
    have hcell := hat j hjl
    have hv : cs'[j]? = some (cs'[j]'(by omega)) := List.getElem?_eq_getElem (by omega)
    have h1 := hf j f hj
    rw [ho, hk] at h1
    have hone' : (cs'.drop j).take 1 = [cs'[j]'(by omega)] := by
      rw [List.drop_eq_getElem_cons (by omega)]
      rfl
    rw [hone'] at h1
    have hys : ys[j]? = some (ys[j]'(by omega)) := List.getElem?_eq_getElem (by omega)
    refine ⟨_, _, ?_, h1.trans hys⟩
    rw [← Go.Deep.add_add, hcell, hv]
end

theorem list_of {α : Type} {n : Nat} {p : Nat → α → Prop} (h : ∀ i, i < n → ∃ x, p i x) : ∃ l : List α, l.length = n ∧ ∀ i (hi : i < l.length), p i l[i] := by
  induction n with
  | zero => exact ⟨[], rfl, fun i hi => by simp at hi⟩
  | succ n ih =>
    obtain ⟨l, hl, hp⟩ := ih (fun i hi => h i (by omega))
    obtain ⟨x, hx⟩ := h n (by omega)
    refine ⟨l ++ [x], by simp [hl], fun i hi => ?_⟩
    by_cases hil : i < l.length
    · rw [List.getElem_append_left hil]; exact hp i hil
    · have : i = n := by simp at hi; omega
      subst this
      rw [List.getElem_append_right (by omega)]
      simpa using hx

/-- A cell that is there: its block and its place. -/
theorem cell_parts {w : World} {a : Addr} {v : Value} (h : w.cell? a = some v) : ∃ g o arr t f, a = ⟨g, o, none⟩ ∧ w.heap[g]? = some (.cells arr t f) ∧ arr[o]? = some v := by
  obtain ⟨g, o, s⟩ := a
  unfold World.cell? at h
  split at h
  · rename_i c t f hb
    split at h
    · cases h
    · rename_i hs
      have : s = none := by cases s <;> simp_all
      subst this
      exact ⟨g, o, c, t, f, rfl, hb, h⟩
  · cases h
theorem add_none (g o n : Nat) : (⟨g, o, none⟩ : Addr).add n = ⟨g, o + n, none⟩ := by unfold Addr.add; split <;> simp_all

section
variable {H : Type} {enc : TypeId × Value → H} {w : World} {base : Nat} {spare : Nat → Bool} {held : Bool}
/-- A slice of bytes that came in. -/
theorem open_b {n : Nat} {v : Value} {y : DataW H × List MemPlace} (h : DataW.trod enc Try.prog w base spare held n 31 [v] = some y) :
    ∃ (ba : Option Addr) (bc : Nat) (b : List UInt8), v = .slice ba b.length bc ∧ IsB w (fun g => g < w.heap.size) (fun _ => True) (.slice ba b.length bc) b := by
  rcases open_slice1 Try.underlying31 (by kernel_rfl) h with ⟨h0, _⟩ | ⟨a, len, cap, m, n', V, D, Pl, hcs, _, hl, _, hmm, _, hi⟩
  · simp at h0; subst h0
    exact ⟨none, 0, [], rfl, none, 0, rfl, fun _ => ⟨rfl, rfl⟩, Nat.le_refl _, fun h => absurd rfl h⟩
  · simp at hcs; subst hcs
    obtain ⟨b, hb, hp⟩ := list_of (n := len) (p := fun i (u : UInt8) => w.cell? (a.add i) = some (bv u)) (fun i hil => by
      obtain ⟨h1, h2⟩ := hi i (by rw [hmm]; split <;> omega)
      obtain ⟨z, hz, _, hwf⟩ := DataW.trod_int Try.underlying5 h2
      simp at hz
      have hz' : 0 ≤ z ∧ z ≤ 255 := by simpa [Lit.wf, IntKind.min, IntKind.max, IntKind.signed, IntKind.bits] using hwf
      refine ⟨UInt8.ofNat z.toNat, ?_⟩
      rw [h1, hz]
      unfold bv
      congr 2
      simp; omega)
    subst hb
    refine ⟨some a, cap, b, rfl, some a, cap, rfl, (fun h => by cases h), hl, fun hne => ?_⟩
    have hpos : 0 < b.length := by cases b with | nil => simp at hne | cons _ _ => simp
    have h0 := hp 0 hpos
    rw [show a.add 0 = a from by simp [Addr.add]] at h0
    obtain ⟨g, o, arr, t, f, rfl, hbk, _⟩ := cell_parts h0
    refine ⟨g, o, arr, t, f, rfl, lt_of_blk hbk, trivial, hbk, fun i u hu => ?_⟩
    rw [List.getElem?_map] at hu
    by_cases hi : i < b.length
    · rw [List.getElem?_eq_getElem hi] at hu
      have h1 := hp i hi
      rw [add_none] at h1
      obtain ⟨g', o', arr', t', f', e, hbk', hv'⟩ := cell_parts h1
      cases e
      rw [hbk] at hbk'; cases hbk'
      rw [hv']; exact hu
    · rw [List.getElem?_eq_none (by omega)] at hu; cases hu
end

theorem own : ownKnob Try.prog.godebug = none := by kernel_rfl
theorem laidOut : laidOutB Try.prog = true := by kernel_rfl

section
variable {H : Type} {enc : TypeId × Value → H} {w : World} {base : Nat} {spare : Nat → Bool} {held : Bool}
theorem open_script {n : Nat} {v : Value} {y : DataW H × List MemPlace} (h : DataW.trod enc Try.prog w base spare held n 22 [v] = some y) :
    ∃ (a : Option Addr) (cap : Nat) (os : List OpC), v = .slice a os.length cap ∧ IsScript w v os := by
  rcases open_slice_fields Try.underlying22 Try.underlying33 (by kernel_rfl) (by kernel_rfl) 5 rfl h with h0 | ⟨a, len, cap, hcs, hl, hi⟩
  · simp at h0; subst h0
    exact ⟨none, 0, [], rfl, none, 0, rfl, fun k hk => by simp at hk⟩
  · simp at hcs; subst hcs
    obtain ⟨os, ho, hp⟩ := list_of (n := len) (p := fun k (o : OpC) => ∃ g off arr t f ba bc, OpAt w (some a) k o g off arr t f ba bc) (fun k hk => by
      obtain ⟨n0, h0⟩ := hi 0 (by omega)
      obtain ⟨v0, _, z0, _⟩ := h0 0 _ rfl
      rw [show a.add (0 * 5 + 0) = a from by simp [Addr.add]] at z0
      obtain ⟨g, off, arr, t, f, rfl, hbk, _⟩ := cell_parts z0
      obtain ⟨n1, h1⟩ := hi k hk
      have hcell : ∀ (j : Nat) (u : Value), w.cell? ((⟨g, off, none⟩ : Addr).add (k * 5 + j)) = some u → arr[off + k * 5 + j]? = some u := by
        intro j u hu
        rw [add_none] at hu
        obtain ⟨g', o', arr', t', f', e, hbk', hv'⟩ := cell_parts hu
        cases e
        rw [hbk] at hbk'; cases hbk'
        rw [Nat.add_assoc]; exact hv'
      obtain ⟨v0, y0, c0, t0⟩ := h1 0 _ rfl
      obtain ⟨v1, y1, c1, t1⟩ := h1 1 _ rfl
      obtain ⟨v2, y2, c2, t2⟩ := h1 2 _ rfl
      obtain ⟨v3, y3, c3, t3⟩ := h1 3 _ rfl
      obtain ⟨v4, y4, c4, t4⟩ := h1 4 _ rfl
      obtain ⟨kd, e0, _, _⟩ := DataW.trod_int Try.underlying3 t0
      obtain ⟨nn, e1, _, w1⟩ := DataW.trod_int Try.underlying3 t1
      obtain ⟨nm, e2, _, z2⟩ := DataW.trod_string Try.underlying9 t2
      obtain ⟨tg, e3, _, _⟩ := DataW.trod_string Try.underlying9 t3
      obtain ⟨ba, bc, b, rfl, hb⟩ := open_b t4
      simp at e0 e1 e2 e3
      subst e0; subst e1; subst e2; subst e3
      have w1' : -9223372036854775808 ≤ nn ∧ nn ≤ 9223372036854775807 := by simpa [Lit.wf, IntKind.min, IntKind.max, IntKind.signed, IntKind.bits] using w1
      exact ⟨⟨kd, nn, nm, tg, b⟩, g, off, arr, t, f, ba, bc, rfl, hbk, hcell 0 _ c0, hcell 1 _ c1, hcell 2 _ c2, hcell 3 _ c3, hcell 4 _ c4, hb, z2, w1'.2⟩)
    subst ho
    exact ⟨some a, cap, os, rfl, some a, cap, rfl, hp⟩
end

section
variable {H : Type} {enc : TypeId × Value → H} {P : Program}
theorem post_of_below {f : Func} {s : ChangeSpec} {apart fresh handsOn again : Bool} {W W' : World} {args : Array Value} {v : Value} {ds gs : List (DataW H)} {before pa pv : List MemPlace}
    (hW : DataW.Whole enc P f.params.toList s.vars apart W args.toList ds gs before)
    (hres : ∀ (b : Nat) (sp : Nat → Bool) (hd : Bool), DataW.TrodAll enc P W' b sp hd f.resultTypes.toList (v.resultList f.resultTypes.size) (s.fn H (ds ++ gs)).results [])
    (hargs : ∀ sp : Nat → Bool, (∀ p ∈ before, sp p.block = true) → DataW.TrodAll enc P W' 0 sp true f.params.toList args.toList (s.fn H (ds ++ gs)).args pa)
    (hvars : ∀ sp : Nat → Bool, (∀ p ∈ before, sp p.block = true) → DataW.TrodVars enc P W' sp s.vars (s.fn H (ds ++ gs)).vars pv)
    (hps : before = pa ++ pv) (hb : Below W.heap.size W W')
    (hok : ∀ (j : Nat) (t : TypeId) (r : Value), f.resultTypes[j]? = some t → (v.resultList f.resultTypes.size)[j]? = some r → Value.okWide P W' .any 0 t r) :
    s.post enc P f apart fresh handsOn again W args v W' := by
  have hlt : ∀ p ∈ before, p.block < W.heap.size := fun p hp => hW.lt p hp
  have hold : ∀ p ∈ before, (fun b => decide (b < W.heap.size)) p.block = true := fun p hp => by simpa using hlt p hp
  refine ⟨ds, gs, before, [], pa, pv, hW, hres _ _ _, hargs _ hold, hvars _ hold, World.keptBut_mono (fun p hp => ⟨hp, ?_⟩) (hb.frame (· ∈ before)), fun _ => ?_⟩
  · rw [hps, List.mem_append] at hp
    exact Or.inr hp
  · obtain ⟨_, _, _, _, _, hz, hn⟩ := hW
    refine ⟨hok, _, _, ([] ++ pa) ++ pv, ⟨[] ++ pa, pv, trodAll_append (hargs _ (fun _ _ => rfl)) (hres _ _ _), hvars _ (fun _ _ => rfl), rfl, ?_, ?_⟩, ?_⟩
    · intro b off hp
      have hin : MemPlace.cell b off ∈ before := by rw [hps]; simpa using hp
      rw [hb.frozen (hlt _ hin)]
      exact hz b off hin
    · intro ha
      have := hn ha
      rw [hps] at this
      simpa using this
    · intro p hp _
      rw [hps]
      simpa using hp
end

set_option maxRecDepth 100000 in
theorem storePlays_lifted (os : Os) (started : os.Started) (H : Type) (enc : TypeId × Value → H) :
    ReturnsInHanded {} Try.checked os 3 .any (Rows.storePlaysSpec.pre6 enc Try.prog Try.f3 Rows.storePlaysRow.domain false) (Rows.storePlaysSpec.post enc Try.prog Try.f3 false true false false) := by
  refine returnsInHanded_of_change (C := Try.checked) own started (by kernel_rfl) Try.func3
    (ChangeSpec.witness6 (enc := enc) (C := Try.checked) false ⟨#[], #[.slice none 0 0], []⟩ 8 (by kernel_rfl) (by kernel_rfl) (by kernel_rfl) (by kernel_rfl)) ?_
  intro W base args ds gs before hval0 hW hcnd _
  have hW' := hW
  obtain ⟨p, q, hA0, hV, rfl, hfz, hnd⟩ := hW
  have hA : DataW.TrodAll enc Try.prog W 0 (fun _ => true) true Try.f3.params.toList args.toList ds p := hA0
  have hval : ∀ (j : Nat) t v, Try.f3.params[j]? = some t → args[j]? = some v → Value.okWide Try.prog W .any base t v := hval0
  rw [Try.params3] at hA hval
  obtain ⟨v0, vs0, d0, ds0, p0, q0, hargs, rfl, rfl, h0, r0⟩ := trodAll_cons hA
  obtain ⟨rfl, rfl, rfl⟩ := trodAll_nil r0
  obtain rfl : args = #[v0] := by cases args; simp_all
  obtain ⟨rfl, rfl⟩ := trodVars_none hV
  simp only [List.append_nil] at hW'
  have hlt : ∀ x ∈ p0, x.block < W.heap.size := fun x hx => by simpa using hW'.lt x hx
  obtain ⟨a0, len, cap, rfl⟩ := okWide_slice Try.underlying22 (hval 0 22 v0 rfl rfl)
  have h0k := h0
  obtain ⟨fuel, hf⟩ := h0
  obtain ⟨a, cap', os', he, hS⟩ := open_script (v := .slice a0 len cap) hf
  cases he
  refine (play_any W _ _ os' hS).mono fun e W' ⟨he, hU⟩ => ?_
  subst he
  exact ⟨_, rfl, post_of_below (pa := p0) (pv := []) hW' (fun _ _ _ => trodAll_mk1 (shut_bool Try.underlying4 _)) (fun sp hsp => trodAll_mk1 (WideElems.Trod_stays laidOut (by kernel_rfl) (of_decide_eq_true (by kernel_rfl)) h0k (fun x hx => hU.below.same (hlt x hx)) (fun x hx => hsp x (by simpa using hx)))) (fun _ _ => rfl) (by simp) hU.below (ok_one (by kernel_rfl) rfl (okWide_bool_mk Try.underlying4 _))⟩

theorem storePlays_holds : Rows.StorePlaysSaid :=
  OpenClaim.holds_of_wide 3 Try.f3 rfl rfl rfl rfl rfl rfl rfl ⟨rfl, rfl, rfl, rfl, rfl⟩ rfl rfl rfl rfl rfl (by kernel_rfl) Try.func3 (by kernel_rfl)
    (of_decide_eq_true (by kernel_rfl)) (by unfold Func.isWrapper; first | (rw [if_pos (by decide +kernel)]; kernel_rfl) | (rw [if_neg (by decide +kernel)]; exact ⟨rfl, rfl⟩))
    (fun os started H enc _ => storePlays_lifted os started H enc)

#print axioms storePlays_holds
end Go.Proofs.Ytajmaebofhkjjaa
