import Derived.Test.YtajmaebofhkjjaaSim2
import Derived.Test.YtajmaebofhkjjaaGet
import Derived.Test.YtajmaebofhkjjaaRep
import Derived.Test.YtajmaebofhkjjaaFlip
import Derived.Test.YtajmaebofhkjjaaSwap
namespace Go.Proofs.Ytajmaebofhkjjaa
open Go.RowKit Go.Proofs.Dm Go.MapKept

theorem rsh_cases {L : List RC} (h : Rises L) (x : ByteArray) : (∃ k c, rsh L x = some k ∧ L[k]? = some c ∧ c.name = x ∧ c.shows = true ∧ showOf L x = some c.b) ∨ (rsh L x = none ∧ showOf L x = none) := by
  rcases rat_cell h x with ⟨h1, h2, c, h3, h4⟩ | ⟨h1, h2⟩
  · rw [h3] at h2
    cases hs : c.shows with
    | true => left; exact ⟨ratK L x, c, by simp [rsh, h1, h2, hs], h2, h4, hs, by simp [showOf, h3, hs]⟩
    | false => right; exact ⟨by simp [rsh, h1, h2, hs], by simp [showOf, h3, hs]⟩
  · right; exact ⟨by simp [rsh, h1], by simp [showOf, h2]⟩

theorem rget_show {L : List RC} (h : Rises L) (x : ByteArray) : rget L x = showOf L x := by
  rcases rsh_cases h x with ⟨k, c, h1, h2, _, _, h5⟩ | ⟨h1, h2⟩
  · rw [h5]; simp [rget, h1, h2]
  · rw [h2]; simp [rget, h1]

theorem Sim.get {st : St} {rs : RSt} (h : Sim st rs) (x : ByteArray) : kvGet st.shows x = rget rs.L x := (h.shows x).trans (rget_show h.rises x).symm

theorem Sim.vers' {st : St} {rs : RSt} (h : Sim st rs) (x : ByteArray) : (kvGet st.vers x).getD [] = rverl rs.L x := by
  rw [h.vers x]
  rcases rat_cell h.rises x with ⟨h1, h2, c, h3, _⟩ | ⟨h1, h2⟩
  · rw [h3] at h2; simp [rverl, h1, h2, h3]
  · simp [rverl, h1, h2]

/-- A name that shows is taken away. -/
theorem Sim.del {st : St} {rs : RSt} (h : Sim st rs) (x : ByteArray) : (kvGet st.shows x).isSome = (rsh rs.L x).isSome ∧ (rsh rs.L x ≠ none → Sim (st.set x none) { rs with L := rdel rs.L x }) ∧ (rsh rs.L x = none → rdel rs.L x = rs.L) := by
  rcases rsh_cases h.rises x with ⟨k, c, h1, h2, h3, h4, h5⟩ | ⟨h1, h2⟩
  · refine ⟨by rw [h.shows x, h5, h1]; rfl, fun _ => ?_, fun e => by rw [h1] at e; cases e⟩
    have := h.set h2 false []
    have hd : rdel rs.L x = rs.L.set k { c with shows := false, b := [] } := by simp [rdel, h1, h2]
    rw [hd]
    subst h3
    exact this
  · exact ⟨by rw [h.shows x, h2, h1]; rfl, fun e => absurd h1 e, fun _ => by simp [rdel, h1]⟩

theorem Sim.rep {st : St} {rs : RSt} (h : Sim st rs) (x : ByteArray) (n : Int) : st.canReplay x n = rcanRep rs.L x n ∧ Sim (st.replay x n) { rs with L := rrep rs.L x n } := by
  have hv : st.verl x = rverl rs.L x := h.vers' x
  rcases rat_cell h.rises x with ⟨h1, h2, c, h3, h4⟩ | ⟨h1, h2⟩
  · rw [h3] at h2
    have hr : rverl rs.L x = c.all := by simp [rverl, h1, h2]
    have hc : st.canReplay x n = rcanRep rs.L x n := by simp [St.canReplay, rcanRep, hv, h1]
    refine ⟨hc, ?_⟩
    unfold St.replay rrep
    rw [hc]
    by_cases hq : rcanRep rs.L x n = true
    · rw [if_pos hq, if_pos hq, h2, hv, hr]
      have := h.set h2 true (c.all.getD n.toNat [])
      subst h4
      exact this
    · rw [if_neg hq, if_neg hq]; exact h
  · have hr : rverl rs.L x = [] := by simp [rverl, h1]
    have hc1 : st.canReplay x n = false := by simp [St.canReplay, hv, hr]
    have hc2 : rcanRep rs.L x n = false := by simp [rcanRep, h1]
    refine ⟨by rw [hc1, hc2], ?_⟩
    unfold St.replay rrep
    rw [hc1, hc2]
    exact h

theorem Sim.flip {st : St} {rs : RSt} (h : Sim st rs) (x : ByteArray) (n : Int) : st.canFlip x n = rcanFlip rs.L x n ∧ Sim (st.flip x n) { rs with L := rflip rs.L x n } := by
  have hg := h.get x
  rcases rsh_cases h.rises x with ⟨k, c, h1, h2, h3, h4, h5⟩ | ⟨h1, h2⟩
  · rw [rget_show h.rises, h5] at hg
    have hr : rget rs.L x = some c.b := by rw [rget_show h.rises, h5]
    have hc : st.canFlip x n = rcanFlip rs.L x n := by simp [St.canFlip, rcanFlip, St.has, St.show, hg, hr]
    refine ⟨hc, ?_⟩
    unfold St.flip rflip
    rw [hc]
    by_cases hq : rcanFlip rs.L x n = true
    · rw [if_pos hq, if_pos hq, h1]
      simp only [h2, St.show, hg, Option.getD_some]
      have := h.set h2 true (flipped c.b n.toNat)
      rw [if_pos rfl, h4.symm] at this
      subst h3
      exact this
    · rw [if_neg hq, if_neg hq]; exact h
  · rw [rget_show h.rises, h2] at hg
    have hr : rget rs.L x = none := by rw [rget_show h.rises, h2]
    have hc1 : st.canFlip x n = false := by simp [St.canFlip, St.has, hg]
    have hc2 : rcanFlip rs.L x n = false := by simp [rcanFlip, hr]
    refine ⟨by rw [hc1, hc2], ?_⟩
    unfold St.flip rflip
    rw [hc1, hc2]
    exact h

theorem set_same {L : List RC} {k : Nat} {c : RC} (hk : L[k]? = some c) : L.set k c = L := by
  apply List.ext_getElem?
  intro i
  rw [List.getElem?_set]
  by_cases e : k = i
  · subst e
    obtain ⟨hlt, hc⟩ := List.getElem?_eq_some_iff.1 hk
    rw [if_pos rfl, if_pos hlt, hk]
  · rw [if_neg e]

theorem Sim.swap {st : St} {rs : RSt} (h : Sim st rs) (a b : ByteArray) : (st.has a && st.has b) = ((rsh rs.L a).isSome && (rsh rs.L b).isSome) ∧ Sim (st.swap a b) { rs with L := rswap rs.L a b } := by
  have ha := h.del a
  have hb := h.del b
  refine ⟨by unfold St.has; rw [ha.1, hb.1], ?_⟩
  unfold St.swap rswap
  rw [show (st.has a && st.has b) = ((rsh rs.L a).isSome && (rsh rs.L b).isSome) by unfold St.has; rw [ha.1, hb.1]]
  rcases rsh_cases h.rises a with ⟨i, c, h1, h2, h3, h4, h5⟩ | ⟨h1, h2⟩
  · rcases rsh_cases h.rises b with ⟨k, d, g1, g2, g3, g4, g5⟩ | ⟨g1, g2⟩
    · rw [h1, g1]
      have ga := (h.get a).trans (rget_show h.rises a); rw [h5] at ga
      have gb := (h.get b).trans (rget_show h.rises b); rw [g5] at gb
      simp only [Option.isSome_some, Bool.and_self, if_true, St.show, ga, gb, Option.getD_some, h2, g2]
      have s1 := h.set h2 true d.b
      rw [if_pos rfl] at s1
      by_cases hik : i = k
      · subst hik
        rw [h2] at g2; cases g2
        rw [if_pos rfl]
        have e1 : ({ c with shows := true, b := c.b } : RC) = c := by cases c; simp at h4; simp [h4]
        rw [e1, set_same h2] at s1
        have s2 := s1.set h2 true c.b
        rw [if_pos rfl, e1, set_same h2] at s2
        subst h3; subst g3
        exact s2
      · rw [if_neg hik]
        have hk' : (rs.L.set i { c with shows := true, b := d.b })[k]? = some d := by rw [List.getElem?_set_ne hik]; exact g2
        have s2 := s1.set hk' true c.b
        rw [if_pos rfl] at s2
        rw [h4.symm] at s2
        have e2 : ({ d with shows := c.shows, b := c.b } : RC) = { d with b := c.b } := by cases d; simp at g4; simp [g4, h4]
        rw [e2] at s2
        subst h3; subst g3
        exact s2
    · rw [g1]; simp; exact h
  · rw [h1]; simp; exact h
end Go.Proofs.Ytajmaebofhkjjaa
