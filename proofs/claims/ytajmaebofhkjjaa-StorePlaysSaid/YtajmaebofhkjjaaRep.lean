import Derived.Test.YtajmaebofhkjjaaGet
namespace Go.Proofs.Ytajmaebofhkjjaa
open Go.RowKit Go.Proofs.Dm Go.MapKept

def St.verl (st : St) (name : ByteArray) : List (List UInt8) := (kvGet st.vers name).getD []
def St.canReplay (st : St) (name : ByteArray) (n : Int) : Bool := decide (0 ≤ n) && decide (n < (st.verl name).length)
def St.replay (st : St) (name : ByteArray) (n : Int) : St := if st.canReplay name n then st.set name (some ((st.verl name).getD n.toNat [])) else st

def StPost (w : World) (F : Nat → Prop) (B : Nat) (r : Bool) (st : St) (e : Ending) (w' : World) : Prop :=
  e = .returned (.bool r) ∧ IsStore w' (Plus F w w') B st ∧ Upd F w w' ∧ KeepB w w'

theorem StPost.same {w : World} {F : Nat → Prop} {B : Nat} {r : Bool} {st : St} (h : IsStore w F B st) : StPost w F B r st (.returned (.bool r)) w :=
  ⟨rfl, h.kept (fun _ _ h => .inl h) (fun _ _ _ => rfl), Upd.refl _ _, KeepB.refl _⟩

set_option maxRecDepth 100000 in
set_option maxHeartbeats 400000 in
theorem replay_any (w : World) (F : Nat → Prop) (B : Nat) (st : St) (hS : IsStore w F B st) (name : ByteArray) (n : Int) (hn : st.chs.length < 1048576 * 1048576) :
    Calls Try.prog 6 #[.pointer (some ⟨B, 0, none⟩), .string name, .int .i64 n] w (StPost w F B (st.canReplay name n) (st.replay name n)) := by
  have hh := versions_any w F B st hS name
  change Calls Try.prog 25 _ w (fun e w' => e = .returned (.int .i64 ((st.verl name).length : Nat)) ∧ w = w') at hh
  generalize hL : (st.verl name).length = L at hh
  have HS := Lib.hid hS
  have HH := Lib.hid hh
  have HL := Lib.hid hL
  clear hh hL
  rcases Int.lt_or_le n 0 with h0 | h0
  · have hc : st.canReplay name n = false := by simp [St.canReplay]; omega
    have hp : st.replay name n = st := by simp [St.replay, hc]
    rw [hc, hp]
    clear hc hp hS
    go_enter Try.func6, Try.ntmps6
    go_wp2_with (go_at_call 25; refine HH.out.mono ?_; rintro e w1 ⟨rfl, rfl⟩)
    go_ret
    exact StPost.same HS.out
  · obtain ⟨k, rfl⟩ := Int.eq_ofNat_of_zero_le h0
    by_cases hk : k < L
    · have hc : st.canReplay name k = true := by simp [St.canReplay, HL.out]; omega
      have hp : st.replay name k = st.set name (some ((st.verl name).getD k [])) := by simp [St.replay, hc]
      rw [hc, hp]
      clear hc hp h0
      obtain ⟨m1, m2, ca, cc, pa, pc, k1, k2, xs, P0⟩ := hS
      obtain ⟨wa, wc, hw1, hwb, hw2⟩ := getD_bb P0.rel2 name
      change _ = Value.slice wa (st.verl name).length wc at hw1
      change IsBB w F (Value.slice wa (st.verl name).length wc) (st.verl name) at hwb
      rw [HL.out] at hw1 hwb
      obtain ⟨vs, hrow, hrel⟩ := hwb
      have hkl : k < (st.verl name).length := by rw [HL.out]; exact hk
      obtain ⟨v, hv, hvb⟩ := hrel.get k (st.verl name)[k] (List.getElem?_eq_getElem hkl)
      have hgd : (st.verl name).getD k [] = (st.verl name)[k] := by simp [List.getD, List.getElem?_eq_getElem hkl]
      rw [hgd]
      obtain ⟨_, _, he, hnil, hlc, hro⟩ := hrow
      cases he
      obtain ⟨g, o, arr, t, f, rfl, hg, ht, hbk, hcs⟩ := hro (by rintro rfl; simp at hv)
      have hcell := cell_blk hbk (o + k) v (hcs k v hv)
      generalize (st.verl name)[k] = b at *
      obtain ⟨va, vc, rfl, hvb'⟩ : ∃ va vc, v = .slice va b.length vc ∧ IsB w F tB (.slice va b.length vc) b := by obtain ⟨a, c, rfl, h⟩ := hvb; exact ⟨a, c, rfl, a, c, rfl, h⟩
      have hc1 := cell_blk P0.blk 1 _ rfl
      have hm := P0.map2
      have HW1 := Lib.hid hw1
      have HVB := Lib.hid hvb'
      clear P0 hw1 hw2 hrel hv hvb hvb' hgd hkl hnil hlc hro hg ht hbk hcs
      go_enter Try.func6, Try.ntmps6
      go_wp2_with (first
        | (go_at_call 25; refine HH.out.mono ?_; rintro e w1 ⟨rfl, rfl⟩)
        | (at_lookup; refine wpList_lookup1_str rfl _ _ rfl Try.underlying45 Try.underlying9 _ zero_bb m2 k2 rfl hm name rfl ?_; rw [HW1.out])
        | (go_at_call 26; refine (set_any _ F B st HS.out name va b.length vc b true HVB.out hn).mono ?_; rintro e w1 ⟨rfl, hS1, hU, hK⟩))
      go_ret
      exact ⟨rfl, hS1, hU, hK⟩
    · have hc : st.canReplay name k = false := by simp [St.canReplay, HL.out]; omega
      have hp : st.replay name k = st := by simp [St.replay, hc]
      rw [hc, hp]
      clear hc hp hS h0
      go_enter Try.func6, Try.ntmps6
      go_wp2_with (go_at_call 25; refine HH.out.mono ?_; rintro e w1 ⟨rfl, rfl⟩)
      go_ret
      exact StPost.same HS.out
end Go.Proofs.Ytajmaebofhkjjaa
