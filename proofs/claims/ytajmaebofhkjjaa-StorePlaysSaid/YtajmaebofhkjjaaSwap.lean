import Derived.Test.YtajmaebofhkjjaaRep
namespace Go.Proofs.Ytajmaebofhkjjaa
open Go.RowKit Go.Proofs.Dm Go.MapKept
attribute [local go_sem ↓] Go.wp_at_zero Go.wp_at_succ

theorem chain {w w1 w2 : World} {F : Nat → Prop} {B : Nat} {st : St} (hU : Upd F w w1) (hK : KeepB w w1) (h1 : IsStore w2 (Plus (Plus F w w1) w1 w2) B st) (h2 : Upd (Plus F w w1) w1 w2) (h3 : KeepB w1 w2) :
    IsStore w2 (Plus F w w2) B st ∧ Upd F w w2 ∧ KeepB w w2 :=
  ⟨h1.kept (fun g _ h => h.elim (fun h => h.imp id (fun h => ⟨h.1, Nat.lt_of_lt_of_le h.2 h2.size⟩)) (fun h => .inr ⟨Nat.le_trans hU.size h.1, h.2⟩)) (fun _ _ _ => rfl),
    hU.trans h2 (fun i hi h => h.elim id (fun h => by omega)), hK.trans h3 hU.size⟩

def St.has (st : St) (name : ByteArray) : Bool := (kvGet st.shows name).isSome
def St.show (st : St) (name : ByteArray) : List UInt8 := (kvGet st.shows name).getD []
def St.swap (st : St) (a b : ByteArray) : St := if st.has a && st.has b then (st.set a (some (st.show b))).set b (some (st.show a)) else st

theorem has_any' (w : World) (F : Nat → Prop) (B : Nat) (st : St) (hS : IsStore w F B st) (name : ByteArray) (q : Bool) (hq : st.has name = q) :
    Calls Try.prog 29 #[.pointer (some ⟨B, 0, none⟩), .string name] w fun e w' => e = .returned (.bool q) ∧ w = w' := hq ▸ has_any w F B st hS name

set_option maxRecDepth 100000 in
set_option maxHeartbeats 1000000 in
theorem swap_any (w : World) (F : Nat → Prop) (B : Nat) (st : St) (hS : IsStore w F B st) (a b : ByteArray) (hn : st.chs.length + 1 < 1048576 * 1048576) :
    Calls Try.prog 8 #[.pointer (some ⟨B, 0, none⟩), .string a, .string b] w (StPost w F B (st.has a && st.has b) (st.swap a b)) := by
  cases ha : st.has a with
  | false =>
    have hp : st.swap a b = st := by simp [St.swap, ha]
    rw [hp]
    have HA := has_any' w F B st hS a _ ha
    have HH := Lib.hid HA
    have HS := Lib.hid hS
    clear HA ha hp hS
    go_enter Try.func8, Try.ntmps8
    go_wp2_with (go_at_call 29; refine HH.out.mono ?_; rintro e w1 ⟨rfl, rfl⟩)
    go_ret
    exact StPost.same HS.out
  | true =>
    cases hb : st.has b with
    | false =>
      have hp : st.swap a b = st := by simp [St.swap, hb]
      rw [hp]
      have HA := Lib.hid (has_any' w F B st hS a _ ha)
      have HB := Lib.hid (has_any' w F B st hS b _ hb)
      have HS := Lib.hid hS
      clear ha hb hp hS
      go_enter Try.func8, Try.ntmps8
      go_wp2_with fail
      refine HA.out.mono ?_
      rintro e w1 ⟨rfl, rfl⟩
      go_wp2_with fail
      refine HB.out.mono ?_
      rintro e w1 ⟨rfl, rfl⟩
      go_wp2_with fail
      go_ret
      exact StPost.same HS.out
    | true =>
      have hp : st.swap a b = (st.set a (some (st.show b))).set b (some (st.show a)) := by simp [St.swap, ha, hb]
      rw [hp]
      have HA := Lib.hid (has_any' w F B st hS a _ ha)
      have HB := Lib.hid (has_any' w F B st hS b _ hb)
      have HS := Lib.hid hS
      obtain ⟨m1, m2, ca, cc, pa, pc, k1, k2, xs, P0⟩ := hS
      obtain ⟨wa, wl, wc, hw1, hwb, hw2⟩ := getD_b P0.rel1 a
      obtain ⟨va, vl, vc, hv1, hvb, hv2⟩ := getD_b P0.rel1 b
      change IsB w F tB _ (st.show a) at hwb
      change IsB w F tB _ (st.show b) at hvb
      have hc0 := cell_blk P0.blk 0 _ rfl
      have hm := P0.map1
      have hlk1 : (Instr.lookup 44 (.map (some m1)) (.string a) false).run Try.prog w.drew = .ok (.slice wa wl wc) w.drew := by
        rw [lookup1_str Try.underlying44 Try.underlying9 zero_b (hm.kept (w' := w.drew) rfl) a, hw1]
      have hlk2 : (Instr.lookup 44 (.map (some m1)) (.string b) false).run Try.prog w.drew = .ok (.slice va vl vc) w.drew := by
        rw [lookup1_str Try.underlying44 Try.underlying9 zero_b (hm.kept (w' := w.drew) rfl) b, hv1]
      have HWB := Lib.hid hwb
      have HVB := Lib.hid hvb
      generalize st.show a = xa at *
      generalize st.show b = xb at *
      have HN := Lib.hid hn
      clear ha hb hp P0 hw1 hw2 hv1 hv2 hwb hvb hm hn
      go_enter Try.func8, Try.ntmps8
      go_wp2_with fail
      refine HA.out.mono ?_
      rintro e w1 ⟨rfl, rfl⟩
      go_wp2_with fail
      refine HB.out.mono ?_
      rintro e w1 ⟨rfl, rfl⟩
      go_wp2_with fail
      go_region_held3 (fun w' => w'.cell? ⟨B, 0, none⟩ = some (.map (some m1)) ∧ (Instr.lookup 44 (.map (some m1)) (.string a) false).run Try.prog w' = .ok (.slice wa wl wc) w' ∧ (Instr.lookup 44 (.map (some m1)) (.string b) false).run Try.prog w' = .ok (.slice va vl vc) w')
        (first | go_keep | exact ⟨hc0, hlk1, hlk2⟩) (fail)
      go_wp2_with fail
      all_goals
        refine (set_any _ F B st (HS.out.kept (w' := w.drew) (fun _ _ h => h) (fun _ _ _ => rfl)) a va vl vc xb true (IsRow.kept HVB.out (fun _ _ h => h) (fun _ _ _ _ => rfl)) (by have := HN.out; omega)).mono ?_
        rintro e w1 ⟨rfl, hS1, hU1, hK1⟩
        have HS1 := Lib.hid hS1
        have HU1 := Lib.hid hU1
        have HK1 := Lib.hid hK1
        clear hS1 hU1 hK1
        go_wp2_with fail
        refine (set_any _ _ B _ HS1.out b wa wl wc xa true (HK1.out.isB (IsRow.kept (w' := w.drew) HWB.out (fun _ _ h => h) (fun _ _ _ _ => rfl)) (fun _ _ h => .inl h)) (by have := HN.out; simp [St.set]; omega)).mono ?_
        rintro e w2 ⟨rfl, hS2, hU2, hK2⟩
        go_wp2_with fail
        go_ret
        exact ⟨rfl, chain (w := w) ((Upd.refl F w).drew.trans HU1.out (fun _ _ h => h)) HK1.out hS2 hU2 hK2⟩
end Go.Proofs.Ytajmaebofhkjjaa
