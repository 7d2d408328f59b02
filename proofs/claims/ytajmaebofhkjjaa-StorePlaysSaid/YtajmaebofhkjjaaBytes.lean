import Derived.Test.YtajmaebofhkjjaaChecked
import Derived.Test.YtajmaebofhkjjaaBase
import Derived.Lib.AppendZeros
import Derived.WalkSpells
namespace Go.Proofs.Ytajmaebofhkjjaa
open Go.RowKit Go.Proofs.Dm Go.MapKept

theorem info_u8 : (Try.prog.info? 5).map (fun i => (i.zero, i.size, i.bytes)) = some (some (.int .u8 0), 1, 1) := by kernel_rfl

/-- Bytes of the call's own, in a block laid since w. -/
def FreshB (w w' : World) (a : Option Addr) (c : Nat) (b : List UInt8) : Prop :=
  w'.ownsRow 0 5 1 (.slice a b.length c) b.length (b.map bv) ∧ ∀ g, a.map (·.block) = some g → w.heap.size ≤ g ∧ g < w'.heap.size

theorem FreshB.isB {w w' : World} {a : Option Addr} {c : Nat} {b : List UInt8} (h : FreshB w w' a c b) (T : TypeId → Prop) (hT : T 5) : IsB w' (fun g => w.heap.size ≤ g ∧ g < w'.heap.size) T (.slice a b.length c) b :=
  ownsRow_row h.1 _ h.2 T hT

def CopyPost (w : World) (b : List UInt8) (e : Ending) (w' : World) : Prop :=
  ∃ a c, e = .returned (.slice a b.length c) ∧ FreshB w w' a c b ∧ Upd (fun _ => False) w w'

theorem bv_one (b : List UInt8) : ∀ u ∈ b.map bv, u.oneCell' = true := by
  intro u hu
  obtain ⟨x, _, rfl⟩ := List.mem_map.1 hu
  rfl

theorem copied {w w1 w' : World} {a : Option Addr} {c : Nat} {b : List UInt8} {sa : Option Addr} (h : w'.ownsRow 0 5 1 (.slice a (0 + b.length) c) (0 + b.length) ([] ++ b.map bv)) (hu : Upd (fun _ => False) w w1) (hg : w1.grownBy w' (sa.map (·.block)))
    (hs : ∀ g, sa.map (·.block) = some g → w.heap.size ≤ g) (hat : ∀ g, a.map (·.block) = some g → (sa.map (·.block) = some g ∨ w1.heap.size ≤ g) ∧ g < w'.heap.size) : CopyPost w b (.returned (.slice a b.length c)) w' := by
  simp only [Nat.zero_add, List.nil_append] at h
  refine ⟨a, c, rfl, ⟨h, fun g hg' => ⟨(hat g hg').1.elim (hs g) (fun h => Nat.le_trans hu.size h), (hat g hg').2⟩⟩, hu.grown hg (fun k hk e => ?_)⟩
  have := hs k e
  omega

set_option maxRecDepth 100000 in
set_option maxHeartbeats 400000 in
theorem copyBytes_any (w : World) (F : Nat → Prop) (T : TypeId → Prop) (a : Option Addr) (n c : Nat) (b : List UInt8) (hb : IsB w F T (.slice a n c) b) (hl : b.length ≤ 140737488355328) :
    Calls Try.prog 35 #[.slice a n c] w (CopyPost w b) := by
  obtain ⟨i0, hi, hz0, hz1, hz2⟩ := info_parts info_u8
  obtain rfl : n = b.length := by obtain ⟨_, _, h, _⟩ := hb; cases h; rfl
  go_enter Try.func35, Try.ntmps35
  go_wp2_with (at_builtin; refine wpList_appendN rfl _ _ 31 rfl 5 i0 _ 1 1 Try.underlying31 hi hz0 hz1 hz2 rfl (by decide) none 0 0 [] rfl (World.ownsRow_nil _ _ _ _) a b.length c (b.map bv) rfl F T hb (by simp) (bv_one b) (by omega) (by omega) ?_; intro a' c' w1 hown hgrow hat hnil)
  go_ret
  exact copied hown (Upd.refl _ w) hgrow (fun g hg => by simp at hg) hat

set_option maxRecDepth 100000 in
set_option maxHeartbeats 400000 in
theorem clone_any (w : World) (F : Nat → Prop) (T : TypeId → Prop) (a : Option Addr) (n c : Nat) (b : List UInt8) (hb : IsB w F T (.slice a n c) b) (hl : b.length ≤ 140737488355328) :
    Calls Try.prog 34 #[.slice a n c] w (CopyPost w b) := by
  obtain ⟨i0, hi, hz0, hz1, hz2⟩ := info_parts info_u8
  have qnil : ∀ (w : World) (a : Option Addr) (n c n' c' : Nat), (binOp .eql 31 (.slice a n c) (.slice none n' c')).run Try.prog w = .ok (.bool a.isNone) w := fun w a n c n' c' => Lib.run_eql_slice_nil w _ _ a n c n' c' Try.underlying31
  obtain ⟨rfl, hnil0⟩ : n = b.length ∧ (a = none → c = 0 ∧ n = 0) := by obtain ⟨_, _, h, h2, _⟩ := hb; cases h; exact ⟨rfl, h2⟩
  cases a with
  | none =>
    obtain ⟨rfl, hn⟩ := hnil0 rfl
    obtain rfl : b = [] := List.eq_nil_of_length_eq_zero hn
    clear hn hnil0
    go_enter Try.func34, Try.ntmps34
    go_wp2
    go_ret
    exact ⟨none, 0, rfl, ⟨World.ownsRow_nil _ _ _ _, fun g hg => by simp at hg⟩, Upd.refl _ _⟩
  | some ad =>
    clear hnil0
    go_enter Try.func34, Try.ntmps34
    have hrow := World.ownsRow_made (base := 0) (e := 5) (size := 1) w #[] 0 (Nat.zero_le _) (by unfold maxLen; omega) rfl
    have hb' : IsB (w.alloc (.cells #[] 5)) F T (.slice (some ad) b.length c) b := IsRow.kept hb (fun _ _ h => h) (fun g hg _ _ => Below.heap_alloc _ _ _ hg)
    have HR := Lib.hid hrow
    have HB' := Lib.hid hb'
    clear hrow hb' hb
    go_wp2_with (at_builtin; refine wpList_appendN rfl _ _ 31 rfl 5 i0 _ 1 1 Try.underlying31 hi hz0 hz1 hz2 rfl (by decide) _ 0 0 [] rfl HR.out (some ad) b.length c (b.map bv) rfl F T HB'.out (by simp) (bv_one b) (by omega) (by omega) ?_; intro a' c' w1 hown hgrow hat hnil)
    go_ret
    exact copied hown ((Upd.refl _ w).alloc _) hgrow (fun g hg => by simp at hg; omega) hat

set_option maxRecDepth 100000 in
set_option maxHeartbeats 400000 in
theorem grow_nil (w : World) (n : Nat) (hn : n ≤ 1048576 * 1048576) :
    Calls Try.prog 56 #[.slice none 0 0, .int .i64 n] w (fun e w' => ∃ a c, e = .returned (.slice a 0 c) ∧ FreshB w w' a c [] ∧ Upd (fun _ => False) w w') := by
  obtain ⟨i0, hi, hz0, hz1, hz2⟩ := info_parts info_u8
  rcases Nat.eq_zero_or_pos n with rfl | hpos
  · go_enter Try.func56, Try.ntmps56
    go_wp2
    go_ret
    exact ⟨none, 0, rfl, ⟨World.ownsRow_nil _ _ _ _, fun g hg => by simp at hg⟩, Upd.refl _ _⟩
  · have h0 : (0 : Int) < n := by omega
    have h1 : ¬ (n : Int) < 0 := by omega
    have hgc : n ≤ grownCap w n 0 5 := grownCap_ge w n 0 _
    have hgm : grownCap w n 0 5 ≤ maxLen := grownCap_le_maxLen w n 0 _ (by unfold maxLen; omega)
    generalize hG : grownCap w n 0 5 = G at hgc hgm
    have HG := Lib.hid hG
    clear hG
    go_enter Try.func56, Try.ntmps56
    go_wp2_with (at_builtin; refine Lib.wpList_append_run w rfl _ _ 31 3 rfl _ _ rfl rfl _ _ (Lib.run_append_nil_zeros w _ _ _ _ i0 _ .i64 .i64 Try.underlying31 Try.underlying3 hi hz0 n hpos (by rw [hz1]; decide) (by omega) (by rw [hz2]; omega)) ?_; rw [HG.out])
    go_ret
    refine ⟨_, _, rfl, ⟨?_, fun g hg => ?_⟩, ((Upd.refl _ w).drew).alloc _⟩
    · refine ⟨rfl, .inr ⟨w.heap.size, G, _, rfl, Nat.zero_le _, heap_alloc_new w.drew _, Nat.zero_le _, hgm, ?_, rfl⟩⟩
      simp [size_zeroCells]; omega
    · simp at hg; subst hg; exact ⟨Nat.le_refl _, by simp⟩
end Go.Proofs.Ytajmaebofhkjjaa
