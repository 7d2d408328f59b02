import Derived.Test.YtajmaebofhkjjaaFlip
import Derived.Shelf.SlMaps.Clone
namespace Go.Proofs.Ytajmaebofhkjjaa
open Go.RowKit Go.Proofs.Dm Go.MapKept

def MapPost (w : World) (kvs : List (ByteArray × Value)) (e : Ending) (w' : World) : Prop :=
  e = .returned (.map (some w.heap.size)) ∧ IsMap w' w.heap.size kvs ∧ Upd (fun _ => False) w w' ∧ w'.heap.size = w.heap.size + 1

set_option maxRecDepth 100000 in
set_option maxHeartbeats 2000000 in
theorem mapsClone1 (w : World) (b : Nat) (kvs : List (ByteArray × Value)) (hm : IsMap w b kvs) :
    Calls Try.prog 36 #[.map (some b)] w (MapPost w kvs) := by
  obtain ⟨es, clock, hb, h2, h3⟩ := hm
  have hq := fun w => run_eql_map_nil_sl (P := Try.prog) w 44 _ _ (some b) Try.underlying44
  have HB := Lib.hid hb
  clear hb
  go_enter Try.func36, Try.ntmps36
  go_wp2
  rw [run_callFunc_extern Try.func55 (by kernel_rfl) (by kernel_rfl) (by kernel_rfl) (e := Extern.MapsClone.clone) (by kernel_rfl), run_maps_clone_sl w 44 HB.out]
  simp only [Result.andThen]
  rw [Oper.upon_value]
  go_wp2
  rw [run_typeAssert_map_sl _ 44 20 _ _ _ Try.underlying44]
  simp only [Result.andThen]
  rw [Oper.upon_value]
  go_wp2
  go_ret
  exact ⟨rfl, ⟨es, clock, (MapKept.heap_alloc w _).1, h2, h3⟩, (Upd.refl _ w).alloc _, by simp⟩

set_option maxRecDepth 100000 in
set_option maxHeartbeats 2000000 in
theorem mapsClone2 (w : World) (b : Nat) (kvs : List (ByteArray × Value)) (hm : IsMap w b kvs) :
    Calls Try.prog 37 #[.map (some b)] w (MapPost w kvs) := by
  obtain ⟨es, clock, hb, h2, h3⟩ := hm
  have hq := fun w => run_eql_map_nil_sl (P := Try.prog) w 45 _ _ (some b) Try.underlying45
  have HB := Lib.hid hb
  clear hb
  go_enter Try.func37, Try.ntmps37
  go_wp2
  rw [run_callFunc_extern Try.func55 (by kernel_rfl) (by kernel_rfl) (by kernel_rfl) (e := Extern.MapsClone.clone) (by kernel_rfl), run_maps_clone_sl w 45 HB.out]
  simp only [Result.andThen]
  rw [Oper.upon_value]
  go_wp2
  rw [run_typeAssert_map_sl _ 45 20 _ _ _ Try.underlying45]
  simp only [Result.andThen]
  rw [Oper.upon_value]
  go_wp2
  go_ret
  exact ⟨rfl, ⟨es, clock, (MapKept.heap_alloc w _).1, h2, h3⟩, (Upd.refl _ w).alloc _, by simp⟩

def RowPost (w : World) (e size n : Nat) (xs : List Value) (r : Ending) (w' : World) : Prop :=
  ∃ a c, r = .returned (.slice a n c) ∧ w'.ownsRow 0 e size (.slice a n c) n xs ∧ (∀ g, a.map (·.block) = some g → w.heap.size ≤ g ∧ g < w'.heap.size) ∧ Upd (fun _ => False) w w'

theorem rowed {w w1 w' : World} {e size : Nat} {a : Option Addr} {n c : Nat} {xs : List Value} {sa : Option Addr} (h : w'.ownsRow 0 e size (.slice a (0 + n) c) (0 + n) ([] ++ xs)) (hu : Upd (fun _ => False) w w1) (hg : w1.grownBy w' (sa.map (·.block)))
    (hs : ∀ g, sa.map (·.block) = some g → w.heap.size ≤ g) (hat : ∀ g, a.map (·.block) = some g → (sa.map (·.block) = some g ∨ w1.heap.size ≤ g) ∧ g < w'.heap.size) : RowPost w e size n xs (.returned (.slice a n c)) w' := by
  simp only [Nat.zero_add, List.nil_append] at h
  refine ⟨a, c, rfl, h, fun g hg' => ⟨(hat g hg').1.elim (hs g) (fun h => Nat.le_trans hu.size h), (hat g hg').2⟩, hu.grown hg (fun k hk e => ?_)⟩
  have := hs k e
  omega

theorem own_one {w : World} {e size : Nat} {a : Option Addr} {n c : Nat} {xs : List Value} (h : w.ownsRow 0 e size (.slice a n c) n xs) : (a = none → c = 0 ∧ n = 0 ∧ xs = []) := by
  intro ha; subst ha
  rcases h.2 with ⟨h1, h2⟩ | ⟨g, cap, cur, hv, _⟩
  · cases h1; exact ⟨rfl, rfl, List.eq_nil_of_length_eq_zero (by simpa using h.1)⟩
  · cases hv

set_option maxRecDepth 100000 in
set_option maxHeartbeats 400000 in
theorem cloneInts (w : World) (a : Option Addr) (n c : Nat) (xs : List Value) (hown : w.ownsRow 0 3 1 (.slice a n c) n xs) (h1 : ∀ u ∈ xs, u.oneCell' = true) (hn : n ≤ 1048576 * 1048576) :
    Calls Try.prog 39 #[.slice a n c] w (RowPost w 3 1 n xs) := by
  obtain ⟨i0, hi, hz0, hz1, hz2⟩ := info_parts info_int
  have qnil : ∀ (w : World) (a : Option Addr) (n c n' c' : Nat), (binOp .eql 47 (.slice a n c) (.slice none n' c')).run Try.prog w = .ok (.bool a.isNone) w := fun w a n c n' c' => Lib.run_eql_slice_nil w _ _ a n c n' c' Try.underlying47
  have hx := hown.1
  have hrow := ownsRow_row hown (fun _ => True) (fun _ _ => trivial) (fun _ => True) trivial
  cases a with
  | none =>
    obtain ⟨rfl, rfl, rfl⟩ := own_one hown rfl
    clear hown hx hrow
    go_enter Try.func39, Try.ntmps39
    go_wp2
    go_ret
    exact ⟨none, 0, rfl, World.ownsRow_nil _ _ _ _, fun g hg => by simp at hg, Upd.refl _ _⟩
  | some ad =>
    go_enter Try.func39, Try.ntmps39
    have hr0 := World.ownsRow_made (base := 0) (e := 3) (size := 1) w #[] 0 (Nat.zero_le _) (by unfold maxLen; omega) rfl
    have hb' : IsRow (w.alloc (.cells #[] 3)) (fun _ => True) (fun _ => True) (.slice (some ad) n c) n xs := hrow.kept (fun _ _ h => h) (fun g hg _ _ => Below.heap_alloc _ _ _ hg)
    have HR := Lib.hid hr0
    have HB' := Lib.hid hb'
    have HX := Lib.hid hx
    clear hr0 hb' hrow hown hx
    go_wp2_with (at_builtin; refine wpList_appendN rfl _ _ 47 rfl 3 i0 _ 1 8 Try.underlying47 hi hz0 hz1 hz2 rfl (by decide) _ 0 0 [] rfl HR.out (some ad) n c xs rfl _ _ HB'.out HX.out h1 (by omega) (by omega) ?_; intro a' c' w1 hown hgrow hat hnil)
    go_ret
    exact rowed hown ((Upd.refl _ w).alloc _) hgrow (fun g hg => by simp at hg; omega) hat

set_option maxRecDepth 100000 in
set_option maxHeartbeats 400000 in
theorem cloneChs (w : World) (a : Option Addr) (n c : Nat) (xs : List Value) (hown : w.ownsRow 0 66 3 (.slice a n c) n xs) (h1 : ∀ u ∈ xs, u.oneCell' = true) (hn : n ≤ 1048576 * 1048576) :
    Calls Try.prog 38 #[.slice a n c] w (RowPost w 66 3 n xs) := by
  obtain ⟨i0, hi, hz0, hz1, hz2⟩ := info_parts info_ch
  have qnil : ∀ (w : World) (a : Option Addr) (n c n' c' : Nat), (binOp .eql 46 (.slice a n c) (.slice none n' c')).run Try.prog w = .ok (.bool a.isNone) w := fun w a n c n' c' => Lib.run_eql_slice_nil w _ _ a n c n' c' Try.underlying46
  have hx := hown.1
  have hrow := ownsRow_row hown (fun _ => True) (fun _ _ => trivial) (fun _ => True) trivial
  cases a with
  | none =>
    obtain ⟨rfl, rfl, rfl⟩ := own_one hown rfl
    clear hown hx hrow
    go_enter Try.func38, Try.ntmps38
    go_wp2
    go_ret
    exact ⟨none, 0, rfl, World.ownsRow_nil _ _ _ _, fun g hg => by simp at hg, Upd.refl _ _⟩
  | some ad =>
    go_enter Try.func38, Try.ntmps38
    have hr0 := World.ownsRow_made (base := 0) (e := 66) (size := 3) w #[] 0 (Nat.zero_le _) (by unfold maxLen; omega) rfl
    have hb' : IsRow (w.alloc (.cells #[] 66)) (fun _ => True) (fun _ => True) (.slice (some ad) n c) n xs := hrow.kept (fun _ _ h => h) (fun g hg _ _ => Below.heap_alloc _ _ _ hg)
    have HR := Lib.hid hr0
    have HB' := Lib.hid hb'
    have HX := Lib.hid hx
    clear hr0 hb' hrow hown hx
    go_wp2_with (at_builtin; refine wpList_appendN rfl _ _ 46 rfl 66 i0 _ 3 48 Try.underlying46 hi hz0 hz1 hz2 rfl (by decide) _ 0 0 [] rfl HR.out (some ad) n c xs rfl _ _ HB'.out HX.out h1 (by omega) (by omega) ?_; intro a' c' w1 hown hgrow hat hnil)
    go_ret
    exact rowed hown ((Upd.refl _ w).alloc _) hgrow (fun g hg => by simp at hg; omega) hat
end Go.Proofs.Ytajmaebofhkjjaa
