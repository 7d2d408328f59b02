import Derived.Test.YtajmaebofhkjjaaClone
namespace Go.Proofs.Ytajmaebofhkjjaa
open Go.RowKit Go.Proofs.Dm Go.MapKept
attribute [local go_sem ↓] Go.wp_at_zero Go.wp_at_succ

/-- Blocks of bytes, and of slices of bytes. -/
def BBlk (w : World) (g : Nat) : Prop := ∃ arr t f, (tB t ∨ tBB t) ∧ w.heap[g]? = some (.cells arr t f)

theorem ChRel.reF {w : World} {F F' : Nat → Prop} {xs : List Value} {cs : List Ch} (h : ChRel w F xs cs) (hF : ∀ g, F g → BBlk w g → F' g) : ChRel w F' xs cs := by
  induction cs generalizing xs with
  | nil => cases xs <;> simp_all [ChRel]
  | cons c cs ih =>
    match xs, h with
    | k :: v :: i :: r, h =>
      exact ⟨h.1, IsRow.reF h.2.1 (fun g hf ⟨arr, t, f, ht, hb⟩ => hF g hf ⟨arr, t, f, .inl ht, hb⟩), h.2.2.1, ih h.2.2.2⟩
theorem ChRel.one {w : World} {F : Nat → Prop} {xs : List Value} {cs : List Ch} (h : ChRel w F xs cs) : ∀ u ∈ xs, u.oneCell' = true := by
  induction cs generalizing xs with
  | nil => cases xs <;> simp_all [ChRel]
  | cons c cs ih =>
    match xs, h with
    | k :: v :: i :: r, h =>
      obtain ⟨rfl, ⟨a, cap, rfl, _⟩, rfl, h4⟩ := h
      intro u hu
      simp only [List.mem_cons] at hu
      rcases hu with rfl | rfl | rfl | hu
      · rfl
      · rfl
      · rfl
      · exact ih h4 u hu

/-- Blocks of the store's that hold bytes. -/
def FB (w : World) (F : Nat → Prop) (g : Nat) : Prop := F g ∧ BBlk w g

def ForkPost (w : World) (F : Nat → Prop) (st : St) (e : Ending) (w' : World) : Prop :=
  ∃ B, e = .returned (.pointer (some ⟨B, 0, none⟩)) ∧ IsStore w' (fun g => FB w F g ∨ (w.heap.size ≤ g ∧ g < w'.heap.size)) B st ∧ Upd (fun _ => False) w w'

theorem fork_done {w w1 w2 w3 w4 : World} {F : Nat → Prop} {B m1 m2 : Nat} {ca : Option Addr} {cc : Nat} {pa : Option Addr} {pc : Nat} {k1 k2 : List (ByteArray × Value)} {xs : List Value} {st : St} (h : Parts w F B m1 m2 ca cc pa pc k1 k2 xs st)
    (h1 : IsMap w1 w.heap.size k1) (U1 : Upd (fun _ => False) w w1) (h2 : IsMap w2 w1.heap.size k2) (U2 : Upd (fun _ => False) w1 w2) (z1 : w1.heap.size = w.heap.size + 1)
    {a3 : Option Addr} {c3 : Nat} (h3 : w3.ownsRow 0 66 3 (.slice a3 st.chs.length c3) st.chs.length xs) (f3 : ∀ g, a3.map (·.block) = some g → w2.heap.size ≤ g ∧ g < w3.heap.size) (U3 : Upd (fun _ => False) w2 w3)
    {a4 : Option Addr} {c4 : Nat} (h4 : w4.ownsRow 0 3 1 (.slice a4 st.puts.length c4) st.puts.length (st.puts.map fun n : Nat => Value.int .i64 (n : Int))) (f4 : ∀ g, a4.map (·.block) = some g → w3.heap.size ≤ g ∧ g < w4.heap.size) (U4 : Upd (fun _ => False) w3 w4) (z2 : w2.heap.size = w1.heap.size + 1) :
    ForkPost w F st (.returned (.pointer (some ⟨w4.heap.size, 0, none⟩))) (w4.alloc (.cells #[.map (some w.heap.size), .map (some w1.heap.size), .slice a3 st.chs.length c3, .slice a4 st.puts.length c4] 49)) := by
  generalize ho : (Obj.cells #[.map (some w.heap.size), .map (some w1.heap.size), .slice a3 st.chs.length c3, .slice a4 st.puts.length c4] 49) = o
  have U : Upd (fun _ => False) w (w4.alloc o) := (((U1.trans U2 (fun _ _ h => h)).trans U3 (fun _ _ h => h)).trans U4 (fun _ _ h => h)).alloc o
  have s2 := U2.size
  have s3 := U3.size
  have s4 := U4.size
  have hz : (w4.alloc o).heap.size = w4.heap.size + 1 := by simp
  have hkf : ∀ {x : World} {b : Nat} {ob : Obj}, Upd (fun _ => False) x (w4.alloc o) → x.heap[b]? = some ob → (w4.alloc o).heap[b]? = some ob := fun hU hb => hU.keep hb (fun h => h)
  have U1' : Upd (fun _ => False) w1 (w4.alloc o) := ((U2.trans U3 (fun _ _ h => h)).trans U4 (fun _ _ h => h)).alloc o
  have U2' : Upd (fun _ => False) w2 (w4.alloc o) := (U3.trans U4 (fun _ _ h => h)).alloc o
  have U3' : Upd (fun _ => False) w3 (w4.alloc o) := U4.alloc o
  have U4' : Upd (fun _ => False) w4 (w4.alloc o) := (Upd.refl _ w4).alloc o
  have hown : ∀ {x : World} {e size : Nat} {a : Option Addr} {n c : Nat} {xs : List Value}, Upd (fun _ => False) x (w4.alloc o) → x.ownsRow 0 e size (.slice a n c) n xs → (w4.alloc o).ownsRow 0 e size (.slice a n c) n xs := by
    intro x e size a n c xs hU ho
    obtain ⟨l1, l2⟩ := ho
    refine ⟨l1, l2.imp id ?_⟩
    rintro ⟨g', cap', cur, e1, h3, h4, h5⟩
    exact ⟨g', cap', cur, e1, h3, hkf hU h4, h5⟩
  have hreB : ∀ {v : Value} {b : List UInt8}, IsB w F tB v b → IsB (w4.alloc o) (fun g => FB w F g ∨ (w.heap.size ≤ g ∧ g < (w4.alloc o).heap.size)) tB v b := by
    intro v b hb
    exact IsRow.kept (IsRow.reF (F' := FB w F) hb (fun g hg ⟨arr, t, f, ht, hb⟩ => ⟨hg, arr, t, f, .inl ht, hb⟩)) (fun g _ h => .inl h) (fun g hg _ _ => U.block g hg (fun h => h))
  refine ⟨w4.heap.size, rfl, ⟨w.heap.size, w1.heap.size, a3, c3, a4, c4, k1, k2, xs, ?_⟩, U⟩
  refine ⟨.inr ⟨by have := U1.size; omega, by omega⟩, .inr ⟨Nat.le_refl _, by omega⟩, .inr ⟨by omega, by omega⟩, by omega, by rw [← ho]; exact heap_alloc_new w4 _, h1.kept (U1'.block _ h1.lt (fun h => h)), h2.kept (U2'.block _ h2.lt (fun h => h)), ?_, ?_, hown U3' h3, fun g hg => .inr ⟨by have := f3 g hg; omega, by have := f3 g hg; omega⟩, ?_, hown U4' h4, fun g hg => .inr ⟨by have := f4 g hg; omega, by have := f4 g hg; omega⟩⟩
  · exact Rel2.mono h.rel1 (fun a b hab => ⟨hab.1, hreB hab.2⟩)
  · refine Rel2.mono h.rel2 (fun a b hab => ⟨hab.1, ?_⟩)
    obtain ⟨vs, hr, hrel⟩ := hab.2
    exact ⟨vs, IsRow.kept (IsRow.reF (F' := FB w F) hr (fun g hg ⟨arr, t, f, ht, hb⟩ => ⟨hg, arr, t, f, .inr ht, hb⟩)) (fun g _ h => .inl h) (fun g hg _ _ => U.block g hg (fun h => h)), hrel.mono (fun _ _ h => hreB h)⟩
  · exact (h.rel.reF (F' := FB w F) (fun g hg h => ⟨hg, h⟩)).kept (fun g _ h => .inl h) (fun g hg _ _ => U.block g hg (fun h => h))

set_option maxRecDepth 100000 in
set_option maxHeartbeats 2000000 in
theorem fork_any (w : World) (F : Nat → Prop) (B : Nat) (st : St) (hS : IsStore w F B st) (hn : st.chs.length ≤ 1048576 * 1048576) (hn' : st.puts.length ≤ 1048576 * 1048576) :
    Calls Try.prog 16 #[.pointer (some ⟨B, 0, none⟩)] w (ForkPost w F st) := by
  obtain ⟨m1, m2, ca, cc, pa, pc, k1, k2, xs, P0⟩ := hS
  have HP := Lib.hid P0
  have c0 := cell_blk P0.blk 0 _ rfl
  have c1 := cell_blk P0.blk 1 _ rfl
  have c2 := cell_blk P0.blk 2 _ rfl
  have c3 := cell_blk P0.blk 3 _ rfl
  have HB0 := Lib.hid P0.blk
  clear P0
  go_enter Try.func16, Try.ntmps16
  go_wp2_with fail
  go_region_held3 (fun w' => w'.cell? ⟨B, 0, none⟩ = some (.map (some m1)) ∧ w'.cell? ⟨B, 1, none⟩ = some (.map (some m2)) ∧ w'.cell? ⟨B, 2, none⟩ = some (.slice ca st.chs.length cc) ∧ w'.cell? ⟨B, 3, none⟩ = some (.slice pa st.puts.length pc))
    (first
      | go_keep
      | exact ⟨c0, c1, c2, c3⟩
      | exact ⟨cell_blk HB1.out 0 _ rfl, cell_blk HB1.out 1 _ rfl, cell_blk HB1.out 2 _ rfl, cell_blk HB1.out 3 _ rfl⟩
      | exact ⟨cell_blk HB2.out 0 _ rfl, cell_blk HB2.out 1 _ rfl, cell_blk HB2.out 2 _ rfl, cell_blk HB2.out 3 _ rfl⟩
      | exact ⟨cell_blk HB3.out 0 _ rfl, cell_blk HB3.out 1 _ rfl, cell_blk HB3.out 2 _ rfl, cell_blk HB3.out 3 _ rfl⟩
      | exact ⟨cell_blk HB4.out 0 _ rfl, cell_blk HB4.out 1 _ rfl, cell_blk HB4.out 2 _ rfl, cell_blk HB4.out 3 _ rfl⟩
      | exact ⟨cell_blk (alloc_keep HB4.out _) 0 _ rfl, cell_blk (alloc_keep HB4.out _) 1 _ rfl, cell_blk (alloc_keep HB4.out _) 2 _ rfl, cell_blk (alloc_keep HB4.out _) 3 _ rfl⟩)
    (first
      | (go_at_call 36; refine (mapsClone1 _ m1 k1 (by exact HP.out.map1.kept rfl)).mono ?_; rintro e w1 ⟨rfl, h1, U1, z1⟩; have HB1 := Lib.hid (U1.keep HB0.out (fun h => h)); have H1 := Lib.hid h1; have V1 := Lib.hid U1; have Z1 := Lib.hid z1; clear h1 U1 z1)
      | (go_at_call 37; refine (mapsClone2 _ m2 k2 (by exact HP.out.map2.kept (V1.out.block _ HP.out.map2.lt (fun h => h)))).mono ?_; rintro e w2 ⟨rfl, h2, U2, z2⟩; have HB2 := Lib.hid (U2.keep HB1.out (fun h => h)); have H2 := Lib.hid h2; have V2 := Lib.hid U2; have Z2 := Lib.hid z2; clear h2 U2 z2)
      | (go_at_call 38; refine (cloneChs _ ca st.chs.length cc xs (by exact own_upd (own_upd (w := w.drew) HP.out.own V1.out) V2.out) HP.out.rel.one hn).mono ?_; rintro e w3 ⟨a3, c3', rfl, h3, f3, U3⟩; have HB3 := Lib.hid (U3.keep HB2.out (fun h => h)); have H3 := Lib.hid h3; have V3 := Lib.hid U3; have F3 := Lib.hid f3; clear h3 U3 f3)
      | (go_at_call 39; refine (cloneInts _ pa st.puts.length pc _ (by exact own_upd (own_upd (own_upd (w := w.drew) HP.out.pown V1.out) V2.out) V3.out) (by intro u hu; obtain ⟨_, _, rfl⟩ := List.mem_map.1 hu; rfl) hn').mono ?_; rintro e w4 ⟨a4, c4', rfl, h4, f4, U4⟩; have HB4 := Lib.hid (U4.keep HB3.out (fun h => h)); have H4 := Lib.hid h4; have V4 := Lib.hid U4; have F4 := Lib.hid f4; clear h4 U4 f4))
  all_goals
    go_wp2_with fail
    go_ret
    exact fork_done HP.out H1.out ((Upd.refl _ w).drew.trans V1.out (fun _ _ h => h)) H2.out V2.out Z1.out H3.out F3.out V3.out H4.out F4.out V4.out Z2.out
end Go.Proofs.Ytajmaebofhkjjaa
