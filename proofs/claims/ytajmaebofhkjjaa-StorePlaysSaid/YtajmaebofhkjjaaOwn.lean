import Derived.Test.YtajmaebofhkjjaaFlip
import Derived.Test.YtajmaebofhkjjaaDraw
import Derived.Laws.OwnMore
namespace Go.Proofs.Ytajmaebofhkjjaa
open Go.RowKit Go.Proofs.Dm Go.MapKept

theorem wpList_spareN {P : Program} {ops : Array Oper} {rest : List Oper} {o : Oper} {a : Act} {Q : Exit → Act → World → Prop} {w : World} (hgd : o.guard = none) (s x : Operand) (t : TypeId)
    (ho : o.op = .call { callee := .builtin .append, args := #[s, x], argTypes := #[t, t] })
    (e : TypeId) (i : TypeInfo) (size : Nat) (ht : P.underlying t = some (.slice e)) (hi : P.info? e = some i) (hsize : i.size = size)
    (g n cap : Nat) (xs : List Value) (hs : a.eval s = .slice (some ⟨g, 0, none⟩) n cap) (hown : w.ownsRow 0 e size (.slice (some ⟨g, 0, none⟩) n cap) n xs)
    (xa : Option Addr) (m xc : Nat) (news : List Value) (hx : a.eval x = .slice xa m xc) (F : Nat → Prop) (T : TypeId → Prop) (hr : IsRow w F T (.slice xa m xc) m news) (hl : news.length = m * size) (h1 : ∀ u ∈ news, u.oneCell' = true) (hroom : n + m ≤ cap)
    (h : ∀ w', w'.ownsRow 0 e size (.slice (some ⟨g, 0, none⟩) (n + m) cap) (n + m) (xs ++ news) → w.grownBy w' (some g) → wpList P ops Q rest (a.put o.dst (.slice (some ⟨g, 0, none⟩) (n + m) cap)) w') :
    wpList P ops Q (o :: rest) a w := by
  refine wpList_plain hgd fun K hK => ?_
  obtain ⟨w', hrun, h2, h3⟩ : ∃ w', (Builtin.append_ #[t, t] o.type #[.slice (some ⟨g, 0, none⟩) n cap, .slice xa m xc]).run P w = .ok (.slice (some ⟨g, 0, none⟩) (n + m) cap) w' ∧
      w'.ownsRow 0 e size (.slice (some ⟨g, 0, none⟩) (n + m) cap) (n + m) (xs ++ news) ∧ w.grownBy w' (some g) := by
    obtain ⟨_, _, he, hnil, _, hrow⟩ := hr
    cases he
    cases xa with
    | none =>
      obtain ⟨rfl, rfl⟩ := hnil rfl
      obtain rfl : news = [] := List.eq_nil_of_length_eq_zero (by simpa using hl)
      exact ⟨w, run_append_owned_none w 0 t o.type e i size ht hi _ n xs hown, by simpa using hown, ⟨rfl, rfl, rfl, Nat.le_refl _, fun _ _ _ => rfl⟩⟩
    | some ad => exact run_append_fits (P := P) w 0 t o.type e i size ht hi hsize g n cap xs hown ad m xc news hl (hrow.cells rfl) h1 hroom
  unfold Oper.wp
  simp [execOp, ho, resolve, invoke, builtin, hs, hx, hrun, Result.andThen]
  exact hK _ _ (h w' h2 h3)

/-- A copy with room: behind it three cells hold 'fill'. -/
def OwnLies (wr : World) (g cap : Nat) (b : List UInt8) (fill : UInt8) (k : Nat) : Prop :=
  ∃ cur, wr.heap[g]? = some (.cells cur 5 (0, 0)) ∧ cur.size = cap ∧ b.length + 3 ≤ cap ∧ (∀ i, (h : i < b.length) → cur[i]? = some (bv b[i])) ∧ (∀ i, i < k → cur[b.length + i]? = some (bv fill))
def OwnPost (w : World) (b : List UInt8) (fill : UInt8) (e : Ending) (w' : World) : Prop :=
  ∃ g cap, e = .returned (.slice (some ⟨g, 0, none⟩) b.length cap) ∧ w.heap.size ≤ g ∧ OwnLies w' g cap b fill 3 ∧ Upd (fun _ => False) w w'

set_option maxRecDepth 100000 in
set_option maxHeartbeats 1000000 in
theorem own_any (w : World) (F : Nat → Prop) (T : TypeId → Prop) (a : Option Addr) (n c : Nat) (b : List UInt8) (fill : UInt8) (hb : IsB w F T (.slice a n c) b) (hl : b.length ≤ 1048576 * 1048576) :
    Calls Try.prog 18 #[.slice a n c, bv fill] w (OwnPost w b fill) := by
  obtain ⟨i0, hi, hz0, hz1, hz2⟩ := info_parts info_u8
  obtain rfl : n = b.length := by obtain ⟨_, _, h, _⟩ := hb; cases h; rfl
  have HB := Lib.hid hb
  clear hb
  simp only [bv]
  go_enter Try.func18, Try.ntmps18
  go_wp2_with (first
    | (at_make; refine wpList_make_own _ rfl _ _ 31 rfl 0 5 i0 _ 1 Try.underlying31 hi hz0 hz1 .i64 .i64 _ (b.length + 3) rfl rfl (by omega) (by rw [hz2]; omega) (by unfold maxLen; omega) (Nat.zero_le _) ?_; intro w1 hown1 hgrow1)
    | (at_builtin; refine wpList_spareN rfl _ _ 31 rfl 5 i0 1 Try.underlying31 hi hz1 w.heap.size 0 (b.length + 3) [] rfl hown1 a b.length c (b.map bv) rfl F T (IsRow.kept HB.out (fun _ _ h => h) (fun x hx _ _ => hgrow1.block x hx (by simp))) (by simp) (bv_one b) (by omega) ?_; intro w2 hown2 hgrow2; simp only [Nat.zero_add, List.nil_append] at hown2))
  obtain ⟨cur, hcb, hcs, hcc⟩ : ∃ cur : Array Value, w2.heap[w.heap.size]? = some (.cells cur 5 (0, 0)) ∧ cur.size = b.length + 3 ∧ ∀ i, (h : i < b.length) → cur[i]? = some (bv b[i]) := by
    rcases hown2.2 with ⟨h, _⟩ | ⟨g', cap', cur, hv, _, h1, _, _, h2, h3⟩
    · cases h
    · cases hv
      refine ⟨cur, h1, by omega, fun i h => fresh_cell (by simpa using h3) i h⟩
  have hU2 : Upd (fun _ => False) w w2 := ((Upd.refl _ w).grown hgrow1 (fun _ _ h => by simp at h)).grown hgrow2 (fun k hk e => by simp at e; omega)
  have hO : OwnLies w2 w.heap.size (b.length + 3) b fill 0 := ⟨cur, hcb, hcs, Nat.le_refl _, hcc, fun i h => by omega⟩
  have HO := Lib.hid hO
  have HU2 := Lib.hid hU2
  clear hO hU2 hcb hcs hcc hown1 hgrow1 hown2 hgrow2
  go_loopw [7] (fun i wr => ∃ k : Nat, k ≤ 3 ∧ i = .int .i64 ((b.length + k : Nat) : Int) ∧ OwnLies wr w.heap.size (b.length + 3) b fill k ∧ Upd (fun _ => False) w wr) (fun i _ => b.length + 3 - (intOf i).toNat)
  case atStart => exact ⟨0, by omega, by simp, HO.out, HU2.out⟩
  case round =>
    obtain ⟨k, hk, rfl, hOr, hUr⟩ := hrel
    have HOR := Lib.hid hOr
    have HUR := Lib.hid hUr
    by_cases hlt : k < 3
    · obtain ⟨cur, h1, h2, h3, h4, h5⟩ := hOr
      have hex : ∃ v, cur[b.length + k]? = some v := ⟨cur[b.length + k]'(by omega), by simp⟩
      obtain ⟨v, hv⟩ := hex
      have l1 := cell_blk h1 _ _ hv
      have l2 := free_blk h1 (b.length + k)
      have hO' : OwnLies (wr.setCell ⟨w.heap.size, b.length + k, none⟩ (bv fill)) w.heap.size (b.length + 3) b fill (k + 1) := by
        refine ⟨_, blk_setCell h1 _ _, by simpa using h2, h3, fun i hi => ?_, fun i hi => ?_⟩
        · rw [Array.getElem?_setIfInBounds, if_neg (by omega)]; exact h4 i hi
        · rw [Array.getElem?_setIfInBounds]
          by_cases he : b.length + k = b.length + i
          · rw [if_pos he, if_pos (by omega)]
          · rw [if_neg he]; exact h5 i (by omega)
      have HO' := Lib.hid hO'
      have HU' := Lib.hid (hUr.setCell (p := ⟨w.heap.size, b.length + k, none⟩) (fun h => by simp at h) (bv fill))
      have hk0 : (0 : Int) ≤ ((b.length + k : Nat) : Int) := by omega
      have hk1 : ((b.length + k : Nat) : Int) < (b.length : Int) + 3 := by omega
      clear hO' h1 h2 h3 h4 h5 hv hUr
      go_wp2_with fail
      go_roundw
      case rel => exact ⟨k + 1, by omega, by go_num, HO'.out, HU'.out⟩
      case measure => simp [intOf]; omega
    · obtain rfl : k = 3 := by omega
      clear hOr hUr
      go_wp2_with fail
      go_ret
      exact ⟨w.heap.size, b.length + 3, rfl, Nat.le_refl _, HOR.out, HUR.out⟩
end Go.Proofs.Ytajmaebofhkjjaa
