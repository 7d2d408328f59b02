import Derived.Test.YtajmaebofhkjjaaRput
namespace Go.Proofs.Ytajmaebofhkjjaa
open Go.RowKit Go.Proofs.Dm Go.MapKept
attribute [local go_sem ↓] Go.wp_at_zero Go.wp_at_succ

theorem info_bsR : (Try.prog.info? 31).map (fun i => (i.zero, i.size, i.bytes)) = some (some (.slice none 0 0), 1, 24) := by kernel_rfl

def RPutPost (w : World) (F : Nat → Prop) (R : Nat) (st : RSt) (e : Ending) (w' : World) : Prop :=
  e = .returned (.tuple #[]) ∧ IsRef w' (Plus F w w') R st ∧ Upd F w w'

theorem RMid.same {w wc w1 : World} {F : Nat → Prop} {R : Nat} {st : RSt} (h : RMid w F R st wc) (hU : Upd (fun _ => False) wc w1) (hh : w1.heap = wc.heap) : RMid w F R st w1 :=
  ⟨h.1.kept (fun x _ h => h.imp id (fun h => ⟨h.1, by rw [hh]; exact h.2⟩)) (fun _ _ _ => by rw [hh]), h.2.trans (hU.mono (S' := F) (fun _ _ h => h.elim)) (fun _ _ h => h)⟩

theorem own_set {w : World} {e size : Nat} {g n c : Nat} {xs : List Value} (h : w.ownsRow 0 e size (.slice (some ⟨g, 0, none⟩) n c) n xs) (p : Addr) (v : Value) (hp : g ≠ p.block) : (w.setCell p v).ownsRow 0 e size (.slice (some ⟨g, 0, none⟩) n c) n xs := by
  obtain ⟨l1, l2⟩ := h
  refine ⟨l1, l2.imp id ?_⟩
  rintro ⟨g', cap', cur, e1, h3, h4, h5⟩
  cases e1
  exact ⟨_, _, cur, rfl, h3, setCell_keep h4 _ _ hp, h5⟩
theorem RMid.fR {w w5 : World} {F : Nat → Prop} {R : Nat} {st : RSt} (h : RMid w F R st w5) : R < w.heap.size → F R := by
  obtain ⟨⟨_, _, _, _, _, h⟩, _⟩ := h
  exact fun hlt => h.fR.elim id (fun h => by omega)
theorem rput_end {w wt w10 : World} {F : Nat → Prop} {R : Nat} {st : RSt} (hF : R < w.heap.size → F R) (hU : Upd F w wt) (hS : IsRef w10 (Plus (Plus F w wt) wt w10) R st) (hU10 : Upd (fun b => b = R) wt w10) : RPutPost w F R st (.returned (.tuple #[])) w10 :=
  ⟨rfl, hS.kept (fun x hx h => h.elim (fun h => h.elim .inl (fun h => .inr ⟨h.1, hx⟩)) (fun h => .inr ⟨Nat.le_trans hU.size h.1, h.2⟩)) (fun _ _ _ => rfl), hU.trans hU10 (fun i hi e => by subst e; exact hF hi)⟩

theorem rput_old {L : List RC} {name : ByteArray} (h : ratF L name = true) : rput1 L name = L ∧ ratK L name < L.length := ⟨by simp [rput1, h], ratF_lt h⟩
theorem rput_new {L : List RC} {name : ByteArray} (h : ratF L name = false) : rput1 L name = rins L (ratK L name) name ∧ ratK L name < (rins L (ratK L name) name).length :=
  ⟨by simp [rput1, h], by have := ratK_le L name; simp [rins]; omega⟩

theorem rput_len {L : List RC} {name : ByteArray} : (rput1 L name).length ≤ L.length + 1 := by
  have := ratK_le L name
  unfold rput1
  split
  · omega
  · simp [rins]; omega

theorem RParts.cells1 {w : World} {F : Nat → Prop} {R : Nat} {la : Option Addr} {lc : Nat} {oa : Option Addr} {oc : Nat} {ovs : List Value} {L : List RC} {old : List (List RC)} (h : RParts w F R la lc oa oc ovs ⟨L, old⟩) {k : Nat} {c : RC} (hk : L[k]? = some c) :
    ∃ g o arr f, la = some ⟨g, o, none⟩ ∧ F g ∧ w.heap[g]? = some (.cells arr 59 f) ∧ arr[o + k * 4]? = some (.string c.name) ∧ arr[o + k * 4 + 1]? = some (.bool c.shows) ∧
      ∃ ba bc aa ac, arr[o + k * 4 + 2]? = some (.slice ba c.b.length bc) ∧ IsB w F tB (.slice ba c.b.length bc) c.b ∧ arr[o + k * 4 + 3]? = some (.slice aa c.all.length ac) ∧ IsBB w F (.slice aa c.all.length ac) c.all := by
  obtain ⟨hlt, rfl⟩ := List.getElem?_eq_some_iff.1 hk
  obtain ⟨g, o, arr, f, h1, h2, h3, h4⟩ := h.cells (by show 0 < L.length; omega)
  obtain ⟨h5, h6, h7⟩ := h4 k hlt
  exact ⟨g, o, arr, f, h1, h2, h3, h5, h6, h7⟩

theorem bbs_one {w : World} {F : Nat → Prop} {vs : List Value} {l : List (List UInt8)} (h : Rel2 (IsB w F tB) vs l) : ∀ u ∈ vs, u.oneCell' = true := by
  induction vs generalizing l with
  | nil => intro u hu; cases hu
  | cons v vs ih =>
    cases l with
    | nil => simp [Rel2] at h
    | cons b l =>
      intro u hu
      rcases List.mem_cons.1 hu with rfl | hu
      · obtain ⟨_, _, rfl, _⟩ := h.1; rfl
      · exact ih h.2 u hu

theorem rput_all {L L2 : List RC} {name : ByteArray} {K n : Nat} (hn : 0 < n) (h : ∀ c ∈ L, c.all.length < n) (hr : rput1 L name = L2) {c : RC} (hK : L2[K]? = some c) : c.all.length < n := by
  have hm : ∀ x ∈ L2, x.all.length < n := by
    intro x hm
    rw [← hr] at hm
    unfold rput1 at hm
    split at hm
    · exact h _ hm
    · unfold rins at hm
      rcases List.mem_append.1 hm with hm | hm
      · exact h _ (List.mem_of_mem_take hm)
      · rcases List.mem_cons.1 hm with hm | hm
        · simp [hm, hn]
        · exact h _ (List.mem_of_mem_drop hm)
  exact hm _ (List.mem_of_getElem? hK)

set_option maxRecDepth 100000 in
set_option maxHeartbeats 4000000 in
theorem rput_any (w : World) (F : Nat → Prop) (R : Nat) (st : RSt) (hS : IsRef w F R st) (name : ByteArray) (a : Option Addr) (n c : Nat) (b : List UInt8) (Fb : Nat → Prop) (T : TypeId → Prop) (hb : IsB w Fb T (.slice a n c) b) (hdis : ∀ g, Fb g → ¬ F g)
    (hl : b.length ≤ 1048576 * 1048576) (hn : st.L.length < 1048576 * 1048576) (hno : st.old.length < 1048576 * 1048576) (hna : ∀ c ∈ st.L, c.all.length < 1048576 * 1048576) :
    Calls Try.prog 19 #[.pointer (some ⟨R, 0, none⟩), .string name, .slice a n c] w (RPutPost w F R ⟨rput st.L name b, st.old ++ [st.L]⟩) := by
  go_enter Try.func19, Try.ntmps19
  go_upto_region 0 with fail
  go_cut [] (fun wx => RMid w F R { st with old := st.old ++ [st.L] } wx)
  case first =>
    obtain ⟨i0, hi, hz0, hz1, hz2⟩ := info_parts info_cell
    obtain ⟨i1, hi1, hy0, hy1, hy2⟩ := info_parts info_cells
    obtain ⟨la, lc, oa, oc, ovs, P0⟩ := hS
    obtain ⟨cs, hrow, hrel⟩ := P0.row
    have hl4 := hrel.length
    have h1 := hrel.one
    have hc0 := cell_blk P0.blk 0 _ rfl
    have hc1 := cell_blk P0.blk 1 _ rfl
    have HP := Lib.hid P0
    have HROW := Lib.hid hrow
    have HL4 := Lib.hid hl4
    have HREL := Lib.hid hrel
    have H1 := Lib.hid h1
    have hob : oa.map (·.block) ≠ some R := fun e => by obtain ⟨arr, ha⟩ := own_ty P0.own R e; rw [P0.blk] at ha; cases ha
    have HOB := Lib.hid hob
    clear P0 hrow hrel hl4 h1 hb hdis hob
    go_region_law (first
      | (refine step_appendN _ (by rfl) _ _ 26 (by rfl) 59 i0 _ 4 72 Try.underlying26 hi hz0 hz1 hz2 rfl (by decide) none 0 0 [] (by rfl) (World.ownsRow_nil _ _ _ _) la st.L.length lc cs (by rfl) F tC (by exact IsRow.kept HROW.out (fun _ _ h => h) (fun _ _ _ _ => rfl)) HL4.out H1.out (by omega) (by omega) ?_; intro a' c' w1 hown hgrow hat; have hB1 := grown_keep hgrow (drew_keep HP.out.blk) (by simp); have hc10 := cell_blk hB1 0 _ rfl; have hc11 := cell_blk hB1 1 _ rfl; have HB1 := Lib.hid hB1; clear hB1; have hal1 : ∀ o, (w1.alloc o).cell? ⟨R, 1, none⟩ = some (.slice oa st.old.length oc) := fun o => cell_blk (alloc_keep HB1.out o) 1 _ rfl)
      | (refine step_append1 _ (by rfl) _ _ 27 (by rfl) 26 i1 _ 1 24 Try.underlying27 hi1 hy0 hy1 hy2 rfl (by decide) oa st.old.length oc ovs (by rfl) (by exact own_upd (own_upd (w := w) HP.out.own (((Upd.refl _ w).drew).grown hgrow (fun _ _ h => by simp at h))) ((Upd.refl _ w1).alloc _)) w1.heap.size [.slice a' st.L.length c'] 26 (0, 0) (by rfl) (heap_alloc_new _ _) rfl (by simp [Value.oneCell']) (by omega) (by decide) (w1.heap.size + 1) (by simp) ?_; intro g cap w2 hown2 hgrow2 hat2 hlt2; have hBk := grown_keep hgrow2 (alloc_keep HB1.out _) (Ne.symm HOB.out); have hc21 := cell_blk hBk 1 _ rfl; have hf21 := free_blk hBk 1; have HBK := Lib.hid hBk; clear hBk))
    all_goals (go_wp2_with fail; go_meet; exact rput_mid0 HP.out HREL.out hown hgrow hat hown2 hgrow2 hat2 hlt2)
  case rest =>
    have hb1 : IsB wc Fb T (.slice a n c) b := IsRow.kept hb (fun _ _ h => h) (fun g hg hf _ => hcut.2.block g hg (hdis g hf))
    obtain rfl : n = b.length := by obtain ⟨_, _, he, _⟩ := hb; cases he; rfl
    have HA := Lib.hid (at_any wc _ R _ hcut.1 name (by show st.L.length ≤ _; omega))
    have HC := Lib.hid hcut
    have HB1 := Lib.hid hb1
    have HB0 := Lib.hid hb
    clear hb1 hcut hb hS
    go_wp2_with fail
    refine HA.out.mono ?_
    rintro e w1 ⟨rfl, hU, hh⟩
    have HH := Lib.hid hh
    have HU := Lib.hid hU
    clear hU hh HA
    rcases hQ : ratF st.L name with _ | _
    case' false =>
      have HQ := Lib.hid (rput_new hQ)
      have hKle := ratK_le st.L name
      generalize hK : ratK st.L name = K at *
      go_upto_region 3 with fail
      go_cut [] (fun wx => RMid w F R ⟨rins st.L K name, st.old ++ [st.L]⟩ wx)
      case first =>
        obtain ⟨i0, hi, hz0, hz1, hz2⟩ := info_parts info_cell
        obtain ⟨la, lc, oa, oc, ovs, P0⟩ := HC.out.1
        have P1 : RParts w1 (Plus F w wc) R la lc oa oc ovs { st with old := st.old ++ [st.L] } := P0.kept (fun _ _ h => h) (fun g _ _ => by rw [HH.out])
        obtain ⟨cs, hrow, hrel⟩ := P1.row
        have hl4 := hrel.length
        have h1 := hrel.one
        have hta := IsRow.take hrow K hKle (K * 4)
        have hdr := IsRow.drop hrow 4 hl4 K hKle
        have hc0 := cell_blk P1.blk 0 _ rfl
        have HP1 := Lib.hid P1
        have HTA := Lib.hid hta
        have HDR := Lib.hid hdr
        have HTL : Hid ((cs.take (K * 4)).length = K * 4) := Lib.hid (by rw [List.length_take]; simp only at hl4; omega)
        have HDL : Hid ((cs.drop (K * 4)).length = (st.L.length - K) * 4) := Lib.hid (by rw [List.length_drop]; simp only at hl4; omega)
        have HL4 := Lib.hid hl4
        have HREL := Lib.hid hrel
        have H1 := Lib.hid h1
        have hk0 : (0 : Int) ≤ (K : Int) := by omega
        have hk1 : (K : Int) ≤ ((st.L.length : Nat) : Int) := by omega
        have hkc : K ≤ lc := by obtain ⟨_, _, he, _, hc, _⟩ := hrow; cases he; exact Nat.le_trans hKle hc
        clear P0 P1 hrow hrel hl4 h1 hta hdr HH HB1
        have HRL := Lib.hid (lt_of_blk HP1.out.blk)
        have hal0 : ∀ o, (w1.alloc o).cell? ⟨R, 0, none⟩ = some (.slice la st.L.length lc) := fun o => cell_blk (alloc_keep HP1.out.blk o) 0 _ rfl
        go_region_law (first
          | (refine step_appendN _ (by rfl) _ _ 26 (by rfl) 59 i0 _ 4 72 Try.underlying26 hi hz0 hz1 hz2 rfl (by decide) none 0 0 [] (by rfl) (World.ownsRow_nil _ _ _ _) la K lc (cs.take (K * 4)) (by rfl) _ tC (by exact IsRow.kept HTA.out (fun _ _ h => h) (fun _ _ _ _ => rfl)) HTL.out (fun u hu => H1.out u (List.mem_of_mem_take hu)) (by omega) (by omega) ?_; intro a' c' w2 hown hgrow hat; simp only [Nat.zero_add, List.nil_append] at hown; have HU2 := Lib.hid (((Upd.refl (fun _ => False) w1).drew).grown hgrow (fun _ _ h => by simp at h)); have HAT := Lib.hid (rput_a2 (w1 := w1) hat (by simp)); have HB1 := Lib.hid (HU2.out.keep HP1.out.blk (fun h => h)); have hc10 := cell_blk HB1.out 0 _ rfl; have hal1 : ∀ o, (w2.alloc o).cell? ⟨R, 0, none⟩ = some (.slice la st.L.length lc) := fun o => cell_blk (alloc_keep HB1.out o) 0 _ rfl)
          | (refine step_appendN _ (by rfl) _ _ 26 (by rfl) 59 i0 _ 4 72 Try.underlying26 hi hz0 hz1 hz2 rfl (by decide) none 0 0 [] (by rfl) (World.ownsRow_nil _ _ _ _) la K lc (cs.take (K * 4)) (by rfl) _ tC (by exact IsRow.kept HTA.out (fun _ _ h => h) (fun b hb _ _ => Below.heap_alloc _ _ _ hb)) HTL.out (fun u hu => H1.out u (List.mem_of_mem_take hu)) (by omega) (by omega) ?_; intro a' c' w2 hown hgrow hat; simp only [Nat.zero_add, List.nil_append] at hown; have HU2 := Lib.hid ((((Upd.refl (fun _ => False) w1).alloc _).drew).grown hgrow (fun _ _ h => by simp at h)); have HAT := Lib.hid (rput_a2 (w1 := w1) hat (by simp)); have HBX := Lib.hid (grown_keep hgrow (drew_keep (heap_alloc_new w1 _)) (by simp)); have HB1 := Lib.hid (HU2.out.keep HP1.out.blk (fun h => h)); have hc10 := cell_blk HB1.out 0 _ rfl; have hal1 : ∀ o, (w2.alloc o).cell? ⟨R, 0, none⟩ = some (.slice la st.L.length lc) := fun o => cell_blk (alloc_keep HB1.out o) 0 _ rfl)
          | (refine step_append1 _ (by rfl) _ _ 26 (by rfl) 59 i0 _ 4 72 Try.underlying26 hi hz0 hz1 hz2 rfl (by decide) a' K c' _ (by rfl) (by exact own_upd hown ((Upd.refl _ w2).alloc _)) w2.heap.size [.string name, .bool false, .slice none 0 0, .slice none 0 0] 59 (0, 0) (by rfl) (heap_alloc_new _ _) rfl (by simp [Value.oneCell']) (by omega) (by decide) (w2.heap.size + 1) (by simp) ?_; intro g cap w3 hown2 hgrow2 hat2 hlt2; have HU3 := Lib.hid (rput_u3 (HU2.out.alloc _) HAT.out hgrow2); have HG := Lib.hid (rput_g3 HU2.out HAT.out hat2); have HBK := Lib.hid (HU3.out.keep HP1.out.blk (fun h => h)); have hc21 := cell_blk HBK.out 0 _ rfl; have HX3 := Lib.hid (HDR.out.kept (fun _ _ h => h) (fun b hb _ _ => HU3.out.block b hb (fun h => h))))
          | (refine step_append1 _ (by rfl) _ _ 26 (by rfl) 59 i0 _ 4 72 Try.underlying26 hi hz0 hz1 hz2 rfl (by decide) a' K c' _ (by rfl) hown w1.heap.size [.string name, .bool false, .slice none 0 0, .slice none 0 0] 59 (0, 0) (by rfl) HBX.out rfl (by simp [Value.oneCell']) (by omega) (by decide) w2.heap.size (by rfl) ?_; intro g cap w3 hown2 hgrow2 hat2 hlt2; have HU3 := Lib.hid (rput_u3 HU2.out HAT.out hgrow2); have HG := Lib.hid (rput_g3 HU2.out HAT.out hat2); have HBK := Lib.hid (HU3.out.keep HP1.out.blk (fun h => h)); have hc21 := cell_blk HBK.out 0 _ rfl; have HX3 := Lib.hid (HDR.out.kept (fun _ _ h => h) (fun b hb _ _ => HU3.out.block b hb (fun h => h))))
          | (refine step_appendN _ (by rfl) _ _ 26 (by rfl) 59 i0 _ 4 72 Try.underlying26 hi hz0 hz1 hz2 rfl (by decide) (some ⟨g, 0, none⟩) (K + 1) cap _ (by rfl) hown2 _ (st.L.length - K) (lc - K) (cs.drop (K * 4)) (by rfl) _ tC HX3.out HDL.out (fun u hu => H1.out u (List.mem_of_mem_drop hu)) (by omega) (by omega) ?_; intro a4 c4 w4 hown4 hgrow4 hat4; have hB4 := grown_keep hgrow4 HBK.out (rput_r4 HG.out HRL.out); have hc40 := cell_blk hB4 0 _ rfl; have hf40 := free_blk hB4 0; have HB4 := Lib.hid hB4; clear hB4))
        all_goals go_wp2_with fail
        all_goals (go_meet; exact rput_mid1 HC.out HU.out HP1.out HREL.out hKle name HU3.out HG.out hown4 hgrow4 hat4 HB4.out)
      case' rest =>
        have HB5 := Lib.hid (IsRow.kept HB0.out (fun _ _ h => h) (fun g hg hf _ => hcut.2.block g hg (hdis g hf)) : IsB wc Fb T (.slice a b.length c) b)
        have HC5 := Lib.hid hcut
        clear hcut HC HB1 HB0 HU HH
        obtain ⟨L2, hL2⟩ : ∃ L2, L2 = rins st.L K name := ⟨_, rfl⟩
        have hr : rput1 st.L name = L2 := HQ.out.1.trans hL2.symm
        have hkl : K < L2.length := by rw [hL2]; exact HQ.out.2
        have HC5 : Hid (RMid w F R ⟨L2, st.old ++ [st.L]⟩ wc) := Lib.hid (by rw [hL2]; exact HC5.out)
        generalize wc = w5 at HC5 HB5 ⊢
        clear HQ hKle hL2
    case' true =>
      have HQ := Lib.hid (rput_old hQ)
      generalize hK : ratK st.L name = K at *
      have HB5 := Lib.hid (IsRow.kept HB1.out (fun _ _ h => h) (fun g hg _ _ => by rw [HH.out]) : IsB w1 Fb T (.slice a b.length c) b)
      obtain ⟨L2, hL2⟩ : ∃ L2, L2 = st.L := ⟨_, rfl⟩
      have HC5 : Hid (RMid w F R ⟨L2, st.old ++ [st.L]⟩ w1) := Lib.hid (by rw [hL2]; exact HC.out.same HU.out HH.out)
      clear HC HB1 HB0 HU HH
      go_upto_region 4 with fail
      have hr : rput1 st.L name = L2 := HQ.out.1.trans hL2.symm
      have hkl : K < L2.length := by rw [hL2]; exact HQ.out.2
      generalize w1 = w5 at HC5 HB5 ⊢
      clear HQ hL2
    all_goals
      clear hQ hdis
      have hLl : L2.length ≤ st.L.length + 1 := by rw [← hr]; exact rput_len
      obtain ⟨c0, hc0e⟩ : ∃ c0, L2[K]? = some c0 := ⟨_, List.getElem?_eq_getElem hkl⟩
      have hall : c0.all.length < 1048576 * 1048576 := rput_all (by omega) hna hr hc0e
      have HRT : Hid (rput st.L name b = L2.set K { c0 with shows := true, b := b, all := c0.all ++ [b] }) := Lib.hid (by unfold rput; rw [hr, hK, hc0e])
      obtain ⟨la, lc, oa, oc, ovs, P5⟩ := HC5.out.1
      have hc0 := cell_blk P5.blk 0 _ rfl
      obtain ⟨g, o, arr, f, rfl, hg, hbk, h1, h2, ba, bc, aa, ac, h3, h3b, h4, h4b⟩ := P5.cells1 hc0e
      have l1 := cell_blk hbk _ _ h1
      have l2 := cell_blk hbk _ _ h2
      have l3 := cell_blk hbk _ _ h3
      have l4 := cell_blk hbk _ _ h4
      obtain ⟨vs, hvr, hvs⟩ := h4b
      have HVR := Lib.hid hvr
      have HVS := Lib.hid hvs
      have HKL := Lib.hid hkl
      clear P5 hg hbk h1 h2 h3 h3b h4 hvr hvs hr hK
      simp only at hc0
      have hk0 : (0 : Int) ≤ (K : Int) := by omega
      have hk1 : (K : Int) < ((L2.length : Nat) : Int) := by omega
      go_wp2_with fail
      refine (copyBytes_any _ Fb T a b.length c b (IsRow.kept HB5.out (fun _ _ h => h) (by intro x hx _ _; exact Below.heap_alloc _ _ _ hx)) (by omega)).mono ?_
      rintro e w6 ⟨a2, c2, rfl, hfr, hU6⟩
      have hbox := hU6.keep (heap_alloc_new w5 _) (fun h => h)
      have e1 := cell_blk hbox 1 _ rfl
      have ef1 := free_blk hbox 1
      have e2 := cell_blk hbox 2 _ rfl
      have ef2 := free_blk hbox 2
      have HBX := Lib.hid hbox
      have HFR := Lib.hid hfr
      have HU6 := Lib.hid hU6
      clear hbox hfr hU6 hc0 l1 l2 l3 l4 HB5
      go_wp2_with fail
      obtain ⟨w7, hw7⟩ : ∃ w7, w7 = (w6.setCell ⟨w5.heap.size, 1, none⟩ (.bool true)).setCell ⟨w5.heap.size, 2, none⟩ (.slice a2 b.length c2) := ⟨_, rfl⟩
      rw [← hw7]
      have hbox7 : w7.heap[w5.heap.size]? = some (.cells #[.string c0.name, .bool true, .slice a2 b.length c2, .slice aa c0.all.length ac] 59 (0, 0)) := by rw [hw7, blk_setCell (blk_setCell HBX.out 1 _) 2 _]; rfl
      have hU67 : Upd (fun x => x = w5.heap.size) w6 w7 := by
        rw [hw7]
        exact Upd.setCell (S := fun x => x = w5.heap.size) (Upd.setCell (S := fun x => x = w5.heap.size) (Upd.refl _ w6) (p := ⟨w5.heap.size, 1, none⟩) (fun _ => rfl) _) (p := ⟨w5.heap.size, 2, none⟩) (fun _ => rfl) _
      have hU57 : Upd (fun _ => False) w5 w7 := (((Upd.refl _ w5).alloc _).trans HU6.out (fun _ _ h => h)).trans hU67 (fun i hi e => by omega)
      obtain ⟨an, han⟩ : ∃ an, an = c0.all.length := ⟨_, rfl⟩
      have hvl := HVS.out.length
      rw [← han] at hbox7 hvl hall HVR ⊢
      have q2 := cell_blk hbox7 2 _ rfl
      have q3 := cell_blk hbox7 3 _ rfl
      have q2' : ∀ o, (w7.alloc o).cell? ⟨w5.heap.size, 2, none⟩ = some (.slice a2 b.length c2) := fun o => cell_blk (alloc_keep hbox7 o) 2 _ rfl
      have q3' : ∀ o, (w7.alloc o).cell? ⟨w5.heap.size, 3, none⟩ = some (.slice aa an ac) := fun o => cell_blk (alloc_keep hbox7 o) 3 _ rfl
      have HBOX := Lib.hid hbox7
      have HU67 := Lib.hid hU67
      have HVR7 := Lib.hid (HVR.out.kept (w' := w7) (fun _ _ h => h) (fun x hx _ _ => hU57.block x hx (fun h => h)))
      have HVL : Hid (vs.length = an * 1) := Lib.hid (by omega)
      have HV1 : Hid (∀ u ∈ vs, u.oneCell' = true) := Lib.hid (bbs_one HVS.out)
      have HAN := Lib.hid han
      have HS7 : Hid (w5.heap.size < w7.heap.size) := Lib.hid (lt_of_blk hbox7)
      clear han hw7 hbox7 hU67 hU57 hvl e1 ef1 e2 ef2 HBX
      obtain ⟨i1, hi1, hy0, hy1, hy2⟩ := info_parts info_bsR
      go_region_law (first
        | (refine step_appendN _ (by rfl) _ _ 55 (by rfl) 31 i1 _ 1 24 Try.underlying55 hi1 hy0 hy1 hy2 rfl (by decide) none 0 0 [] (by rfl) (World.ownsRow_nil _ _ _ _) aa an ac vs (by rfl) _ tBB (by exact IsRow.kept HVR7.out (fun _ _ h => h) (fun _ _ _ _ => rfl)) HVL.out HV1.out (by omega) (by omega) ?_; intro a' c' w8 hown hgrow hat; simp only [Nat.zero_add, List.nil_append] at hown; have HU8 := Lib.hid (((Upd.refl (fun _ => False) w7).drew).grown hgrow (fun _ _ h => by simp at h)); have HAT := Lib.hid (rput_a2 (w1 := w7) hat (by simp)); have HB8 := Lib.hid (HU8.out.keep HBOX.out (fun h => h)); have m82 := cell_blk HB8.out 2 _ rfl; have mal8 : ∀ o, (w8.alloc o).cell? ⟨w5.heap.size, 2, none⟩ = some (.slice a2 b.length c2) := fun o => cell_blk (alloc_keep HB8.out o) 2 _ rfl)
        | (refine step_appendN _ (by rfl) _ _ 55 (by rfl) 31 i1 _ 1 24 Try.underlying55 hi1 hy0 hy1 hy2 rfl (by decide) none 0 0 [] (by rfl) (World.ownsRow_nil _ _ _ _) aa an ac vs (by rfl) _ tBB (by exact IsRow.kept HVR7.out (fun _ _ h => h) (fun b hb _ _ => Below.heap_alloc _ _ _ hb)) HVL.out HV1.out (by omega) (by omega) ?_; intro a' c' w8 hown hgrow hat; simp only [Nat.zero_add, List.nil_append] at hown; have HU8 := Lib.hid ((((Upd.refl (fun _ => False) w7).alloc _).drew).grown hgrow (fun _ _ h => by simp at h)); have HAT := Lib.hid (rput_a2 (w1 := w7) hat (by simp)); have HBX := Lib.hid (grown_keep hgrow (drew_keep (heap_alloc_new w7 _)) (by simp)); have HB8 := Lib.hid (HU8.out.keep HBOX.out (fun h => h)); have m82 := cell_blk HB8.out 2 _ rfl; have mal8 : ∀ o, (w8.alloc o).cell? ⟨w5.heap.size, 2, none⟩ = some (.slice a2 b.length c2) := fun o => cell_blk (alloc_keep HB8.out o) 2 _ rfl)
        | (refine step_append1 _ (by rfl) _ _ 55 (by rfl) 31 i1 _ 1 24 Try.underlying55 hi1 hy0 hy1 hy2 rfl (by decide) a' an c' _ (by rfl) (by exact own_upd hown ((Upd.refl _ w8).alloc _)) w8.heap.size [.slice a2 b.length c2] 31 (0, 0) (by rfl) (heap_alloc_new _ _) rfl (by simp [Value.oneCell']) (by omega) (by decide) (w8.heap.size + 1) (by simp) ?_; intro g9 cap w9 hown9 hgrow9 hat9 hlt9; have HU9 := Lib.hid (rput_u3 (HU8.out.alloc _) HAT.out hgrow9); have HG := Lib.hid (rput_g3 HU8.out HAT.out hat9); have HB9 := Lib.hid (HU9.out.keep HBOX.out (fun h => h)); have m93 := cell_blk HB9.out 3 _ rfl; have n93 := free_blk HB9.out 3)
        | (refine step_append1 _ (by rfl) _ _ 55 (by rfl) 31 i1 _ 1 24 Try.underlying55 hi1 hy0 hy1 hy2 rfl (by decide) a' an c' _ (by rfl) hown w7.heap.size [.slice a2 b.length c2] 31 (0, 0) (by rfl) HBX.out rfl (by simp [Value.oneCell']) (by omega) (by decide) w8.heap.size (by rfl) ?_; intro g9 cap w9 hown9 hgrow9 hat9 hlt9; have HU9 := Lib.hid (rput_u3 HU8.out HAT.out hgrow9); have HG := Lib.hid (rput_g3 HU8.out HAT.out hat9); have HB9 := Lib.hid (HU9.out.keep HBOX.out (fun h => h)); have m93 := cell_blk HB9.out 3 _ rfl; have n93 := free_blk HB9.out 3))
      all_goals
        have hbt := blk_setCell HB9.out 3 (.slice (some ⟨g9, 0, none⟩) (an + 1) cap)
        have hUt : Upd (fun x => x = w5.heap.size) w6 (w9.setCell ⟨w5.heap.size, 3, none⟩ (.slice (some ⟨g9, 0, none⟩) (an + 1) cap)) := Upd.setCell (S := fun x => x = w5.heap.size) (HU67.out.trans HU9.out (fun i _ h => h.elim)) (p := ⟨w5.heap.size, 3, none⟩) (fun _ => rfl) _
        have hownt := own_set hown9 ⟨w5.heap.size, 3, none⟩ (.slice (some ⟨g9, 0, none⟩) (an + 1) cap) (by have := HG.out; have := HS7.out; simp; omega)
        generalize w9.setCell ⟨w5.heap.size, 3, none⟩ (.slice (some ⟨g9, 0, none⟩) (an + 1) cap) = wt at hbt hUt hownt ⊢
        obtain rfl := HAN.out
        have HM := Lib.hid (rput_mid2 HC5.out HU6.out hUt HFR.out HVS.out hownt (by have := HG.out; have := HS7.out; omega))
        have p0 := cell_blk hbt 0 _ rfl
        have p1 := cell_blk hbt 1 _ rfl
        have p2 := cell_blk hbt 2 _ rfl
        have p3 := cell_blk hbt 3 _ rfl
        have HFR := Lib.hid HC5.out.fR
        clear hbt hUt hownt hown9 hgrow9 hat9 hlt9 hown hgrow hat m82 mal8 m93 n93 q2 q3 q2' q3'
        go_wp2_with fail
        refine (rset_any wt _ R _ HM.out.1 K HKL.out ⟨c0.name, true, b, c0.all ++ [b]⟩ a2 b.length c2 HM.out.2.1 _ _ cap HM.out.2.2.1 (by show L2.length ≤ _; omega)).mono ?_
        rintro e w10 ⟨rfl, hS10, hU10⟩
        have HS10 := Lib.hid hS10
        have HU10 := Lib.hid hU10
        clear hS10 hU10
        go_wp2_with fail
        go_end0
        exact rput_end HFR.out HM.out.2.2.2 (HRT.out ▸ HS10.out) HU10.out
end Go.Proofs.Ytajmaebofhkjjaa
