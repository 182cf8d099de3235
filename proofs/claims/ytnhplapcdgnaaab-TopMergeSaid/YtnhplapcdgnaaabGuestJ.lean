import Derived.Test.YtnhplapcdgnaaabGuestI
import Derived.Test.YtnhplapcdgnaaabQuietR
import Derived.Shelf.RegionOpen
import Derived.Outline
set_option linter.unusedVariables false
set_option linter.unusedSimpArgs false
namespace Go.Proofs.Ytnhplapcdgnaaab
open Go.RowKit Go.Shelf
namespace U
attribute [local go_sem] Oper.semAt_some

/-- What was collected so far: in a box ob. -/
structure Col (w2 : World) (ob : Nat) (pre : List EntryM) (W : World) : Prop where
  ex : ∃ vo, Row W ob 74 1 (fun _ => vo) ∧ ERow W vo pre ∧ (∀ g, vo.ownBlock = some g → w2.heap.size ≤ g) ∧ Upd (at1 ob) w2 W
theorem Col.start {w2 : World} {ob : Nat} (h : Row w2 ob 74 1 (fun _ => .slice none 0 0)) : Col w2 ob [] w2 := ⟨_, h, ERow.nil, (fun g hg => by cases hg), Upd.refl _ _⟩
theorem Col.size {w2 W : World} {ob : Nat} {pre : List EntryM} (h : Col w2 ob pre W) : w2.heap.size ≤ W.heap.size := by obtain ⟨vo, _, _, _, u⟩ := h.ex; exact u.size
theorem Col.off {w2 W W' : World} {ob : Nat} {pre : List EntryM} (h : Col w2 ob pre W) (u : Upd (OffCells w2.heap.size W) W W') : Col w2 ob pre W' := by
  obtain ⟨vo, h1, h2, h3, h4⟩ := h.ex
  exact ⟨vo, h1.upd_ u h1.on_cells, h2.upd_ u (fun g hg => h2.on_cells hg), h3, h4.over' u (fun i hi => .inr hi.1)⟩
theorem Col.step {w2 W w3 : World} {ob : Nat} {vo v3 : Value} {pre : List EntryM} {e : EntryM} {o : Obj} (h1 : Row W ob 74 1 (fun _ => vo)) (h2 : ERow W vo pre) (h3 : ∀ g, vo.ownBlock = some g → w2.heap.size ≤ g) (h4 : Upd (at1 ob) w2 W)
    (hv : ERow w3 v3 (pre ++ [e])) (u : Upd (fun k => vo.ownBlock = some k) (W.alloc o) w3) (hb : v3.ownBlock = vo.ownBlock ∨ v3.ownBlock = some (W.alloc o).heap.size) :
    Col w2 ob (pre ++ [e]) (w3.setCell ⟨ob, 0, none⟩ v3) ∧ Upd (fun k => vo.ownBlock = some k ∨ k = ob) W (w3.setCell ⟨ob, 0, none⟩ v3) := by
  have r := (h1.alloc o).upd_ u (h2.ne_row h1 (by decide))
  have ua : Upd (fun k => vo.ownBlock = some k) W w3 := ((Upd.refl _ W).alloc o).trans u
  have uw : Upd (fun k => vo.ownBlock = some k ∨ k = ob) W (w3.setCell ⟨ob, 0, none⟩ v3) := (ua.mono fun k _ h => .inl h).setCell (p := ⟨ob, 0, none⟩) (fun _ => .inr rfl) _
  refine ⟨⟨v3, (r.set_ _).congr (fun i hi => by unfold upd; rw [if_pos (by omega)]), hv.farRow r (by decide) _, fun g hg => ?_, ?_⟩, uw⟩
  · rcases hb with hb | hb
    · exact h3 g (by rw [← hb]; exact hg)
    · rw [hb] at hg
      have := h4.size
      simp at hg
      omega
  · exact h4.over' uw fun i hi => by
      rcases hi with hi | rfl
      · exact .inr (h3 i hi)
      · exact .inl at1_self
theorem erow_no_mark {w : World} {v : Value} {L : List EntryM} {Ds : List Nat} (h : ERow w v L) (m : MarksAt w Ds) {D : Nat} (hD : D ∈ Ds) : ¬ v.ownBlock = some D := by
  rcases h with ⟨rfl, _⟩ | ⟨g, o, cap, C, rfl, h1, h2, h3, h4, h5⟩
  · intro e; cases e
  · intro e
    have e2 : g = D := by simpa [Value.ownBlock] using e
    rw [e2, m.held D hD] at h3
    cases h3

set_option maxRecDepth 100000 in
set_option maxHeartbeats 2000000 in
theorem gcached_any {w W : World} {L : PoolAt} {K : GAt} {v : Value} {P : PoolM} {M : MapM} {C : List EntryM} {root walks : Int} (t : PG w W L K v P M C root walks) (hC : C.length ≤ 100) :
    Calls Try.prog 54 #[.pointer (some ⟨K.g, 0, none⟩)] W fun e w' => ∃ v', e = .returned v' ∧ ERow w' v' C ∧ Fresh W v' ∧ Upd Non W w' := by
  have c2 := t.c2
  have lg := t.glt
  refine calls_of_wp_marks Try.func54 rfl ?_; simp only [Try.ntmps54, List.size_toArray, List.length_cons, List.length_nil, Nat.reduceAdd, Nat.reduceSub, Array.replicate_succ, Array.replicate_zero, List.push_toArray, List.append_toArray, List.nil_append, List.cons_append]
  go_wp2_with (go_at_call 73; refine (cAll_any _ K.cb v C (t.alloc _).cr (t.alloc _).ev hC).mono ?_; rintro y w2 ⟨B2, v2, rfl, r1, r2, r3, r4, r5⟩)
  have O2 := (row_one W 74 (.slice none 0 0)).upd_ r5 (fun h => h)
  have hw2 : W.heap.size + 1 ≤ w2.heap.size := by have := r5.size; simp at this; omega
  apply wp_range (Ds := []) (gf := 86) (lb := #[.pointer (some ⟨B2, 0, none⟩)]) rfl (enters_of Try.func86 (by kernel_rfl) rfl) (cAll_stops 8 (by omega) B2 v2 C _ r1 r2 (by omega)) (fun k hk => r2.lt hk) (fun _ => rfl)
    (fun pre W' => Col w2 W.heap.size (pre.map fun i => C[i.1]'i.2) W')
    (fun _ _ _ => False)
    (fun pre W W' h u => h.off u)
    (fun c pre W W' h u => h)
    (Col.start O2) (fun pre W h => h.size) (fun i => .cells (C[i.1]'i.2).cells.toArray 78) (fun _ => rfl)
  · -- assign
    intro l' pre y W K hi hK
    dsimp only [encE, EntryM.val, EntryM.cells]
    dsimp only [EntryM.cells] at hK
    gi_wp2
    generalize W.heap.size = z at hK ⊢
    exact hK
  · -- body
    rintro l' pre y Be W1 hi hBe hwB hlen
    have hf := EAt.of_box (e := C[y.1]'y.2) hBe
    obtain ⟨e, he⟩ : ∃ e, C[y.1]'y.2 = e := ⟨_, rfl⟩
    have hen : (pre ++ [y]).map (fun i => C[i.1]'i.2) = pre.map (fun i => C[i.1]'i.2) ++ [e] := by simp [he]
    have HE := Lib.hid hen
    rw [he] at hf
    obtain ⟨vo, hv1, hv2, hv3, hv4⟩ := hi.ex
    clear hi
    have c1 := hv1.cell (i := 0) (by omega)
    have f1 := hv1.frozen 0
    have lW := hv1.lt
    have hll : ((pre.map fun i => C[i.1]'i.2).length) ≤ 100000 := by rw [List.length_map]; omega
    have HL := Lib.hid hll
    have HX := Lib.hid (show ((pre.map fun i => C[i.1]'i.2) ++ [e]).length = pre.length + 1 by simp)
    obtain ⟨f0, f1', f2, f3, f4, f5, f6⟩ := hf
    have hBo : Be ≠ W.heap.size := by omega
    clear he hen hll hBe
    gi_wp2_with (gi_at_builtin; refine wplIn_append_e Try.underlying74 rfl _ _ rfl vo _ rfl rfl _ e (hv2.alloc _) HL.out (ebox _ e) ?_; intro v3 w3 hv3' u3 hb3; obtain ⟨A3, cap3, rfl⟩ := hv3'.form; rw [HX.out] at hv3' hb3; have K := Lib.hid (Col.step hv1 hv2 hv3 hv4 hv3' u3 hb3); have hv1' := (hv1.alloc (.cells e.cells.toArray 78)).upd_ u3 (hv2.ne_row hv1 (by decide)); have c3 := hv1'.cell (i := 0) (by omega); have f3 := hv1'.frozen 0)
    refine round_on K.out.2 ?_ ?_ (show Col _ _ ((pre ++ [y]).map fun i => C[i.1]'i.2) _ by rw [HE.out]; exact K.out.1)
    · rintro k (hk | rfl)
      · exact .inr (hv2.are_cells hk)
      · exact .inl hw2
    · rintro k hk (hk2 | rfl)
      · have := r2.lt hk
        have := hv3 k hk2
        omega
      · exact r2.ne_row O2 (by decide) hk
  · -- done
    rintro D xs W1 hD rfl hi hDD
    rw [finRange_entries] at hi
    obtain ⟨vo, hv1, hv2, hv3, hv4⟩ := hi.ex
    have c1 := hv1.cell (i := 0) (by omega)
    have lb := hv1.lt
    have mk : MarksAt W1 [D] := (MarksAt.nil _).cons hDD (by simp)
    obtain ⟨Ao, capo, rfl⟩ := hv2.form
    clear hi
    go_wp2_with fail
    refine marked_ret mk fun w' u' => ⟨.slice Ao C.length capo, ?_, _, rfl, hv2.upd_ u' (fun g hg hk => by rcases List.mem_singleton.1 hk with rfl; exact erow_no_mark hv2 mk (List.mem_singleton.2 rfl) hg), fun g hg => by have := hv3 g hg; omega, ?_⟩
    · simp [results, Try.results54, go_sem]
    · exact ((((Upd.refl Non W).alloc _).trans r5).over hv4 (by rintro i rfl; exact Nat.le_refl _)).over u' (by intro i hi; rcases List.mem_singleton.1 hi with rfl; omega)
  · rintro D c' pre W hD _ h _
    exact h.elim

end U
end Go.Proofs.Ytnhplapcdgnaaab
