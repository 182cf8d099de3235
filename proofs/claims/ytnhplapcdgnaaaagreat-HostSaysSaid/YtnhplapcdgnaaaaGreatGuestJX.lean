import Derived.Test.YtnhplapcdgnaaaaGreatGuestHX
import Derived.Test.YtnhplapcdgnaaaaGreatRangeX
import Derived.Shelf.RegionOpen
import Derived.Outline
import Derived.Deep.RegionHeld3
set_option linter.unusedVariables false
set_option linter.unusedSimpArgs false
namespace Go.Proofs.YtnhplapcdgnaaaaGreat
open Go.RowKit Go.Shelf
namespace U
attribute [local go_sem] Oper.semAt_some

/-- What was collected so far: in a box ob. -/
structure Col (w2 : World) (ob : Nat) (pre : List EntryM) (W : World) : Prop where
  ex : ∃ vo, Row W ob 96 1 (fun _ => vo) ∧ ERow W vo pre ∧ (∀ g, vo.ownBlock = some g → w2.heap.size ≤ g) ∧ Upd (at1 ob) w2 W
theorem Col.start {w2 : World} {ob : Nat} (h : Row w2 ob 96 1 (fun _ => .slice none 0 0)) : Col w2 ob [] w2 := ⟨_, h, ERow.nil, (fun g hg => by cases hg), Upd.refl _ _⟩
theorem Col.size {w2 W : World} {ob : Nat} {pre : List EntryM} (h : Col w2 ob pre W) : w2.heap.size ≤ W.heap.size := by obtain ⟨vo, _, _, _, u⟩ := h.ex; exact u.size
theorem Col.off {w2 W W' : World} {ob : Nat} {pre : List EntryM} (h : Col w2 ob pre W) (u : Upd (OffCells w2.heap.size W) W W') : Col w2 ob pre W' := by
  obtain ⟨vo, h1, h2, h3, h4⟩ := h.ex
  exact ⟨vo, h1.upd_ u h1.on_cells, h2.upd_ u (fun g hg => h2.on_cells hg), h3, h4.over' u (fun i hi => .inr hi.1)⟩
theorem Col.step {w2 W w3 : World} {ob : Nat} {vo v3 : Value} {pre : List EntryM} {e : EntryM} {o : Obj} (h1 : Row W ob 96 1 (fun _ => vo)) (h2 : ERow W vo pre) (h3 : ∀ g, vo.ownBlock = some g → w2.heap.size ≤ g) (h4 : Upd (at1 ob) w2 W)
    (hv : ERow w3 v3 (pre ++ [e])) (u : Upd (fun k => vo.ownBlock = some k) (W.alloc o) w3) (hb : v3.ownBlock = vo.ownBlock ∨ v3.ownBlock = some (W.alloc o).heap.size) :
    Col w2 ob (pre ++ [e]) (w3.setCell ⟨ob, 0, none⟩ v3) ∧ Upd (fun k => vo.ownBlock = some k ∨ k = ob) W (w3.setCell ⟨ob, 0, none⟩ v3) := by
  have r := (h1.alloc o).upd_ u (h2.ne_row h1 (by decide))
  have ua : Upd (fun k => vo.ownBlock = some k) W w3 := ((Upd.refl _ W).alloc o).trans u
  have uw : Upd (fun k => vo.ownBlock = some k ∨ k = ob) W (w3.setCell ⟨ob, 0, none⟩ v3) := (ua.mono fun k _ h => .inl h).setCell (p := ⟨ob, 0, none⟩) (fun _ => .inr rfl) _
  refine ⟨⟨v3, (r.set_ _).congr (fun i hi => by unfold upd; rw [if_pos (by omega)]), hv.farRow r (by decide) _, fun g hg => ?_, ?_⟩, uw⟩
  · rcases hb with hb | hb
    · exact h3 g (by rw [← hb]; exact hg)
    · rw [hb] at hg
      have := h4.size
      simp at hg
      omega
  · exact h4.over' uw fun i hi => by
      rcases hi with hi | rfl
      · exact .inr (h3 i hi)
      · exact .inl at1_self
theorem erow_no_mark {w : World} {v : Value} {L : List EntryM} {Ds : List Nat} (h : ERow w v L) (m : MarksAt w Ds) {D : Nat} (hD : D ∈ Ds) : ¬ v.ownBlock = some D := by
  rcases h with ⟨rfl, _⟩ | ⟨g, o, cap, C, rfl, h1, h2, h3, h4, h5⟩
  · intro e; cases e
  · intro e
    have e2 : g = D := by simpa [Value.ownBlock] using e
    rw [e2, m.held D hD] at h3
    cases h3

set_option maxRecDepth 100000 in
set_option maxHeartbeats 2000000 in
theorem gcached_any {w W : World} {L : PoolAt} {K : GAt} {v : Value} {P : PoolM} {M : MapM} {C : List EntryM} {root walks : Int} (t : PG w W L K v P M C root walks) (hC : C.length ≤ 100) :
    Calls Tryz.prog 93 #[.pointer (some ⟨K.g, 0, none⟩)] W fun e w' => ∃ v', e = .returned v' ∧ ERow w' v' C ∧ Fresh W v' ∧ Upd Non W w' := by
  have c2 := t.c2
  have lg := t.glt
  refine calls_of_wp_marks Tryz.func93 rfl ?_; simp only [Tryz.ntmps93, List.size_toArray, List.length_cons, List.length_nil, Nat.reduceAdd, Nat.reduceSub, Array.replicate_succ, Array.replicate_zero, List.push_toArray, List.append_toArray, List.nil_append, List.cons_append]
  go_wp2_with (go_at_call 118; refine (cAll_any _ K.cb v C (t.alloc _).cr (t.alloc _).ev hC).mono ?_; rintro y w2 ⟨B2, v2, rfl, r1, r2, r3, r4, r5⟩)
  have O2 := (row_one W 96 (.slice none 0 0)).upd_ r5 (fun h => h)
  have hw2 : W.heap.size + 1 ≤ w2.heap.size := by have := r5.size; simp at this; omega
  apply wp_range (Ds := []) (gf := 130) (lb := #[.pointer (some ⟨B2, 0, none⟩)]) rfl (enters_of Tryz.func130 (by kernel_rfl) rfl) (cAll_stops 8 (by omega) B2 v2 C _ r1 r2 (by omega)) (fun k hk => r2.lt hk) (fun _ => rfl)
    (fun pre W' => Col w2 W.heap.size (pre.map fun i => C[i.1]'i.2) W')
    (fun _ _ _ => False)
    (fun pre W W' h u => h.off u)
    (fun c pre W W' h u => h)
    (Col.start O2) (fun pre W h => h.size) (fun i => .cells (C[i.1]'i.2).cells.toArray 138) (fun _ => rfl)
  · -- assign
    intro l' pre y W K hi hK
    dsimp only [encE, EntryM.val, EntryM.cells]
    dsimp only [EntryM.cells] at hK
    gi_wp2
    generalize W.heap.size = z at hK ⊢
    exact hK
  · -- body
    rintro l' pre y Be W1 hi hBe hwB hlen
    have hf := EAt.of_box (e := C[y.1]'y.2) hBe
    obtain ⟨e, he⟩ : ∃ e, C[y.1]'y.2 = e := ⟨_, rfl⟩
    have hen : (pre ++ [y]).map (fun i => C[i.1]'i.2) = pre.map (fun i => C[i.1]'i.2) ++ [e] := by simp [he]
    have HE := Lib.hid hen
    rw [he] at hf
    obtain ⟨vo, hv1, hv2, hv3, hv4⟩ := hi.ex
    clear hi
    have c1 := hv1.cell (i := 0) (by omega)
    have f1 := hv1.frozen 0
    have lW := hv1.lt
    have hll : ((pre.map fun i => C[i.1]'i.2).length) ≤ 100000 := by rw [List.length_map]; omega
    have HL := Lib.hid hll
    have HX := Lib.hid (show ((pre.map fun i => C[i.1]'i.2) ++ [e]).length = pre.length + 1 by simp)
    obtain ⟨f0, f1', f2, f3, f4, f5, f6⟩ := hf
    have hBo : Be ≠ W.heap.size := by omega
    clear he hen hll hBe
    gi_wp2_with (gi_at_builtin; refine wplIn_append_e Tryz.underlying96 rfl _ _ rfl vo _ rfl rfl _ e (hv2.alloc _) HL.out (ebox _ e) ?_; intro v3 w3 hv3' u3 hb3; obtain ⟨A3, cap3, rfl⟩ := hv3'.form; rw [HX.out] at hv3' hb3; have K := Lib.hid (Col.step hv1 hv2 hv3 hv4 hv3' u3 hb3); have hv1' := (hv1.alloc (.cells e.cells.toArray 138)).upd_ u3 (hv2.ne_row hv1 (by decide)); have c3 := hv1'.cell (i := 0) (by omega); have f3 := hv1'.frozen 0)
    refine round_on K.out.2 ?_ ?_ (show Col _ _ ((pre ++ [y]).map fun i => C[i.1]'i.2) _ by rw [HE.out]; exact K.out.1)
    · rintro k (hk | rfl)
      · exact .inr (hv2.are_cells hk)
      · exact .inl hw2
    · rintro k hk (hk2 | rfl)
      · have := r2.lt hk
        have := hv3 k hk2
        omega
      · exact r2.ne_row O2 (by decide) hk
  · -- done
    rintro D xs W1 hD rfl hi hDD
    rw [finRange_entries] at hi
    obtain ⟨vo, hv1, hv2, hv3, hv4⟩ := hi.ex
    have c1 := hv1.cell (i := 0) (by omega)
    have lb := hv1.lt
    have mk : MarksAt W1 [D] := (MarksAt.nil _).cons hDD (by simp)
    obtain ⟨Ao, capo, rfl⟩ := hv2.form
    clear hi
    go_wp2_with fail
    refine marked_ret mk fun w' u' => ⟨.slice Ao C.length capo, ?_, _, rfl, hv2.upd_ u' (fun g hg hk => by rcases List.mem_singleton.1 hk with rfl; exact erow_no_mark hv2 mk (List.mem_singleton.2 rfl) hg), fun g hg => by have := hv3 g hg; omega, ?_⟩
    · simp [results, Tryz.results93, go_sem]
    · exact ((((Upd.refl Non W).alloc _).trans r5).over hv4 (by rintro i rfl; exact Nat.le_refl _)).over u' (by intro i hi; rcases List.mem_singleton.1 hi with rfl; omega)
  · rintro D c' pre W hD _ h _
    exact h.elim

end U
end Go.Proofs.YtnhplapcdgnaaaaGreat

set_option linter.unusedVariables false
set_option linter.unusedSimpArgs false
namespace Go.Proofs.YtnhplapcdgnaaaaGreat
open Go.RowKit
namespace U

/-! The program's guest: New, Copy. -/
section
variable {w W : World} {L : PoolAt} {K : GAt} {v : Value} {P : PoolM} {M : MapM} {C : List EntryM} {root walks : Int}

set_option maxRecDepth 100000 in
theorem gnew_nil (w : World) : Calls Tryz.prog 25 #[.pointer none] w fun e w' => e = .returned (.tuple #[.pointer none, errv 2]) ∧ w = w' := by
  have hz : Hid (errv 2 = .iface 52 (.int .i64 2)) := rfl
  rw [hz.out]
  go_enter Tryz.func25, Tryz.ntmps25
  go_wp2_with (go_at_call 71; refine (mapNew_nil _).mono ?_; rw [hz.out]; rintro e w2 ⟨rfl, rfl⟩)
  go_ret2
  exact ⟨rfl, rfl⟩

theorem gcells_row (w : World) (p : Nat) (K : GAt) (root walks : Int) (h : w.heap.size = K.g) :
    Row (w.alloc (.cells #[.pointer (some ⟨p, 0, none⟩), .pointer (some ⟨K.mb, 0, none⟩), .pointer (some ⟨K.cb, 0, none⟩), .int .i64 root, .int .i64 walks] 120)) K.g 120 5 (gcells p K root walks) := by
  rw [← h]
  refine (Row.new w 120 #[.pointer (some ⟨p, 0, none⟩), .pointer (some ⟨K.mb, 0, none⟩), .pointer (some ⟨K.cb, 0, none⟩), .int .i64 root, .int .i64 walks]).congr fun i hi => ?_
  have hi : i < 5 := hi
  have : i = 0 ∨ i = 1 ∨ i = 2 ∨ i = 3 ∨ i = 4 := by omega
  rcases this with rfl | rfl | rfl | rfl | rfl <;> rfl

set_option maxRecDepth 100000 in
theorem gnew_any (w : World) (p : Nat) : Calls Tryz.prog 25 #[.pointer (some ⟨p, 0, none⟩)] w fun e w' =>
    ∃ K : GAt, e = .returned (.tuple #[.pointer (some ⟨K.g, 0, none⟩), .nilIface]) ∧ GRep w' p K GuestM.fresh ∧ (∀ k, K.own k → w.heap.size ≤ k) ∧ Upd Non w w' := by
  go_enter Tryz.func25, Tryz.ntmps25
  go_wp2_with (go_at_call 71; refine (mapNew_any _ p).mono ?_; rintro e w2 ⟨g, rfl, q2, l4, u2⟩)
  go_ret2
  have hz := u2.size
  refine ⟨⟨w2.heap.size + 1, g, w2.heap.size, .slice none 0 0⟩, rfl, ⟨gcells_row (w2.alloc _) p ⟨w2.heap.size + 1, g, w2.heap.size, .slice none 0 0⟩ (-1) 0 (by simp), (q2.alloc _).alloc _, (row_one w2 128 (.slice none 0 0)).alloc _, ERow.nil⟩, ?_, (u2.alloc _).alloc _⟩
  rintro k ((rfl | rfl) | (rfl | h))
  · show w.heap.size ≤ w2.heap.size + 1; omega
  · exact l4
  · exact hz
  · cases h

set_option maxRecDepth 100000 in
set_option maxHeartbeats 2000000 in
theorem gcopy_any (t : PG w W L K v P M C root walks) (hC : C.length ≤ 100) (q : Nat) :
    Calls Tryz.prog 21 #[.pointer (some ⟨K.g, 0, none⟩), .pointer (some ⟨q, 0, none⟩)] W fun e w' =>
      ∃ K' : GAt, e = .returned (.pointer (some ⟨K'.g, 0, none⟩)) ∧ GRw w' q K' M C root walks ∧ (∀ k, K'.own k → W.heap.size ≤ k) ∧ Upd Non W w' := by
  have c0 := t.c0
  have c1 := t.c1
  have c2 := t.c2
  have c3 := t.c3
  have c4 := t.c4
  have lg := t.glt
  go_enter Tryz.func21, Tryz.ntmps21
  go_wp2_with fail
  have tb := t.alloc (.cells #[.pointer (some ⟨L.p, 0, none⟩), .pointer (some ⟨K.mb, 0, none⟩), .pointer (some ⟨K.cb, 0, none⟩), .int .i64 root, .int .i64 walks] 120)
  have rb := gcells_row W L.p ⟨W.heap.size, K.mb, K.cb, v⟩ root walks rfl
  clear c0 c1 c2 c3 c4
  have hz0 : W.heap.size < (W.alloc (.cells #[.pointer (some ⟨L.p, 0, none⟩), .pointer (some ⟨K.mb, 0, none⟩), .pointer (some ⟨K.cb, 0, none⟩), .int .i64 root, .int .i64 walks] 120)).heap.size := by simp
  have ub : Upd Non W (W.alloc (.cells #[.pointer (some ⟨L.p, 0, none⟩), .pointer (some ⟨K.mb, 0, none⟩), .pointer (some ⟨K.cb, 0, none⟩), .int .i64 root, .int .i64 walks] 120)) := (Upd.refl _ _).alloc _
  generalize W.alloc (.cells #[.pointer (some ⟨L.p, 0, none⟩), .pointer (some ⟨K.mb, 0, none⟩), .pointer (some ⟨K.cb, 0, none⟩), .int .i64 root, .int .i64 walks] 120) = wb at tb rb hz0 ub ⊢
  have c1 := tb.c1
  have c2 := tb.c2
  have hgb : K.g ≠ W.heap.size := by omega
  have hgb' : W.heap.size ≠ K.g := by omega
  dsimp only at rb
  have b0 := rb.cell (i := 0) (by omega)
  have b1 := rb.cell (i := 1) (by omega)
  have b2 := rb.cell (i := 2) (by omega)
  have f0 := rb.frozen 0
  have f1 := rb.frozen 1
  have f2 := rb.frozen 2
  clear lg t
  go_region_held3 (fun w' => w'.cell? ⟨K.g, 1, none⟩ = some (.pointer (some ⟨K.mb, 0, none⟩)) ∧ w'.cell? ⟨K.g, 2, none⟩ = some (.pointer (some ⟨K.cb, 0, none⟩))) (go_keep) (first
    | (go_at_call 65; refine (mapCopy_any _ K.mb L.p q M (PG.m (w := w) (L := L) (K := K) (v := v) (P := P) (M := M) (C := C) (root := root) (walks := walks) (by repeat (first | assumption | apply PG.alloc | apply PG.drew | apply PG.drewN)))).mono ?_; rintro e wA ⟨mb', rfl, qm, lm, um⟩; have tA : PG w wA L K v P M C root walks := PG.non (by repeat (first | assumption | apply PG.alloc | apply PG.drew | apply PG.drewN)) um; have za1 := tA.c1; have za2 := tA.c2; have ra : Row wA W.heap.size 120 5 (gcells L.p ⟨W.heap.size, K.mb, K.cb, v⟩ root walks) := Row.upd_ (by repeat (first | assumption | apply Row.alloc | apply Row.drew | apply Row.drewN)) um (fun h => h); have xa0 := ra.cell (i := 0) (by omega); have xa1 := ra.cell (i := 1) (by omega); have xa2 := ra.cell (i := 2) (by omega); have ya0 := ra.frozen 0; have ya1 := ra.frozen 1; have ya2 := ra.frozen 2)
    | (go_at_call 66; refine (cCopy_any _ K.cb v C (PG.cr (w := w) (L := L) (K := K) (v := v) (P := P) (M := M) (C := C) (root := root) (walks := walks) (by repeat (first | assumption | apply PG.alloc | apply PG.drew | apply PG.drewN))) (PG.ev (w := w) (L := L) (K := K) (v := v) (P := P) (M := M) (C := C) (root := root) (walks := walks) (by repeat (first | assumption | apply PG.alloc | apply PG.drew | apply PG.drewN))) hC).mono ?_; rintro e wB ⟨cb', v', rfl, rc, ec, fv, lc, uc⟩; have tB : PG w wB L K v P M C root walks := PG.non (by repeat (first | assumption | apply PG.alloc | apply PG.drew | apply PG.drewN)) uc; have zb1 := tB.c1; have zb2 := tB.c2; have rb : Row wB W.heap.size 120 5 (gcells L.p ⟨W.heap.size, K.mb, K.cb, v⟩ root walks) := Row.upd_ (by repeat (first | assumption | apply Row.alloc | apply Row.drew | apply Row.drewN)) uc (fun h => h); have xb0 := rb.cell (i := 0) (by omega); have xb1 := rb.cell (i := 1) (by omega); have xb2 := rb.cell (i := 2) (by omega); have yb0 := rb.frozen 0; have yb1 := rb.frozen 1; have yb2 := rb.frozen 2))
  all_goals go_wp2_with fail
  all_goals go_ret
  all_goals (
    have hsz := ub.size
    have q2 := qm.upd_ uc (fun h => h)
    have lA := um.size
    have lA : wb.heap.size ≤ wA.heap.size := lA
    have lc2 : wA.heap.size ≤ cb' := lc
    have lm2 : wb.heap.size ≤ mb' := lm
    have uS := Upd.sc3 (S := at1 W.heap.size) (Upd.refl _ wB) at1_self 0 1 2 (.pointer (some ⟨q, 0, none⟩)) (.pointer (some ⟨mb', 0, none⟩)) (.pointer (some ⟨cb', 0, none⟩))
    refine ⟨⟨W.heap.size, mb', cb', v'⟩, rfl, ⟨?_, q2.upd_ uS (by intro h; unfold at1 at h; omega), rc.upd_ uS (by intro h; unfold at1 at h; omega), ec.upd_ uS (fun g hg h => by have := fv g hg; unfold at1 at h; have : wA.heap.size ≤ g := this; omega)⟩, ?_, ((ub.drew.trans um).trans uc).over uS (by rintro i rfl; exact Nat.le_refl _)⟩
    · refine (((rb.set_ (i := 0) _).set_ (i := 1) _).set_ (i := 2) _).congr fun i hi => ?_
      have : i = 0 ∨ i = 1 ∨ i = 2 ∨ i = 3 ∨ i = 4 := by omega
      rcases this with rfl | rfl | rfl | rfl | rfl <;> rfl
    · rintro k ((h | h) | (h | h))
      · have h : k = W.heap.size := h
        omega
      · have h : k = mb' := h
        omega
      · have h : k = cb' := h
        omega
      · have : wA.heap.size ≤ k := fv k h
        omega)
end

end U
end Go.Proofs.YtnhplapcdgnaaaaGreat
