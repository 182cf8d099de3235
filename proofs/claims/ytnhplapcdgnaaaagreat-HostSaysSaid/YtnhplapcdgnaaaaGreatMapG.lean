import Derived.Test.YtnhplapcdgnaaaaGreatMapX
set_option linter.unusedVariables false
set_option linter.unusedSimpArgs false
namespace Go.Proofs.YtnhplapcdgnaaaaGreat
open Go.RowKit
namespace U

/-- On the way of a page that moves: the pool, the map as it was, what the local leaf holds. -/
structure Mv (w W : World) (L : PoolAt) (g N : Nat) (M : MapM) (k : Nat) (P : PoolM) : Prop where
  rp : PoolRep W L P
  m : MRep W g 140 N L.p M
  b0 : W.cell? ⟨w.heap.size, 0, none⟩ = some (.bool true)
  b2 : W.cell? ⟨w.heap.size, 2, none⟩ = some (.int .i64 (M.leaf k).frame)
  up : Upd (ownM L g) w W
theorem Mv.drewN {w W : World} {L : PoolAt} {g N : Nat} {M : MapM} {k : Nat} {P : PoolM} (t : Mv w W L g N M k P) (n : Nat) : Mv w (W.drewN n) L g N M k P := ⟨t.rp.drewN n, t.m.drewN n, t.b0, t.b2, t.up.drewN n⟩
theorem Mv.drew {w W : World} {L : PoolAt} {g N : Nat} {M : MapM} {k : Nat} {P : PoolM} (t : Mv w W L g N M k P) : Mv w W.drew L g N M k P := t.drewN 1
theorem Mv.step {w W W' : World} {L : PoolAt} {g N : Nat} {M : MapM} {k : Nat} {P P' : PoolM} (t : Mv w W L g N M k P) (h1 : ¬ L.own g) (h2 : ¬ L.own w.heap.size) (r : PoolRep W' L P') (u : Upd L.own W W') : Mv w W' L g N M k P' :=
  ⟨r, t.m.upd_ u h1, u.cell t.b0 h2, u.cell t.b2 h2, t.up.trans u.toM⟩

set_option maxRecDepth 100000 in
set_option maxHeartbeats 1000000 in
theorem touch_move (w : World) (L : PoolAt) (P : PoolM) (g N : Nat) (M : MapM) (rp : PoolRep w L P) (r : MRep w g 140 N L.p M) (k : Nat) (hk : k < 16)
    (s0 : M.state k ≠ 0) (s2 : M.state k ≠ 2) (ht : (M.leaf k).there = true) (hw : (M.leaf k).write = false) (h1 : (P.of (M.leaf k).frame).2.2 = 0) (h2 : (P.of (M.leaf k).frame).2.1 ≠ 1) (f : Nat) (hf : P.free = some f) :
    Calls Tryz.prog 119 #[.pointer (some ⟨g, 0, none⟩), .int .i64 k, .bool true] w (TouchPost w L g N (P.move (M.leaf k) f, M.setLeaf k ⟨true, true, f⟩, f, (M.leaf k).there, 0)) := by
  have ho' : onB k = true := onB_iff.2 ⟨by omega, by omega⟩
  have c0 := r.c0
  have c1 := r.st hk
  have c2 := r.l0 hk
  have c3 := r.l1 hk
  have c4 := r.l2 hk
  have f4 := r.fr (17 + k * 3 + 1)
  have lg := r.lt
  have lg1 : g < w.heap.size + 1 := by omega
  have lg2 : ¬ g = w.heap.size + 1 := by omega
  have lg3 : ¬ w.heap.size + 1 = g := by omega
  have hne := map_ne rp r (by decide) (by decide) (by decide)
  rw [hw] at c3
  have s0' : (M.state k == 0) = false := by simpa using s0
  have s2' : (M.state k == 2) = false := by simpa using s2
  have e1 := Lib.hid h1
  have hr' : ((P.of (M.leaf k).frame).2.1 == 1) = false := by simpa using h2
  have t1 := Lib.hid (take_some hf).1
  have t2 := Lib.hid (take_some hf).2
  have F := Lib.hid (show P.move (M.leaf k) f = (((P.take.1).fill f (M.leaf k).frame).1.share (M.leaf k).frame (-1)).1 by unfold PoolM.move; rw [ht]; rfl)
  have hl := rp.lts'
  have hno : ¬ L.own g := fun h => h.elim hne.2.1 hne.2.2
  have hbo : ¬ L.own w.heap.size := by unfold PoolAt.own; omega
  have b0 : (w.alloc (.cells #[.bool true, .bool false, .int .i64 (M.leaf k).frame] 88)).cell? ⟨w.heap.size, 0, none⟩ = some (.bool true) := by
    rw [cell_of_row _ w.heap.size 0 _ _ (0, 0) (heap_alloc_new w _)]; rfl
  clear s0 s2 h1 h2 hw hf
  have bx : (w.alloc (.cells #[.bool true, .bool false, .int .i64 (M.leaf k).frame] 88)).cell? ⟨w.heap.size, 2, none⟩ = some (.int .i64 (M.leaf k).frame) := by
    rw [cell_of_row _ w.heap.size 2 _ _ (0, 0) (heap_alloc_new w _)]; rfl
  go_enter Tryz.func119, Tryz.ntmps119
  go_wp2_with (go_at_call 103; refine (on_any _ _).mono ?_; rintro e w' ⟨rfl, rfl⟩)
  go_region_held3 (fun w' => w'.cell? ⟨g, 0, none⟩ = some (.pointer (some ⟨L.p, 0, none⟩)) ∧ w'.cell? ⟨w.heap.size, 2, none⟩ = some (.int .i64 (M.leaf k).frame)) (go_keep) (first | (go_at_call 92; refine (of_any _ L P (by repeat (first | assumption | apply PoolRep.alloc | apply PoolRep.drew | apply PoolRep.drewN)) _).mono ?_; rw [e1.out, show errv 0 = Value.nilIface from rfl]; unfold frameV; rintro e w2 ⟨rfl, u2⟩; obtain ⟨hcc, hff⟩ := u2.cells; have hz := u2.size; simp at hz; have rp2 := PoolRep.upd_ (by repeat (first | assumption | apply PoolRep.alloc | apply PoolRep.drew | apply PoolRep.drewN)) u2 (fun h => h) (fun h => h) (fun h => h); have hl2 := rp2.lts'; have U2 : Upd Non w w2 := Upd.trans (by repeat (first | assumption | apply Upd.alloc | apply Upd.drew | apply Upd.drewN | exact Upd.refl _ _)) u2; have m2 := MRep.upd_ (by repeat (first | assumption | apply MRep.alloc | apply MRep.drew | apply MRep.drewN) : MRep _ g 140 N L.p M) u2 (fun h => h); have q0 := m2.c0; have q1 := m2.lt; have q2 : w.heap.size < w2.heap.size := (by omega); have q4 : ¬ w2.heap.size = g := (by omega); have q5 : ¬ w2.heap.size = w.heap.size := (by omega); have q3 : w2.cell? ⟨w.heap.size, 2, none⟩ = some (.int .i64 (M.leaf k).frame) := (hcc _ _ (by first | (simp; done) | (simp; omega))).trans (by first | exact bx | exact (World.cell?_alloc_lt _ _ _ (by simp)).trans bx)); have q6 : w2.cell? ⟨w.heap.size, 0, none⟩ = some (.bool true) := (hcc _ _ (by first | (simp; done) | (simp; omega))).trans (by first | exact b0 | exact (World.cell?_alloc_lt _ _ _ (by simp)).trans b0))
  · have T : Mv w (w2.alloc (.cells #[.int .i64 (P.of (M.leaf k).frame).1, .int .i64 (P.of (M.leaf k).frame).2.1] 104)) L g N M k P :=
      ⟨rp2.alloc _, m2.alloc _, (World.cell?_alloc_lt _ _ _ q2).trans q6, (World.cell?_alloc_lt _ _ _ q2).trans q3, (U2.mono (fun _ _ h => h.elim)).alloc _⟩
    clear q0 q3 q6 c0 c1 c2 c3 c4
    have q0 := T.m.c0
    have x0 := T.b0
    have x2 := T.b2
    go_wp2_with (go_at_call 131; refine (take_any _ L P (Mv.rp (by repeat (first | assumption | apply Mv.drew | apply Mv.drewN) : Mv w _ L g N M k _))).mono ?_; rw [t1.out, t2.out, show errv 0 = Value.nilIface from rfl]; rintro e w3 ⟨rfl, p3, u3⟩; have T3 := Mv.step (by repeat (first | assumption | apply Mv.drew | apply Mv.drewN) : Mv w _ L g N M k _) hno hbo p3 u3; have y0 := T3.m.c0; have y1 := T3.b0; have y2 := T3.b2)
    go_region_with (go_at_call 132; refine (fill_any _ L P.take.1 (Mv.rp (by repeat (first | assumption | apply Mv.drew | apply Mv.drewN) : Mv w _ L g N M k _)) _ _).mono ?_; rintro e w4 ⟨rfl, p4, u4⟩; have T4 := Mv.step (by repeat (first | assumption | apply Mv.drew | apply Mv.drewN) : Mv w _ L g N M k _) hno hbo p4 u4; have z0 := T4.m.c0; have z1 := T4.b0; have z2 := T4.b2)
    all_goals go_wp2_with fail
    all_goals go_region_with (go_at_call 122; refine (drop_any _ L (P.take.1.fill f (M.leaf k).frame).1 (Mv.rp (by repeat (first | assumption | apply Mv.drew | apply Mv.drewN) : Mv w _ L g N M k _)) _).mono ?_; rintro e w5 ⟨rfl, p5, u5⟩; have T5 := Mv.step (by repeat (first | assumption | apply Mv.drew | apply Mv.drewN) : Mv w _ L g N M k _) hno hbo p5 u5; have v0 := T5.m.c0; have v1 := T5.b0; have v2 := T5.b2; have d0 := T5.m.l0 hk; have d1 := T5.m.l1 hk; have d2 := T5.m.l2 hk; have h0 := T5.m.fr (17 + k * 3); have h1 := T5.m.fr (17 + k * 3 + 1); have h2 := T5.m.fr (17 + k * 3 + 2))
    all_goals go_wp2
    all_goals go_quiet (fail)
    all_goals go_wp2
    all_goals go_ret3
    all_goals refine ⟨by rw [ht]; rfl, by rw [F.out]; exact (p5.keep3 hne _ _ _ _ _ _).drewN _, (T5.m.setLeaf (l := ⟨true, true, f⟩) hk).drewN _, (T5.up.sc3 (S := ownM L g) (.inr rfl) _ _ _ _ _ _).drewN _⟩
  · have ub := (Upd.refl (at1 (w.heap.size + 1)) w2).sc2 at1_self 0 1 (.int .i64 (P.of (M.leaf k).frame).1) (.int .i64 (P.of (M.leaf k).frame).2.1)
    have T : Mv w ((w2.setCell ⟨w.heap.size + 1, 0, none⟩ (.int .i64 (P.of (M.leaf k).frame).1)).setCell ⟨w.heap.size + 1, 1, none⟩ (.int .i64 (P.of (M.leaf k).frame).2.1)) L g N M k P :=
      ⟨rp2.upd_ ub (by unfold at1; omega) (by unfold at1; omega) (by unfold at1; omega), m2.upd_ ub (by unfold at1; omega), ub.cell q6 (by unfold at1; simp), ub.cell q3 (by unfold at1; simp), (U2.mono (fun _ _ h => h.elim)).over' ub (fun i hi => .inr (by unfold at1 at hi; omega))⟩
    clear q0 q3 q6 c0 c1 c2 c3 c4
    have q0 := T.m.c0
    have x0 := T.b0
    have x2 := T.b2
    go_wp2_with (go_at_call 131; refine (take_any _ L P (Mv.rp (by repeat (first | assumption | apply Mv.drew | apply Mv.drewN) : Mv w _ L g N M k _))).mono ?_; rw [t1.out, t2.out, show errv 0 = Value.nilIface from rfl]; rintro e w3 ⟨rfl, p3, u3⟩; have T3 := Mv.step (by repeat (first | assumption | apply Mv.drew | apply Mv.drewN) : Mv w _ L g N M k _) hno hbo p3 u3; have y0 := T3.m.c0; have y1 := T3.b0; have y2 := T3.b2)
    go_region_with (go_at_call 132; refine (fill_any _ L P.take.1 (Mv.rp (by repeat (first | assumption | apply Mv.drew | apply Mv.drewN) : Mv w _ L g N M k _)) _ _).mono ?_; rintro e w4 ⟨rfl, p4, u4⟩; have T4 := Mv.step (by repeat (first | assumption | apply Mv.drew | apply Mv.drewN) : Mv w _ L g N M k _) hno hbo p4 u4; have z0 := T4.m.c0; have z1 := T4.b0; have z2 := T4.b2)
    all_goals go_wp2_with fail
    all_goals go_region_with (go_at_call 122; refine (drop_any _ L (P.take.1.fill f (M.leaf k).frame).1 (Mv.rp (by repeat (first | assumption | apply Mv.drew | apply Mv.drewN) : Mv w _ L g N M k _)) _).mono ?_; rintro e w5 ⟨rfl, p5, u5⟩; have T5 := Mv.step (by repeat (first | assumption | apply Mv.drew | apply Mv.drewN) : Mv w _ L g N M k _) hno hbo p5 u5; have v0 := T5.m.c0; have v1 := T5.b0; have v2 := T5.b2; have d0 := T5.m.l0 hk; have d1 := T5.m.l1 hk; have d2 := T5.m.l2 hk; have h0 := T5.m.fr (17 + k * 3); have h1 := T5.m.fr (17 + k * 3 + 1); have h2 := T5.m.fr (17 + k * 3 + 2))
    all_goals go_wp2
    all_goals go_quiet (fail)
    all_goals go_wp2
    all_goals go_ret3
    all_goals refine ⟨by rw [ht]; rfl, by rw [F.out]; exact (p5.keep3 hne _ _ _ _ _ _).drewN _, (T5.m.setLeaf (l := ⟨true, true, f⟩) hk).drewN _, (T5.up.sc3 (S := ownM L g) (.inr rfl) _ _ _ _ _ _).drewN _⟩

end U
end Go.Proofs.YtnhplapcdgnaaaaGreat
