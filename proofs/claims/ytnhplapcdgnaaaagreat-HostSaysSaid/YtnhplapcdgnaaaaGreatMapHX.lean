import Derived.Test.YtnhplapcdgnaaaaGreatMapX
import Derived.Outline
set_option linter.unusedVariables false
set_option linter.unusedSimpArgs false
namespace Go.Proofs.YtnhplapcdgnaaaaGreat
open Go.RowKit
namespace U

/-- On the way of a page that moves: the pool, the map as it was, what the local leaf holds. -/
structure Mv (w W : World) (L : PoolAt) (g N : Nat) (M : MapM) (k : Nat) (P : PoolM) : Prop where
  rp : PoolRep W L P
  m : MRep W g 140 N L.p M
  b0 : W.cell? ⟨w.heap.size, 0, none⟩ = some (.bool true)
  b2 : W.cell? ⟨w.heap.size, 2, none⟩ = some (.int .i64 (M.leaf k).frame)
  up : Upd (ownM L g) w W
theorem Mv.drewN {w W : World} {L : PoolAt} {g N : Nat} {M : MapM} {k : Nat} {P : PoolM} (t : Mv w W L g N M k P) (n : Nat) : Mv w (W.drewN n) L g N M k P := ⟨t.rp.drewN n, t.m.drewN n, t.b0, t.b2, t.up.drewN n⟩
theorem Mv.drew {w W : World} {L : PoolAt} {g N : Nat} {M : MapM} {k : Nat} {P : PoolM} (t : Mv w W L g N M k P) : Mv w W.drew L g N M k P := t.drewN 1
theorem Mv.step {w W W' : World} {L : PoolAt} {g N : Nat} {M : MapM} {k : Nat} {P P' : PoolM} (t : Mv w W L g N M k P) (h1 : ¬ L.own g) (h2 : ¬ L.own w.heap.size) (r : PoolRep W' L P') (u : Upd L.own W W') : Mv w W' L g N M k P' :=
  ⟨r, t.m.upd_ u h1, u.cell t.b0 h2, u.cell t.b2 h2, t.up.trans u.toM⟩

set_option maxRecDepth 100000 in
set_option maxHeartbeats 1000000 in
theorem touch_move (w : World) (L : PoolAt) (P : PoolM) (g N : Nat) (M : MapM) (rp : PoolRep w L P) (r : MRep w g 140 N L.p M) (k : Nat) (hk : k < 16)
    (s0 : M.state k ≠ 0) (s2 : M.state k ≠ 2) (ht : (M.leaf k).there = true) (hw : (M.leaf k).write = false) (h1 : (P.of (M.leaf k).frame).2.2 = 0) (h2 : (P.of (M.leaf k).frame).2.1 ≠ 1) (f : Nat) (hf : P.free = some f) :
    Calls Tryz.prog 119 #[.pointer (some ⟨g, 0, none⟩), .int .i64 k, .bool true] w (TouchPost w L g N (P.move (M.leaf k) f, M.setLeaf k ⟨true, true, f⟩, f, (M.leaf k).there, 0)) := by
  have ho' : onB k = true := onB_iff.2 ⟨by omega, by omega⟩
  have c0 := r.c0
  have c1 := r.st hk
  have c2 := r.l0 hk
  have c3 := r.l1 hk
  have c4 := r.l2 hk
  have f4 := r.fr (17 + k * 3 + 1)
  have lg := r.lt
  have lg1 : g < w.heap.size + 1 := by omega
  have lg2 : ¬ g = w.heap.size + 1 := by omega
  have lg3 : ¬ w.heap.size + 1 = g := by omega
  have hne := map_ne rp r (by decide) (by decide) (by decide)
  rw [hw] at c3
  have s0' : (M.state k == 0) = false := by simpa using s0
  have s2' : (M.state k == 2) = false := by simpa using s2
  have e1 := Lib.hid h1
  have hr' : ((P.of (M.leaf k).frame).2.1 == 1) = false := by simpa using h2
  have t1 := Lib.hid (take_some hf).1
  have t2 := Lib.hid (take_some hf).2
  have F := Lib.hid (show P.move (M.leaf k) f = (((P.take.1).fill f (M.leaf k).frame).1.share (M.leaf k).frame (-1)).1 by unfold PoolM.move; rw [ht]; rfl)
  have hl := rp.lts'
  have hno : ¬ L.own g := fun h => h.elim hne.2.1 hne.2.2
  have hbo : ¬ L.own w.heap.size := by unfold PoolAt.own; omega
  have b0 : (w.alloc (.cells #[.bool true, .bool false, .int .i64 (M.leaf k).frame] 88)).cell? ⟨w.heap.size, 0, none⟩ = some (.bool true) := by
    rw [cell_of_row _ w.heap.size 0 _ _ (0, 0) (heap_alloc_new w _)]; rfl
  clear s0 s2 h1 h2 hw hf
  have bx : (w.alloc (.cells #[.bool true, .bool false, .int .i64 (M.leaf k).frame] 88)).cell? ⟨w.heap.size, 2, none⟩ = some (.int .i64 (M.leaf k).frame) := by
    rw [cell_of_row _ w.heap.size 2 _ _ (0, 0) (heap_alloc_new w _)]; rfl
  go_enter Tryz.func119, Tryz.ntmps119
  go_wp2_with (go_at_call 103; refine (on_any _ _).mono ?_; rintro e w' ⟨rfl, rfl⟩)
  go_region_held3 (fun w' => w'.cell? ⟨g, 0, none⟩ = some (.pointer (some ⟨L.p, 0, none⟩)) ∧ w'.cell? ⟨w.heap.size, 2, none⟩ = some (.int .i64 (M.leaf k).frame)) (go_keep) (first | (go_at_call 92; refine (of_any _ L P (by repeat (first | assumption | apply PoolRep.alloc | apply PoolRep.drew | apply PoolRep.drewN)) _).mono ?_; rw [e1.out, show errv 0 = Value.nilIface from rfl]; unfold frameV; rintro e w2 ⟨rfl, u2⟩; obtain ⟨hcc, hff⟩ := u2.cells; have hz := u2.size; simp at hz; have rp2 := PoolRep.upd_ (by repeat (first | assumption | apply PoolRep.alloc | apply PoolRep.drew | apply PoolRep.drewN)) u2 (fun h => h) (fun h => h) (fun h => h); have hl2 := rp2.lts'; have U2 : Upd Non w w2 := Upd.trans (by repeat (first | assumption | apply Upd.alloc | apply Upd.drew | apply Upd.drewN | exact Upd.refl _ _)) u2; have m2 := MRep.upd_ (by repeat (first | assumption | apply MRep.alloc | apply MRep.drew | apply MRep.drewN) : MRep _ g 140 N L.p M) u2 (fun h => h); have q0 := m2.c0; have q1 := m2.lt; have q2 : w.heap.size < w2.heap.size := (by omega); have q4 : ¬ w2.heap.size = g := (by omega); have q5 : ¬ w2.heap.size = w.heap.size := (by omega); have q3 : w2.cell? ⟨w.heap.size, 2, none⟩ = some (.int .i64 (M.leaf k).frame) := (hcc _ _ (by first | (simp; done) | (simp; omega))).trans (by first | exact bx | exact (World.cell?_alloc_lt _ _ _ (by simp)).trans bx)); have q6 : w2.cell? ⟨w.heap.size, 0, none⟩ = some (.bool true) := (hcc _ _ (by first | (simp; done) | (simp; omega))).trans (by first | exact b0 | exact (World.cell?_alloc_lt _ _ _ (by simp)).trans b0))
  · have T : Mv w (w2.alloc (.cells #[.int .i64 (P.of (M.leaf k).frame).1, .int .i64 (P.of (M.leaf k).frame).2.1] 104)) L g N M k P :=
      ⟨rp2.alloc _, m2.alloc _, (World.cell?_alloc_lt _ _ _ q2).trans q6, (World.cell?_alloc_lt _ _ _ q2).trans q3, (U2.mono (fun _ _ h => h.elim)).alloc _⟩
    clear q0 q3 q6 c0 c1 c2 c3 c4
    have q0 := T.m.c0
    have x0 := T.b0
    have x2 := T.b2
    go_wp2_with (go_at_call 131; refine (take_any _ L P (Mv.rp (by repeat (first | assumption | apply Mv.drew | apply Mv.drewN) : Mv w _ L g N M k _))).mono ?_; rw [t1.out, t2.out, show errv 0 = Value.nilIface from rfl]; rintro e w3 ⟨rfl, p3, u3⟩; have T3 := Mv.step (by repeat (first | assumption | apply Mv.drew | apply Mv.drewN) : Mv w _ L g N M k _) hno hbo p3 u3; have y0 := T3.m.c0; have y1 := T3.b0; have y2 := T3.b2)
    go_region_with (go_at_call 132; refine (fill_any _ L P.take.1 (Mv.rp (by repeat (first | assumption | apply Mv.drew | apply Mv.drewN) : Mv w _ L g N M k _)) _ _).mono ?_; rintro e w4 ⟨rfl, p4, u4⟩; have T4 := Mv.step (by repeat (first | assumption | apply Mv.drew | apply Mv.drewN) : Mv w _ L g N M k _) hno hbo p4 u4; have z0 := T4.m.c0; have z1 := T4.b0; have z2 := T4.b2)
    all_goals go_wp2_with fail
    all_goals go_region_with (go_at_call 122; refine (drop_any _ L (P.take.1.fill f (M.leaf k).frame).1 (Mv.rp (by repeat (first | assumption | apply Mv.drew | apply Mv.drewN) : Mv w _ L g N M k _)) _).mono ?_; rintro e w5 ⟨rfl, p5, u5⟩; have T5 := Mv.step (by repeat (first | assumption | apply Mv.drew | apply Mv.drewN) : Mv w _ L g N M k _) hno hbo p5 u5; have v0 := T5.m.c0; have v1 := T5.b0; have v2 := T5.b2; have d0 := T5.m.l0 hk; have d1 := T5.m.l1 hk; have d2 := T5.m.l2 hk; have h0 := T5.m.fr (17 + k * 3); have h1 := T5.m.fr (17 + k * 3 + 1); have h2 := T5.m.fr (17 + k * 3 + 2))
    all_goals go_wp2
    all_goals go_quiet (fail)
    all_goals go_wp2
    all_goals go_ret3
    all_goals refine ⟨by rw [ht]; rfl, by rw [F.out]; exact (p5.keep3 hne _ _ _ _ _ _).drewN _, (T5.m.setLeaf (l := ⟨true, true, f⟩) hk).drewN _, (T5.up.sc3 (S := ownM L g) (.inr rfl) _ _ _ _ _ _).drewN _⟩
  · have ub := (Upd.refl (at1 (w.heap.size + 1)) w2).sc2 at1_self 0 1 (.int .i64 (P.of (M.leaf k).frame).1) (.int .i64 (P.of (M.leaf k).frame).2.1)
    have T : Mv w ((w2.setCell ⟨w.heap.size + 1, 0, none⟩ (.int .i64 (P.of (M.leaf k).frame).1)).setCell ⟨w.heap.size + 1, 1, none⟩ (.int .i64 (P.of (M.leaf k).frame).2.1)) L g N M k P :=
      ⟨rp2.upd_ ub (by unfold at1; omega) (by unfold at1; omega) (by unfold at1; omega), m2.upd_ ub (by unfold at1; omega), ub.cell q6 (by unfold at1; simp), ub.cell q3 (by unfold at1; simp), (U2.mono (fun _ _ h => h.elim)).over' ub (fun i hi => .inr (by unfold at1 at hi; omega))⟩
    clear q0 q3 q6 c0 c1 c2 c3 c4
    have q0 := T.m.c0
    have x0 := T.b0
    have x2 := T.b2
    go_wp2_with (go_at_call 131; refine (take_any _ L P (Mv.rp (by repeat (first | assumption | apply Mv.drew | apply Mv.drewN) : Mv w _ L g N M k _))).mono ?_; rw [t1.out, t2.out, show errv 0 = Value.nilIface from rfl]; rintro e w3 ⟨rfl, p3, u3⟩; have T3 := Mv.step (by repeat (first | assumption | apply Mv.drew | apply Mv.drewN) : Mv w _ L g N M k _) hno hbo p3 u3; have y0 := T3.m.c0; have y1 := T3.b0; have y2 := T3.b2)
    go_region_with (go_at_call 132; refine (fill_any _ L P.take.1 (Mv.rp (by repeat (first | assumption | apply Mv.drew | apply Mv.drewN) : Mv w _ L g N M k _)) _ _).mono ?_; rintro e w4 ⟨rfl, p4, u4⟩; have T4 := Mv.step (by repeat (first | assumption | apply Mv.drew | apply Mv.drewN) : Mv w _ L g N M k _) hno hbo p4 u4; have z0 := T4.m.c0; have z1 := T4.b0; have z2 := T4.b2)
    all_goals go_wp2_with fail
    all_goals go_region_with (go_at_call 122; refine (drop_any _ L (P.take.1.fill f (M.leaf k).frame).1 (Mv.rp (by repeat (first | assumption | apply Mv.drew | apply Mv.drewN) : Mv w _ L g N M k _)) _).mono ?_; rintro e w5 ⟨rfl, p5, u5⟩; have T5 := Mv.step (by repeat (first | assumption | apply Mv.drew | apply Mv.drewN) : Mv w _ L g N M k _) hno hbo p5 u5; have v0 := T5.m.c0; have v1 := T5.b0; have v2 := T5.b2; have d0 := T5.m.l0 hk; have d1 := T5.m.l1 hk; have d2 := T5.m.l2 hk; have h0 := T5.m.fr (17 + k * 3); have h1 := T5.m.fr (17 + k * 3 + 1); have h2 := T5.m.fr (17 + k * 3 + 2))
    all_goals go_wp2
    all_goals go_quiet (fail)
    all_goals go_wp2
    all_goals go_ret3
    all_goals refine ⟨by rw [ht]; rfl, by rw [F.out]; exact (p5.keep3 hne _ _ _ _ _ _).drewN _, (T5.m.setLeaf (l := ⟨true, true, f⟩) hk).drewN _, (T5.up.sc3 (S := ownM L g) (.inr rfl) _ _ _ _ _ _).drewN _⟩

end U
end Go.Proofs.YtnhplapcdgnaaaaGreat

set_option linter.unusedVariables false
set_option linter.unusedSimpArgs false
namespace Go.Proofs.YtnhplapcdgnaaaaGreat
open Go.RowKit
namespace U

set_option maxRecDepth 100000 in
set_option maxHeartbeats 1000000 in
theorem touch_move_full (w : World) (L : PoolAt) (P : PoolM) (g N : Nat) (M : MapM) (rp : PoolRep w L P) (r : MRep w g 140 N L.p M) (k : Nat) (hk : k < 16)
    (s0 : M.state k ≠ 0) (s2 : M.state k ≠ 2) (ht : (M.leaf k).there = true) (hw : (M.leaf k).write = false) (h1 : (P.of (M.leaf k).frame).2.2 = 0) (h2 : (P.of (M.leaf k).frame).2.1 ≠ 1) (hf : P.free = none) :
    Calls Tryz.prog 119 #[.pointer (some ⟨g, 0, none⟩), .int .i64 k, .bool true] w (TouchPost w L g N (P, M, 0, false, 3)) := by
  have ho' : onB k = true := onB_iff.2 ⟨by omega, by omega⟩
  have c0 := r.c0
  have c1 := r.st hk
  have c2 := r.l0 hk
  have c3 := r.l1 hk
  have c4 := r.l2 hk
  have f4 := r.fr (17 + k * 3 + 1)
  have lg := r.lt
  have lg1 : g < w.heap.size + 1 := by omega
  have lg2 : ¬ g = w.heap.size + 1 := by omega
  have lg3 : ¬ w.heap.size + 1 = g := by omega
  have hne := map_ne rp r (by decide) (by decide) (by decide)
  rw [hw] at c3
  have s0' : (M.state k == 0) = false := by simpa using s0
  have s2' : (M.state k == 2) = false := by simpa using s2
  have e1 := Lib.hid h1
  have hr' : ((P.of (M.leaf k).frame).2.1 == 1) = false := by simpa using h2
  have t1 := Lib.hid (show P.take.2.1 = 0 by rw [take_none hf])
  have t2 := Lib.hid (show P.take.2.2 = 3 by rw [take_none hf])
  have t3 := Lib.hid (show P.take.1 = P by rw [take_none hf])
  have hl := rp.lts'
  have hno : ¬ L.own g := fun h => h.elim hne.2.1 hne.2.2
  have hbo : ¬ L.own w.heap.size := by unfold PoolAt.own; omega
  have b0 : (w.alloc (.cells #[.bool true, .bool false, .int .i64 (M.leaf k).frame] 88)).cell? ⟨w.heap.size, 0, none⟩ = some (.bool true) := by
    rw [cell_of_row _ w.heap.size 0 _ _ (0, 0) (heap_alloc_new w _)]; rfl
  clear s0 s2 h1 h2 hw hf
  have bx : (w.alloc (.cells #[.bool true, .bool false, .int .i64 (M.leaf k).frame] 88)).cell? ⟨w.heap.size, 2, none⟩ = some (.int .i64 (M.leaf k).frame) := by
    rw [cell_of_row _ w.heap.size 2 _ _ (0, 0) (heap_alloc_new w _)]; rfl
  go_enter Tryz.func119, Tryz.ntmps119
  go_wp2_with (go_at_call 103; refine (on_any _ _).mono ?_; rintro e w' ⟨rfl, rfl⟩)
  go_region_held3 (fun w' => w'.cell? ⟨g, 0, none⟩ = some (.pointer (some ⟨L.p, 0, none⟩)) ∧ w'.cell? ⟨w.heap.size, 2, none⟩ = some (.int .i64 (M.leaf k).frame)) (go_keep) (first | (go_at_call 92; refine (of_any _ L P (by repeat (first | assumption | apply PoolRep.alloc | apply PoolRep.drew | apply PoolRep.drewN)) _).mono ?_; rw [e1.out, show errv 0 = Value.nilIface from rfl]; unfold frameV; rintro e w2 ⟨rfl, u2⟩; obtain ⟨hcc, hff⟩ := u2.cells; have hz := u2.size; simp at hz; have rp2 := PoolRep.upd_ (by repeat (first | assumption | apply PoolRep.alloc | apply PoolRep.drew | apply PoolRep.drewN)) u2 (fun h => h) (fun h => h) (fun h => h); have hl2 := rp2.lts'; have U2 : Upd Non w w2 := Upd.trans (by repeat (first | assumption | apply Upd.alloc | apply Upd.drew | apply Upd.drewN | exact Upd.refl _ _)) u2; have m2 := MRep.upd_ (by repeat (first | assumption | apply MRep.alloc | apply MRep.drew | apply MRep.drewN) : MRep _ g 140 N L.p M) u2 (fun h => h); have q0 := m2.c0; have q1 := m2.lt; have q2 : w.heap.size < w2.heap.size := (by omega); have q4 : ¬ w2.heap.size = g := (by omega); have q5 : ¬ w2.heap.size = w.heap.size := (by omega); have q3 : w2.cell? ⟨w.heap.size, 2, none⟩ = some (.int .i64 (M.leaf k).frame) := (hcc _ _ (by first | (simp; done) | (simp; omega))).trans (by first | exact bx | exact (World.cell?_alloc_lt _ _ _ (by simp)).trans bx)); have q6 : w2.cell? ⟨w.heap.size, 0, none⟩ = some (.bool true) := (hcc _ _ (by first | (simp; done) | (simp; omega))).trans (by first | exact b0 | exact (World.cell?_alloc_lt _ _ _ (by simp)).trans b0))
  · have T : Mv w (w2.alloc (.cells #[.int .i64 (P.of (M.leaf k).frame).1, .int .i64 (P.of (M.leaf k).frame).2.1] 104)) L g N M k P :=
      ⟨rp2.alloc _, m2.alloc _, (World.cell?_alloc_lt _ _ _ q2).trans q6, (World.cell?_alloc_lt _ _ _ q2).trans q3, (U2.mono (fun _ _ h => h.elim)).alloc _⟩
    clear q0 q3 q6 c0 c1 c2 c3 c4
    have q0 := T.m.c0
    have x0 := T.b0
    have x2 := T.b2
    go_wp2_with (go_at_call 131; refine (take_any _ L P (Mv.rp (by repeat (first | assumption | apply Mv.drew | apply Mv.drewN) : Mv w _ L g N M k _))).mono ?_; rw [t1.out, t2.out, t3.out, show errv 3 = Value.iface 52 (.int .i64 3) from rfl]; rintro e w3 ⟨rfl, p3, u3⟩; have T3 := Mv.step (by repeat (first | assumption | apply Mv.drew | apply Mv.drewN) : Mv w _ L g N M k _) hno hbo p3 u3; have y0 := T3.m.c0; have y1 := T3.b0; have y2 := T3.b2)
    go_ret3
    exact ⟨rfl, p3, T3.m, T3.up⟩
  · have ub := (Upd.refl (at1 (w.heap.size + 1)) w2).sc2 at1_self 0 1 (.int .i64 (P.of (M.leaf k).frame).1) (.int .i64 (P.of (M.leaf k).frame).2.1)
    have T : Mv w ((w2.setCell ⟨w.heap.size + 1, 0, none⟩ (.int .i64 (P.of (M.leaf k).frame).1)).setCell ⟨w.heap.size + 1, 1, none⟩ (.int .i64 (P.of (M.leaf k).frame).2.1)) L g N M k P :=
      ⟨rp2.upd_ ub (by unfold at1; omega) (by unfold at1; omega) (by unfold at1; omega), m2.upd_ ub (by unfold at1; omega), ub.cell q6 (by unfold at1; simp), ub.cell q3 (by unfold at1; simp), (U2.mono (fun _ _ h => h.elim)).over' ub (fun i hi => .inr (by unfold at1 at hi; omega))⟩
    clear q0 q3 q6 c0 c1 c2 c3 c4
    have q0 := T.m.c0
    have x0 := T.b0
    have x2 := T.b2
    go_wp2_with (go_at_call 131; refine (take_any _ L P (Mv.rp (by repeat (first | assumption | apply Mv.drew | apply Mv.drewN) : Mv w _ L g N M k _))).mono ?_; rw [t1.out, t2.out, t3.out, show errv 3 = Value.iface 52 (.int .i64 3) from rfl]; rintro e w3 ⟨rfl, p3, u3⟩; have T3 := Mv.step (by repeat (first | assumption | apply Mv.drew | apply Mv.drewN) : Mv w _ L g N M k _) hno hbo p3 u3; have y0 := T3.m.c0; have y1 := T3.b0; have y2 := T3.b2)
    go_ret3
    exact ⟨rfl, p3, T3.m, T3.up⟩

end U
end Go.Proofs.YtnhplapcdgnaaaaGreat

set_option linter.unusedVariables false
set_option linter.unusedSimpArgs false
namespace Go.Proofs.YtnhplapcdgnaaaaGreat
open Go.RowKit
namespace U

/-- Touch, whatever the page: where a page is there, its frame is one of the pool's. -/
theorem touch_any (w : World) (L : PoolAt) (P : PoolM) (g N : Nat) (M : MapM) (rp : PoolRep w L P) (r : MRep w g 140 N L.p M) (n : Int) (wr : Bool)
    (hfr : ∀ k, k < 16 → (M.leaf k).there = true → 0 ≤ (M.leaf k).frame ∧ (M.leaf k).frame < P.n) :
    Calls Tryz.prog 119 #[.pointer (some ⟨g, 0, none⟩), .int .i64 n, .bool wr] w (TouchPost w L g N (mtouch P M n wr)) := by
  by_cases ho : onB n = true
  · have hn := onB_iff.1 ho
    obtain ⟨k, rfl⟩ := Int.eq_ofNat_of_zero_le hn.1
    have hk : k < 16 := by omega
    have ho : onB (k : Int) = true := ho
    unfold mtouch
    rw [if_pos ho, Int.toNat_natCast]
    by_cases s0 : M.state k = 0
    · rw [if_pos s0]; exact touch_absent w L P g N M rp r k hk wr s0
    · rw [if_neg s0]
      by_cases s2 : M.state k = 2
      · rw [if_pos s2]; exact touch_given w L P g N M rp r k hk wr s2
      · rw [if_neg s2]
        cases ht : (M.leaf k).there with
        | false =>
          simp only [Bool.false_and, Bool.false_eq_true, if_false]
          cases hf : P.free with
          | none => exact touch_new_full w L P g N M rp r k hk wr s0 s2 ht hf
          | some f => have := touch_new w L P g N M rp r k hk wr f s0 s2 ht hf; rw [ht] at this; exact this
        | true =>
          by_cases hw : (M.leaf k).write = true ∨ wr = false
          · rw [if_pos (by rcases hw with h | h <;> simp [h])]
            exact touch_stay w L P g N M rp r k hk wr s0 s2 ht hw
          · have hw1 : (M.leaf k).write = false := by cases h : (M.leaf k).write <;> simp_all
            have hw2 : wr = true := by cases h : wr <;> simp_all
            subst hw2
            rw [if_neg (by simp [hw1])]
            by_cases h1 : P.one (M.leaf k).frame = true
            · rw [if_pos (by simp [h1])]
              exact touch_one w L P g N M rp r k hk s0 s2 ht hw1 h1
            · rw [if_neg (by simp [h1])]
              have hr := hfr k hk ht
              have h2 : (P.of (M.leaf k).frame).2.2 = 0 := by unfold PoolM.of; rw [if_neg (by omega)]
              have h3 : (P.of (M.leaf k).frame).2.1 ≠ 1 := fun e => h1 (by unfold PoolM.one; rw [h2, e]; rfl)
              cases hf : P.free with
              | none => exact touch_move_full w L P g N M rp r k hk s0 s2 ht hw1 h2 h3 hf
              | some f => have := touch_move w L P g N M rp r k hk s0 s2 ht hw1 h2 h3 f hf; rw [ht] at this; exact this
  · have ho' : onB n = false := by simpa using ho
    unfold mtouch
    rw [if_neg ho]
    exact touch_off w L P g N M rp r n wr ho'

end U
end Go.Proofs.YtnhplapcdgnaaaaGreat

set_option linter.unusedVariables false
set_option linter.unusedSimpArgs false
namespace Go.Proofs.YtnhplapcdgnaaaaGreat
open Go.RowKit
namespace U

/-- A page joins another frame with the same bytes. -/
def mjoin (P : PoolM) (M : MapM) (n fr : Int) : PoolM × MapM × Nat :=
  if onB n then
    if (M.leaf n.toNat).there && ((M.leaf n.toNat).frame != fr && P.same (M.leaf n.toNat).frame fr) then (((P.share fr 1).1.share (M.leaf n.toNat).frame (-1)).1, M.setLeaf n.toNat ⟨true, false, fr⟩, 0) else (P, M, 8)
  else (P, M, 1)

end U
end Go.Proofs.YtnhplapcdgnaaaaGreat

set_option linter.unusedVariables false
set_option linter.unusedSimpArgs false
namespace Go.Proofs.YtnhplapcdgnaaaaGreat
open Go.RowKit
namespace U

/-! Plain laws of a map on a pool. -/
def inF (M : MapM) (f : Nat) (i : Nat) : Bool := (M.leaf i).there && (M.leaf i).frame == (f : Int)
/-- How many pages of a map are in a frame. -/
def mcnt (M : MapM) (f : Nat) : Nat := (List.range 16).countP (inF M f)
theorem countP_upd {p q : Nat → Bool} {n : Nat} (h : ∀ i, i ≠ n → q i = p i) : ∀ N, (List.range N).countP q + (if n < N ∧ p n = true then 1 else 0) = (List.range N).countP p + (if n < N ∧ q n = true then 1 else 0)
  | 0 => by simp
  | N + 1 => by
    have ih := countP_upd h N
    rw [List.range_succ, List.countP_append, List.countP_append, List.countP_singleton, List.countP_singleton]
    by_cases e : N = n
    · subst e
      simp only [Nat.lt_irrefl, false_and, if_false, Nat.lt_succ_self, true_and, Nat.add_zero] at ih ⊢
      omega
    · rw [h N e]
      have h1 : n < N + 1 ↔ n < N := by omega
      simp only [h1]
      omega
theorem mcnt_set (M : MapM) (n : Nat) (l : LeafM) (f : Nat) (hn : n < 16) : mcnt (M.setLeaf n l) f + (if inF M f n = true then 1 else 0) = mcnt M f + (if (l.there && l.frame == (f : Int)) = true then 1 else 0) := by
  have := countP_upd (p := inF M f) (q := inF (M.setLeaf n l) f) (n := n) (fun i hi => by unfold inF MapM.setLeaf; simp [hi]) 16
  simp only [hn, true_and] at this
  have e : inF (M.setLeaf n l) f n = (l.there && l.frame == (f : Int)) := by unfold inF MapM.setLeaf; simp
  rw [e] at this
  exact this
theorem mcnt_state (M : MapM) (n : Nat) (s : Int) (f : Nat) : mcnt (M.setState n s) f = mcnt M f := rfl
theorem mcnt_le (M : MapM) (f : Nat) : mcnt M f ≤ 16 := by
  have := List.countP_le_length (p := inF M f) (l := List.range 16)
  simpa [mcnt] using this
theorem mcnt_pos {M : MapM} {n : Nat} (hn : n < 16) (ht : (M.leaf n).there = true) (h0 : 0 ≤ (M.leaf n).frame) : 1 ≤ mcnt M (M.leaf n).frame.toNat := by
  unfold mcnt
  rw [Nat.succ_le_iff, List.countP_pos_iff]
  refine ⟨n, List.mem_range.2 hn, ?_⟩
  unfold inF
  rw [ht, Int.toNat_of_nonneg h0]; simp
theorem mcnt_zero {M : MapM} {f : Nat} (h : mcnt M f = 0) {i : Nat} (hi : i < 16) (ht : (M.leaf i).there = true) : (M.leaf i).frame ≠ f := by
  intro e
  have := mcnt_pos hi ht (by omega)
  rw [e, Int.toNat_natCast] at this
  omega

/-- A map that is in order, on a pool in whose frames E other pages are. -/
structure MInv (P : PoolM) (M : MapM) (E : Nat → Nat) : Prop where
  st : ∀ i, i < 16 → M.state i = 0 ∨ M.state i = 1 ∨ M.state i = 2
  here : ∀ i, i < 16 → (M.leaf i).there = true → M.state i = 1 ∧ 0 ≤ (M.leaf i).frame ∧ (M.leaf i).frame < P.n
  none : ∀ i, i < 16 → (M.leaf i).there = false → M.leaf i = LeafM.none
  cnt : ∀ f, f < P.n → P.refs f = (mcnt M f + E f : Nat)
  small : ∀ f, E f ≤ 1000000
/-- What a page holds. -/
def mpage (P : PoolM) (M : MapM) (i : Nat) : Nat → UInt8 := if (M.leaf i).there then P.b (M.leaf i).frame.toNat else fun _ => 0

theorem free_is {P : PoolM} {f : Nat} (h : P.free = some f) : f < P.n ∧ P.refs f = 0 := by
  unfold PoolM.free at h
  have h1 := List.find?_some h
  have h2 := List.mem_of_find?_eq_some h
  exact ⟨List.mem_range.1 h2, by simpa using h1⟩
theorem take_is {P : PoolM} {f : Nat} (h : P.free = some f) : P.take.1 = (P.setRef f 1).setRow f fun _ => 0 := by unfold PoolM.take; rw [h]
theorem used_iff {P : PoolM} {f : Nat} : P.used f = true ↔ f < P.n ∧ 0 < P.refs f := by
  unfold PoolM.used; simp
theorem used_cast {P : PoolM} {f : Int} : P.used f = true ↔ 0 ≤ f ∧ f.toNat < P.n ∧ 0 < P.refs f.toNat := by
  unfold PoolM.used; simp; omega

section
variable {P : PoolM} {M : MapM} {E : Nat → Nat}
theorem MInv.used (h : MInv P M E) {n : Nat} (hn : n < 16) (ht : (M.leaf n).there = true) : P.used (M.leaf n).frame = true := by
  obtain ⟨_, h0, h1⟩ := h.here n hn ht
  rw [used_cast]
  have hc := h.cnt (M.leaf n).frame.toNat (by omega)
  have := mcnt_pos hn ht h0
  exact ⟨h0, by omega, by omega⟩
theorem MInv.bound (h : MInv P M E) {f : Nat} (hf : f < P.n) : 0 ≤ P.refs f ∧ P.refs f ≤ 1000016 := by
  have := h.cnt f hf
  have := h.small f
  have := mcnt_le M f
  omega
theorem share_dec (h : MInv P M E) {f : Int} (hu : P.used f = true) : (P.share f (-1)).1 = P.setRef f.toNat (P.refs f.toNat - 1) := by
  unfold PoolM.share
  rw [if_pos hu]
  rw [used_cast] at hu
  have := h.bound hu.2.1
  rw [show wrap64 (P.refs f.toNat + -1) = P.refs f.toNat - 1 from by rw [IntWalk.wrap64_in _ ⟨by omega, by omega⟩]; omega]
theorem share_inc (h : MInv P M E) {f : Int} (hu : P.used f = true) : (P.share f 1).1 = P.setRef f.toNat (P.refs f.toNat + 1) := by
  unfold PoolM.share
  rw [if_pos hu]
  rw [used_cast] at hu
  have := h.bound hu.2.1
  rw [show wrap64 (P.refs f.toNat + 1) = P.refs f.toNat + 1 from by rw [IntWalk.wrap64_in _ ⟨by omega, by omega⟩]]

/-- A step: the pool keeps its size; what other pages are in keeps its bytes. -/
structure MStep (P : PoolM) (E : Nat → Nat) (P' : PoolM) (M' : MapM) : Prop where
  n : P'.n = P.n
  inv : MInv P' M' E
  keep : ∀ f, f < P.n → 0 < E f → P'.b f = P.b f
theorem MInv.stay (h : MInv P M E) : MStep P E P M := ⟨rfl, h, fun _ _ _ => rfl⟩
theorem MStep.trans {P' P'' : PoolM} {M' M'' : MapM} (h : MStep P E P' M') (k : MStep P' E P'' M'') : MStep P E P'' M'' :=
  ⟨k.n.trans h.n, k.inv, fun f hf he => (k.keep f (by rw [h.n]; exact hf) he).trans (h.keep f hf he)⟩

/-- The state of a page that is nowhere. -/
theorem MInv.setState (h : MInv P M E) {n : Nat} {s : Int} (hs : s = 0 ∨ s = 1 ∨ s = 2) (hn : (M.leaf n).there = false) : MInv P (M.setState n s) E := by
  refine ⟨fun i hi => ?_, fun i hi ht => ?_, h.none, h.cnt, h.small⟩
  · unfold MapM.setState
    by_cases e : i = n
    · simp [e, hs]
    · simpa [e] using h.st i hi
  · have h1 := h.here i hi ht
    have e : i ≠ n := by rintro rfl; have : (M.leaf i).there = true := ht; simp [hn] at this
    unfold MapM.setState
    simpa [e] using h1
theorem MInv.seal (h : MInv P M E) {n : Nat} (hn : n < 16) (ht : (M.leaf n).there = true) (b : Bool) : MInv P (M.setLeaf n { M.leaf n with write := b }) E := by
  refine ⟨h.st, fun i hi hti => ?_, fun i hi hti => ?_, fun f hf => ?_, h.small⟩
  · unfold MapM.setLeaf at hti ⊢
    by_cases e : i = n
    · subst e; simp only [if_true] at hti ⊢; exact h.here i hi ht
    · simp only [e, if_false] at hti ⊢; exact h.here i hi hti
  · unfold MapM.setLeaf at hti ⊢
    by_cases e : i = n
    · subst e; simp only [if_true] at hti; rw [ht] at hti; cases hti
    · simp only [e, if_false] at hti ⊢; exact h.none i hi hti
  · have := mcnt_set M n ⟨(M.leaf n).there, b, (M.leaf n).frame⟩ f hn
    have e : inF M f n = ((M.leaf n).there && (M.leaf n).frame == (f : Int)) := rfl
    rw [e] at this
    have h1 := h.cnt f hf
    show P.refs f = (mcnt (M.setLeaf n ⟨(M.leaf n).there, b, (M.leaf n).frame⟩) f + E f : Nat)
    rw [h1, Nat.add_right_cancel this]
theorem letP_eq (h : MInv P M E) {n : Nat} (hn : n < 16) (ht : (M.leaf n).there = true) : letP P M n = P.setRef (M.leaf n).frame.toNat (P.refs (M.leaf n).frame.toNat - 1) := by
  unfold letP
  rw [if_pos ht, share_dec h (h.used hn ht)]
/-- A page's frame is let go. -/
theorem MInv.let_ (h : MInv P M E) {n : Nat} (hn : n < 16) : MStep P E (letP P M n) (M.setLeaf n LeafM.none) := by
  cases ht : (M.leaf n).there with
  | false =>
    have hl := h.none n hn ht
    have e : M.setLeaf n LeafM.none = M := by
      unfold MapM.setLeaf
      have : (fun i => if i = n then LeafM.none else M.leaf i) = M.leaf := by funext i; by_cases e : i = n <;> simp [e, hl]
      rw [this]
    have e2 : letP P M n = P := by unfold letP; rw [ht]; rfl
    rw [e, e2]
    exact h.stay
  | true =>
    obtain ⟨_, f0, f1⟩ := h.here n hn ht
    rw [letP_eq h hn ht]
    refine ⟨rfl, ⟨h.st, fun i hi hti => ?_, fun i hi hti => ?_, fun f hf => ?_, h.small⟩, fun _ _ _ => rfl⟩
    · unfold MapM.setLeaf at hti ⊢
      by_cases e : i = n
      · subst e; simp [LeafM.none] at hti
      · simp only [e, if_false] at hti ⊢; exact h.here i hi hti
    · unfold MapM.setLeaf at hti ⊢
      by_cases e : i = n
      · simp [e]
      · simp only [e, if_false] at hti ⊢; exact h.none i hi hti
    · have h1 := mcnt_set M n LeafM.none f hn
      have h2 := h.cnt f hf
      have e : inF M f n = ((M.leaf n).frame == (f : Int)) := by unfold inF; rw [ht]; rfl
      rw [e] at h1
      simp only [LeafM.none, Bool.false_and, Bool.false_eq_true, if_false, beq_iff_eq] at h1
      show (if f = (M.leaf n).frame.toNat then P.refs (M.leaf n).frame.toNat - 1 else P.refs f) = _
      by_cases e2 : (M.leaf n).frame = f
      · rw [if_pos e2] at h1
        rw [if_pos (by omega), show (M.leaf n).frame.toNat = f by omega, h2]
        have : mcnt (M.setLeaf n LeafM.none) f + 1 = mcnt M f := by simpa [LeafM.none] using h1
        omega
      · rw [if_neg e2] at h1
        rw [if_neg (by omega), h2]
        have : mcnt (M.setLeaf n LeafM.none) f = mcnt M f := by simpa [LeafM.none] using h1
        omega
end
theorem setLeaf_none (M : MapM) (n : Nat) : ((M.setLeaf n LeafM.none).leaf n).there = false := by unfold MapM.setLeaf; simp [LeafM.none]

section
variable {P : PoolM} {M : MapM} {E : Nat → Nat}
theorem MInv.plug (h : MInv P M E) (n : Int) : MInv P (mplug M n).1 E := by
  unfold mplug
  by_cases ho : onB n = true
  · rw [if_pos ho]
    have hn := onB_iff.1 ho
    by_cases h0 : M.state n.toNat = 0
    · rw [if_pos h0]
      refine h.setState (.inr (.inl rfl)) ?_
      cases ht : (M.leaf n.toNat).there with
      | false => rfl
      | true => have := (h.here _ (by omega) ht).1; omega
    · rw [if_neg h0]; exact h
  · rw [if_neg ho]; exact h
theorem MInv.back (h : MInv P M E) (n : Int) : MInv P (mback M n).1 E := by
  unfold mback
  by_cases ho : onB n = true
  · rw [if_pos ho]
    have hn := onB_iff.1 ho
    by_cases h0 : M.state n.toNat = 2
    · rw [if_pos h0]
      refine h.setState (.inr (.inl rfl)) ?_
      cases ht : (M.leaf n.toNat).there with
      | false => rfl
      | true => have := (h.here _ (by omega) ht).1; omega
    · rw [if_neg h0]; exact h
  · rw [if_neg ho]; exact h
theorem MInv.sealed (h : MInv P M E) (n : Int) : MInv P (mseal M n).1 E := by
  unfold mseal
  by_cases ho : onB n = true
  · rw [if_pos ho]
    have hn := onB_iff.1 ho
    by_cases h0 : (M.leaf n.toNat).there = true
    · rw [if_pos h0]; exact h.seal (by omega) h0 false
    · rw [if_neg h0]; exact h
  · rw [if_neg ho]; exact h
theorem MInv.unplug (h : MInv P M E) (n : Int) : MStep P E (munplug P M n).1 (munplug P M n).2.1 := by
  unfold munplug
  by_cases ho : onB n = true
  · rw [if_pos ho]
    have hn := onB_iff.1 ho
    by_cases h0 : M.state n.toNat = 0
    · rw [if_pos h0]; exact h.stay
    · rw [if_neg h0]
      have k := h.let_ (n := n.toNat) (by omega)
      exact ⟨k.n, k.inv.setState (.inl rfl) (setLeaf_none _ _), k.keep⟩
  · rw [if_neg ho]; exact h.stay
theorem MInv.give (h : MInv P M E) (n : Int) : MStep P E (mgive P M n).1 (mgive P M n).2.1 := by
  unfold mgive
  by_cases ho : onB n = true
  · rw [if_pos ho]
    have hn := onB_iff.1 ho
    by_cases h0 : M.state n.toNat = 1
    · rw [if_pos h0]
      have k := h.let_ (n := n.toNat) (by omega)
      exact ⟨k.n, k.inv.setState (.inr (.inr rfl)) (setLeaf_none _ _), k.keep⟩
    · rw [if_neg h0]; exact h.stay
  · rw [if_neg ho]; exact h.stay

/-- What a move makes of the counts and the bytes. -/
theorem move_eq (h : MInv P M E) {n : Nat} (hn : n < 16) (ht : (M.leaf n).there = true) {f : Nat} (hf : P.free = some f) :
    P.move (M.leaf n) f = (((P.setRef f 1).setRow f fun _ => 0).setRow f (P.b (M.leaf n).frame.toNat)).setRef (M.leaf n).frame.toNat (P.refs (M.leaf n).frame.toNat - 1) ∧ (M.leaf n).frame.toNat ≠ f := by
  obtain ⟨f1, f2⟩ := free_is hf
  have hu := h.used hn ht
  have hu' := used_cast.1 hu
  have hne : (M.leaf n).frame.toNat ≠ f := by rintro e; rw [e] at hu'; omega
  refine ⟨?_, hne⟩
  unfold PoolM.move
  rw [if_pos ht, take_is hf]
  have u1 : PoolM.used ((P.setRef f 1).setRow f fun _ => 0) f = true := by
    rw [used_iff]; unfold PoolM.setRef PoolM.setRow; simp [f1]
  have u2 : PoolM.used ((P.setRef f 1).setRow f fun _ => 0) (M.leaf n).frame = true := by
    rw [used_cast]; unfold PoolM.setRef PoolM.setRow; simp only [hne, if_false]; exact hu'
  have hb := h.bound hu'.2.1
  have r1 : (((P.setRef f 1).setRow f fun _ => 0).refs (f : Int).toNat) = 1 := by unfold PoolM.setRef PoolM.setRow; simp
  have fl : (((P.setRef f 1).setRow f fun _ => 0).fill f (M.leaf n).frame).1 = ((P.setRef f 1).setRow f fun _ => 0).setRow f (P.b (M.leaf n).frame.toNat) := by
    unfold PoolM.fill
    rw [u1, u2]
    simp only [Bool.and_self, if_true]
    rw [r1, if_neg (by omega)]
    show PoolM.setRow _ _ _ = _
    rw [Int.toNat_natCast]
    congr 1
    unfold PoolM.setRef PoolM.setRow
    simp [hne]
  rw [fl]
  unfold PoolM.share
  have u3 : PoolM.used (((P.setRef f 1).setRow f fun _ => 0).setRow f (P.b (M.leaf n).frame.toNat)) (M.leaf n).frame = true := u2
  rw [if_pos u3]
  have r2 : ((((P.setRef f 1).setRow f fun _ => 0).setRow f (P.b (M.leaf n).frame.toNat)).refs (M.leaf n).frame.toNat) = P.refs (M.leaf n).frame.toNat := by
    unfold PoolM.setRef PoolM.setRow; simp [hne]
  rw [r2]
  rw [show wrap64 (P.refs (M.leaf n).frame.toNat + -1) = P.refs (M.leaf n).frame.toNat - 1 from by rw [IntWalk.wrap64_in _ ⟨by omega, by omega⟩]; omega]
/-- Touch keeps all in order; no page's bytes change. -/
theorem MInv.touch (h : MInv P M E) (n : Int) (wr : Bool) : MStep P E (mtouch P M n wr).1 (mtouch P M n wr).2.1 ∧ ∀ i, i < 16 → mpage (mtouch P M n wr).1 (mtouch P M n wr).2.1 i = mpage P M i := by
  unfold mtouch
  by_cases ho : onB n = true
  · rw [if_pos ho]
    have hn := onB_iff.1 ho
    obtain ⟨k, rfl⟩ := Int.eq_ofNat_of_zero_le hn.1
    have hk : k < 16 := by omega
    rw [Int.toNat_natCast]
    by_cases s0 : M.state k = 0
    · rw [if_pos s0]; exact ⟨h.stay, fun _ _ => rfl⟩
    · rw [if_neg s0]
      by_cases s2 : M.state k = 2
      · rw [if_pos s2]; exact ⟨h.stay, fun _ _ => rfl⟩
      · rw [if_neg s2]
        have s1 : M.state k = 1 := by rcases h.st k hk with e | e | e <;> simp_all
        split
        · exact ⟨h.stay, fun _ _ => rfl⟩
        · split
          · rename_i hx
            have ht : (M.leaf k).there = true := by simp at hx; exact hx.1
            refine ⟨⟨rfl, h.seal hk ht true, fun _ _ _ => rfl⟩, fun i hi => ?_⟩
            unfold mpage MapM.setLeaf
            by_cases e : i = k
            · subst e; simp
            · simp [e]
          · cases hf : P.free with
            | none => exact ⟨h.stay, fun _ _ => rfl⟩
            | some f =>
              obtain ⟨f1, f2⟩ := free_is hf
              have hz : mcnt M f = 0 ∧ E f = 0 := by have := h.cnt f f1; omega
              simp only []
              cases ht : (M.leaf k).there with
              | false =>
                have hmv : P.move (M.leaf k) f = (P.setRef f 1).setRow f fun _ => 0 := by unfold PoolM.move; rw [ht, if_neg (by simp), take_is hf]
                rw [hmv]
                refine ⟨⟨rfl, ⟨h.st, fun i hi hti => ?_, fun i hi hti => ?_, fun g hg => ?_, h.small⟩, fun g hg he => ?_⟩, fun i hi => ?_⟩
                · unfold MapM.setLeaf at hti ⊢
                  by_cases e : i = k
                  · subst e; simp only [if_true] at hti ⊢; exact ⟨s1, by omega, by show (f : Int) < P.n; omega⟩
                  · simp only [e, if_false] at hti ⊢; exact h.here i hi hti
                · unfold MapM.setLeaf at hti ⊢
                  by_cases e : i = k
                  · subst e; simp at hti
                  · simp only [e, if_false] at hti ⊢; exact h.none i hi hti
                · have h1 := mcnt_set M k ⟨true, true, f⟩ g hk
                  have h2 := h.cnt g hg
                  have e : inF M g k = false := by unfold inF; rw [ht]; rfl
                  rw [e] at h1
                  simp only [Bool.false_eq_true, if_false, Bool.true_and, beq_iff_eq] at h1
                  show (if g = f then (1 : Int) else P.refs g) = _
                  by_cases e2 : g = f
                  · subst e2; rw [if_pos rfl] at h1 ⊢; omega
                  · rw [if_neg (by omega)] at h1; rw [if_neg e2, h2]; omega
                · funext j
                  show (if g = f then (0 : UInt8) else P.b g j) = _
                  rw [if_neg (by rintro rfl; omega)]
                · unfold mpage MapM.setLeaf
                  by_cases e : i = k
                  · subst e; simp [ht, PoolM.setRow]
                  · simp only [e, if_false]
                    cases hti : (M.leaf i).there with
                    | false => rfl
                    | true =>
                      simp only [if_true]
                      have h3 := h.here i hi hti
                      have h4 := mcnt_zero hz.1 hi hti
                      unfold PoolM.setRow PoolM.setRef
                      funext j
                      simp only []
                      rw [if_neg (by omega)]
              | true =>
                obtain ⟨hmv, hne⟩ := move_eq h hk ht hf
                obtain ⟨_, l0, l1⟩ := h.here k hk ht
                have hup := used_cast.1 (h.used hk ht)
                rw [hmv]
                refine ⟨⟨rfl, ⟨h.st, fun i hi hti => ?_, fun i hi hti => ?_, fun g hg => ?_, h.small⟩, fun g hg he => ?_⟩, fun i hi => ?_⟩
                · unfold MapM.setLeaf at hti ⊢
                  by_cases e : i = k
                  · subst e; simp only [if_true] at hti ⊢; exact ⟨s1, by omega, by show (f : Int) < P.n; omega⟩
                  · simp only [e, if_false] at hti ⊢; exact h.here i hi hti
                · unfold MapM.setLeaf at hti ⊢
                  by_cases e : i = k
                  · subst e; simp at hti
                  · simp only [e, if_false] at hti ⊢; exact h.none i hi hti
                · have h1 := mcnt_set M k ⟨true, true, f⟩ g hk
                  have h2 := h.cnt g hg
                  have e : inF M g k = ((M.leaf k).frame == (g : Int)) := by unfold inF; rw [ht]; rfl
                  rw [e] at h1
                  simp only [Bool.true_and, beq_iff_eq] at h1
                  show (if g = (M.leaf k).frame.toNat then P.refs (M.leaf k).frame.toNat - 1 else if g = f then (1 : Int) else P.refs g) = _
                  by_cases e2 : (M.leaf k).frame = g
                  · rw [if_pos e2, if_neg (by omega)] at h1
                    rw [if_pos (by omega), show (M.leaf k).frame.toNat = g by omega, h2]; omega
                  · rw [if_neg e2] at h1
                    rw [if_neg (by omega)]
                    by_cases e3 : g = f
                    · subst e3; rw [if_pos rfl] at h1 ⊢; omega
                    · rw [if_neg (by omega)] at h1; rw [if_neg e3, h2]; omega
                · funext j
                  show (if g = f then P.b (M.leaf k).frame.toNat j else if g = f then (0 : UInt8) else P.b g j) = _
                  rw [if_neg (by rintro rfl; omega), if_neg (by rintro rfl; omega)]
                · unfold mpage MapM.setLeaf
                  by_cases e : i = k
                  · subst e; simp [ht, PoolM.setRow, PoolM.setRef]
                  · simp only [e, if_false]
                    cases hti : (M.leaf i).there with
                    | false => rfl
                    | true =>
                      simp only [if_true]
                      have h3 := h.here i hi hti
                      have h4 := mcnt_zero hz.1 hi hti
                      unfold PoolM.setRow PoolM.setRef
                      funext j
                      simp only []
                      rw [if_neg (by omega), if_neg (by omega)]
  · rw [if_neg ho]; exact ⟨h.stay, fun _ _ => rfl⟩
end

theorem rowB_at {R S : Nat → UInt8} (h : (rowB R == rowB S) = true) {j : Nat} (hj : j < 16) : R j = S j := by
  have h1 : rowB R = rowB S := by simpa using h
  have h2 := congrArg (fun l => l[j]?) h1
  simpa [rowB, hj] using h2
theorem same_used {P : PoolM} {f g : Int} (h : P.same f g = true) : P.used f = true ∧ P.used g = true ∧ ∀ j, j < 16 → P.b f.toNat j = P.b g.toNat j := by
  unfold PoolM.same at h
  rw [Bool.and_eq_true, Bool.and_eq_true] at h
  exact ⟨h.1, h.2.1, fun j hj => rowB_at h.2.2 hj⟩
section
variable {P : PoolM} {M : MapM} {E : Nat → Nat}
theorem join_eq (h : MInv P M E) {n : Nat} (hn : n < 16) (ht : (M.leaf n).there = true) {fr : Int} (hne : (M.leaf n).frame ≠ fr) (hs : P.same (M.leaf n).frame fr = true) :
    ((P.share fr 1).1.share (M.leaf n).frame (-1)).1 = (P.setRef fr.toNat (P.refs fr.toNat + 1)).setRef (M.leaf n).frame.toNat (P.refs (M.leaf n).frame.toNat - 1) := by
  obtain ⟨u1, u2, _⟩ := same_used hs
  have v1 := used_cast.1 u1
  have v2 := used_cast.1 u2
  have hn' : (M.leaf n).frame.toNat ≠ fr.toNat := by omega
  rw [share_inc h u2]
  unfold PoolM.share
  have u3 : PoolM.used (P.setRef fr.toNat (P.refs fr.toNat + 1)) (M.leaf n).frame = true := by
    rw [used_cast]; unfold PoolM.setRef; simp only [hn', if_false]; exact v1
  rw [if_pos u3]
  have r2 : (P.setRef fr.toNat (P.refs fr.toNat + 1)).refs (M.leaf n).frame.toNat = P.refs (M.leaf n).frame.toNat := by unfold PoolM.setRef; simp [hn']
  have hb := h.bound v1.2.1
  rw [r2, show wrap64 (P.refs (M.leaf n).frame.toNat + -1) = P.refs (M.leaf n).frame.toNat - 1 from by rw [IntWalk.wrap64_in _ ⟨by omega, by omega⟩]; omega]
/-- A page joins another frame with the same bytes. -/
theorem MInv.join (h : MInv P M E) (n fr : Int) : MStep P E (mjoin P M n fr).1 (mjoin P M n fr).2.1 ∧ ∀ i, i < 16 → ∀ j, j < 16 → mpage (mjoin P M n fr).1 (mjoin P M n fr).2.1 i j = mpage P M i j := by
  unfold mjoin
  by_cases ho : onB n = true
  · rw [if_pos ho]
    have hn := onB_iff.1 ho
    obtain ⟨k, rfl⟩ := Int.eq_ofNat_of_zero_le hn.1
    have hk : k < 16 := by omega
    rw [Int.toNat_natCast]
    by_cases hc : ((M.leaf k).there && ((M.leaf k).frame != fr && P.same (M.leaf k).frame fr)) = true
    · rw [if_pos hc]
      rw [Bool.and_eq_true, Bool.and_eq_true] at hc
      obtain ⟨ht, hne, hs⟩ := hc
      have hne : (M.leaf k).frame ≠ fr := by simpa using hne
      obtain ⟨u1, u2, hb⟩ := same_used hs
      have v1 := used_cast.1 u1
      have v2 := used_cast.1 u2
      have s1 := (h.here k hk ht).1
      rw [join_eq h hk ht hne hs]
      refine ⟨⟨rfl, ⟨h.st, fun i hi hti => ?_, fun i hi hti => ?_, fun g hg => ?_, h.small⟩, fun _ _ _ => rfl⟩, fun i hi j hj => ?_⟩
      · unfold MapM.setLeaf at hti ⊢
        by_cases e : i = k
        · subst e; simp only [if_true] at hti ⊢; exact ⟨s1, v2.1, by show fr < P.n; omega⟩
        · simp only [e, if_false] at hti ⊢; exact h.here i hi hti
      · unfold MapM.setLeaf at hti ⊢
        by_cases e : i = k
        · subst e; simp at hti
        · simp only [e, if_false] at hti ⊢; exact h.none i hi hti
      · have h1 := mcnt_set M k ⟨true, false, fr⟩ g hk
        have h2 := h.cnt g hg
        have e : inF M g k = ((M.leaf k).frame == (g : Int)) := by unfold inF; rw [ht]; rfl
        rw [e] at h1
        simp only [Bool.true_and, beq_iff_eq] at h1
        show (if g = (M.leaf k).frame.toNat then P.refs (M.leaf k).frame.toNat - 1 else if g = fr.toNat then P.refs fr.toNat + 1 else P.refs g) = (mcnt (M.setLeaf k ⟨true, false, fr⟩) g + E g : Nat)
        by_cases e2 : (M.leaf k).frame = g
        · rw [if_pos e2, if_neg (by omega)] at h1
          rw [if_pos (by omega), show (M.leaf k).frame.toNat = g by omega, h2]; omega
        · rw [if_neg e2] at h1
          rw [if_neg (by omega)]
          by_cases e3 : fr = g
          · rw [if_pos e3] at h1
            rw [if_pos (by omega), show fr.toNat = g by omega, h2]; omega
          · rw [if_neg e3] at h1; rw [if_neg (by omega), h2]; omega
      · unfold mpage MapM.setLeaf
        by_cases e : i = k
        · subst e; simp only [if_true, ht]; exact (hb j hj).symm
        · simp only [e, if_false]; rfl
    · rw [if_neg hc]; exact ⟨h.stay, fun _ _ _ _ => rfl⟩
  · rw [if_neg ho]; exact ⟨h.stay, fun _ _ _ _ => rfl⟩
end

end U
end Go.Proofs.YtnhplapcdgnaaaaGreat

set_option linter.unusedVariables false
set_option linter.unusedSimpArgs false
namespace Go.Proofs.YtnhplapcdgnaaaaGreat
open Go.RowKit
namespace U

theorem quiet_ex {P : Program} {f : FuncId} {args : Array Value} {w : World} {n : Nat} {v : Value}
    (h : Calls P f args (w.drewN n) fun e w' => e = .returned v ∧ ∃ m, w' = (w.drewN n).drewN m) : Calls P f args (w.drewN n) fun e w'' => e = .returned v ∧ ∃ m, w'' = w.drewN m :=
  h.mono fun _ _ ⟨he, m, hm⟩ => ⟨he, n + m, by rw [hm]; simp [World.drewN, Nat.add_assoc]⟩

def JoinPost (w : World) (L : PoolAt) (g N : Nat) (x : PoolM × MapM × Nat) (e : Ending) (w' : World) : Prop :=
  e = .returned (errv x.2.2) ∧ PoolRep w' L x.1 ∧ MRep w' g 140 N L.p x.2.1 ∧ Upd (ownM L g) w w'

set_option maxRecDepth 100000 in
set_option maxHeartbeats 2000000 in
theorem join_no (w : World) (L : PoolAt) (P : PoolM) (g N : Nat) (M : MapM) (rp : PoolRep w L P) (r : MRep w g 140 N L.p M) (k : Nat) (hk : k < 16) (fr : Int)
    (hc : ((M.leaf k).there && ((M.leaf k).frame != fr && P.same (M.leaf k).frame fr)) = false) :
    Calls Tryz.prog 125 #[.pointer (some ⟨g, 0, none⟩), .int .i64 k, .int .i64 fr] w (JoinPost w L g N (P, M, 8)) := by
  have ho' : onB k = true := onB_iff.2 ⟨by omega, by omega⟩
  have cp := r.c0
  have c2 := r.l0 hk
  have c3 := r.l1 hk
  have c4 := r.l2 hk
  have lg := r.lt
  cases ht : (M.leaf k).there with
  | false =>
    rw [ht] at c2
    clear ht hc
    go_enter Tryz.func125, Tryz.ntmps125
    go_wp2_with (go_at_call 103; refine (on_any _ _).mono ?_; rintro e w' ⟨rfl, rfl⟩)
    go_quiet (fail)
    go_wp2
    go_ret
    exact ⟨rfl, (rp.alloc _).drewN _, (r.alloc _).drewN _, ((Upd.refl _ _).alloc _).drewN _⟩
  | true =>
    rw [ht] at c2
    by_cases hf : (M.leaf k).frame = fr
    · have hf' : ((M.leaf k).frame == fr) = true := by simpa using hf
      clear ht hc hf
      go_enter Tryz.func125, Tryz.ntmps125
      go_wp2_with (go_at_call 103; refine (on_any _ _).mono ?_; rintro e w' ⟨rfl, rfl⟩)
      go_quiet (fail)
      go_wp2
      go_ret
      exact ⟨rfl, (rp.alloc _).drewN _, (r.alloc _).drewN _, ((Upd.refl _ _).alloc _).drewN _⟩
    · have hf' : ((M.leaf k).frame == fr) = false := by simpa using hf
      have hs : P.same (M.leaf k).frame fr = false := by
        rw [ht] at hc
        have hne : ((M.leaf k).frame != fr) = true := by simpa using hf
        rw [hne] at hc
        simpa using hc
      have HS := Lib.hid hs
      clear ht hc hf hs
      go_enter Tryz.func125, Tryz.ntmps125
      go_wp2_with (go_at_call 103; refine (on_any _ _).mono ?_; rintro e w' ⟨rfl, rfl⟩)
      go_quiet ((go_at_call 73; exact quiet_ex (HS.out ▸ same_any _ L P ((rp.alloc _).drewN _) _ _)))
      go_wp2
      go_ret
      exact ⟨rfl, (rp.alloc _).drewN _, (r.alloc _).drewN _, ((Upd.refl _ _).alloc _).drewN _⟩

/-- What stands while a page is joined: the pool, the map, the box of its leaf. -/
structure Jn (w W : World) (L : PoolAt) (g N : Nat) (M : MapM) (k : Nat) (P : PoolM) : Prop where
  rp : PoolRep W L P
  m : MRep W g 140 N L.p M
  bx : W.heap[w.heap.size]? = some (.cells #[.bool (M.leaf k).there, .bool (M.leaf k).write, .int .i64 (M.leaf k).frame] 88 (0, 0))
  up : Upd (ownM L g) w W
section
variable {w W W' : World} {L : PoolAt} {g N k : Nat} {M : MapM} {P P' : PoolM}
theorem Jn.drewN (t : Jn w W L g N M k P) (n : Nat) : Jn w (W.drewN n) L g N M k P := ⟨t.rp.drewN n, t.m.drewN n, t.bx, t.up.drewN n⟩
theorem Jn.drew (t : Jn w W L g N M k P) : Jn w W.drew L g N M k P := t.drewN 1
theorem Jn.step (t : Jn w W L g N M k P) (h1 : ¬ L.own g) (h2 : ¬ L.own w.heap.size) (r : PoolRep W' L P') (u : Upd L.own W W') : Jn w W' L g N M k P' :=
  ⟨r, t.m.upd_ u h1, (u.block _ (heap_lt t.bx) h2).trans t.bx, t.up.trans u.toM⟩
theorem Jn.b2 (t : Jn w W L g N M k P) : W.cell? ⟨w.heap.size, 2, none⟩ = some (.int .i64 (M.leaf k).frame) := by rw [cell_of_row _ _ 2 _ _ _ t.bx]; rfl
end

set_option maxRecDepth 100000 in
set_option maxHeartbeats 2000000 in
theorem join_yes (w : World) (L : PoolAt) (P : PoolM) (g N : Nat) (M : MapM) (rp : PoolRep w L P) (r : MRep w g 140 N L.p M) (k : Nat) (hk : k < 16) (fr : Int)
    (ht : (M.leaf k).there = true) (hf : (M.leaf k).frame ≠ fr) (hs : P.same (M.leaf k).frame fr = true) :
    Calls Tryz.prog 125 #[.pointer (some ⟨g, 0, none⟩), .int .i64 k, .int .i64 fr] w
      (JoinPost w L g N (((P.share fr 1).1.share (M.leaf k).frame (-1)).1, M.setLeaf k ⟨true, false, fr⟩, 0)) := by
  have ho' : onB k = true := onB_iff.2 ⟨by omega, by omega⟩
  have cp := r.c0
  have c2 := r.l0 hk
  have c3 := r.l1 hk
  have c4 := r.l2 hk
  have lg := r.lt
  have hne := map_ne rp r (by decide) (by decide) (by decide)
  have hno : ¬ L.own g := fun h => h.elim hne.2.1 hne.2.2
  have hl := rp.lts'
  have hno2 : ¬ L.own w.heap.size := by unfold PoolAt.own; omega
  have J0 : Jn w (w.alloc (.cells #[.bool (M.leaf k).there, .bool (M.leaf k).write, .int .i64 (M.leaf k).frame] 88)) L g N M k P := ⟨rp.alloc _, r.alloc _, heap_alloc_new w _, (Upd.refl _ _).alloc _⟩
  rw [ht] at c2
  have hf' : ((M.leaf k).frame == fr) = false := by simpa using hf
  have HS := Lib.hid hs
  have HT := Lib.hid ht
  clear ht hf hs
  go_enter Tryz.func125, Tryz.ntmps125
  go_wp2_with (go_at_call 103; refine (on_any _ _).mono ?_; rintro e w' ⟨rfl, rfl⟩)
  go_quiet ((go_at_call 73; exact quiet_ex (HS.out ▸ same_any _ L P ((rp.alloc _).drewN _) _ _)))
  rw [HT.out] at J0
  go_wp2_with (go_at_call 133; refine (share_any _ L P (by repeat (first | assumption | apply Jn.drew | apply Jn.drewN) : Jn w _ L g N M k _).rp _).mono ?_; rintro e w2 ⟨rfl, r2, u2⟩; have J2 := Jn.step (by repeat (first | assumption | apply Jn.drew | apply Jn.drewN) : Jn w _ L g N M k _) hno hno2 r2 u2; have d0 := J2.m.c0; have d2 := J2.b2; have l2 := heap_lt J2.bx)
  go_region_with (go_at_call 122; refine (drop_any _ L _ (Jn.rp (by repeat (first | assumption | apply Jn.drew | apply Jn.drewN) : Jn w _ L g N M k _)) _).mono ?_; rintro e w3 ⟨rfl, r3, u3⟩; have J3 := Jn.step (by repeat (first | assumption | apply Jn.drew | apply Jn.drewN) : Jn w _ L g N M k _) hno hno2 r3 u3; have e0 := J3.m.l0 hk; have e1 := J3.m.l1 hk; have e2 := J3.m.l2 hk; have g0 := J3.m.fr (17 + k * 3); have g1 := J3.m.fr (17 + k * 3 + 1); have g2 := J3.m.fr (17 + k * 3 + 2))
  all_goals go_wp2
  all_goals go_ret
  all_goals exact ⟨rfl, (Jn.rp (by repeat (first | assumption | apply Jn.drew | apply Jn.drewN) : Jn w _ L g N M k _)).keep3 hne _ _ _ _ _ _, (Jn.m (by repeat (first | assumption | apply Jn.drew | apply Jn.drewN) : Jn w _ L g N M k _)).setLeaf (l := ⟨true, false, fr⟩) hk, (Jn.up (by repeat (first | assumption | apply Jn.drew | apply Jn.drewN) : Jn w _ L g N M k _)).sc3 (S := ownM L g) (.inr rfl) _ _ _ _ _ _⟩

theorem join_any (w : World) (L : PoolAt) (P : PoolM) (g N : Nat) (M : MapM) (rp : PoolRep w L P) (r : MRep w g 140 N L.p M) (n fr : Int) :
    Calls Tryz.prog 125 #[.pointer (some ⟨g, 0, none⟩), .int .i64 n, .int .i64 fr] w (JoinPost w L g N (mjoin P M n fr)) := by
  by_cases ho : onB n = true
  · obtain ⟨k, rfl⟩ := Int.eq_ofNat_of_zero_le (onB_iff.1 ho).1
    have hk : k < 16 := by have := (onB_iff.1 ho).2; omega
    by_cases hc : ((M.leaf k).there && ((M.leaf k).frame != fr && P.same (M.leaf k).frame fr)) = true
    · have hc' := hc
      rw [Bool.and_eq_true, Bool.and_eq_true] at hc
      have e : mjoin P M k fr = (((P.share fr 1).1.share (M.leaf k).frame (-1)).1, M.setLeaf k ⟨true, false, fr⟩, 0) := by
        unfold mjoin
        rw [if_pos ho, Int.toNat_natCast, if_pos hc']
      rw [e]
      exact join_yes w L P g N M rp r k hk fr hc.1 (by simpa using hc.2.1) hc.2.2
    · have e : mjoin P M k fr = (P, M, 8) := by
        unfold mjoin
        rw [if_pos ho, Int.toNat_natCast, if_neg hc]
      rw [e]
      exact join_no w L P g N M rp r k hk fr (by simpa using hc)
  · have e : mjoin P M n fr = (P, M, 1) := by unfold mjoin; rw [if_neg ho]
    have ho' : onB n = false := by simpa using ho
    rw [e]
    clear ho e
    go_enter Tryz.func125, Tryz.ntmps125
    go_wp2_with (go_at_call 103; refine (on_any _ _).mono ?_; rintro e w' ⟨rfl, rfl⟩)
    go_ret
    exact ⟨rfl, rp, r, Upd.refl _ _⟩

end U
end Go.Proofs.YtnhplapcdgnaaaaGreat
