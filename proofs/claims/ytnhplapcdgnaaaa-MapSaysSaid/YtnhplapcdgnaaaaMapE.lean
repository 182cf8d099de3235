import Derived.Test.YtnhplapcdgnaaaaMapD
set_option linter.unusedVariables false
set_option linter.unusedSimpArgs false
namespace Go.Proofs.Ytnhplapcdgnaaaa
open Go.RowKit
namespace U

theorem Upd.sc2 {S : Nat → Prop} {a w : World} {g : Nat} (u : Upd S a w) (hg : S g) (i j : Nat) (x y : Value) : Upd S a ((w.setCell ⟨g, i, none⟩ x).setCell ⟨g, j, none⟩ y) :=
  (u.setCell (p := ⟨g, i, none⟩) (fun _ => hg) x).setCell (p := ⟨g, j, none⟩) (fun _ => hg) y
theorem PoolRep.lts' {w : World} {L : PoolAt} {P : PoolM} (r : PoolRep w L P) : L.p < w.heap.size ∧ L.bb < w.heap.size ∧ L.rb < w.heap.size := by
  obtain ⟨_, _, hB, _⟩ := r.bytes
  obtain ⟨_, _, hR, _⟩ := r.counts
  exact ⟨r.st.lt, hB.lt, hR.lt⟩

set_option maxRecDepth 100000 in
set_option maxHeartbeats 1000000 in
theorem touch_one (w : World) (L : PoolAt) (P : PoolM) (g N : Nat) (M : MapM) (rp : PoolRep w L P) (r : MRep w g 146 N L.p M) (k : Nat) (hk : k < 16)
    (s0 : M.state k ≠ 0) (s2 : M.state k ≠ 2) (ht : (M.leaf k).there = true) (hw : (M.leaf k).write = false) (h1 : P.one (M.leaf k).frame = true) :
    Calls Try.prog 51 #[.pointer (some ⟨g, 0, none⟩), .int .i64 k, .bool true] w (TouchPost w L g N (P, M.setLeaf k { M.leaf k with write := true }, (M.leaf k).frame, false, 0)) := by
  have ho' : onB k = true := onB_iff.2 ⟨by omega, by omega⟩
  have c0 := r.c0
  have c1 := r.st hk
  have c2 := r.l0 hk
  have c3 := r.l1 hk
  have c4 := r.l2 hk
  have f4 := r.fr (17 + k * 3 + 1)
  have lg := r.lt
  have lg1 : g < w.heap.size + 1 := by omega
  have lg2 : ¬ g = w.heap.size + 1 := by omega
  have lg3 : ¬ w.heap.size + 1 = g := by omega
  have hne := map_ne rp r (by decide) (by decide) (by decide)
  rw [hw] at c3
  have s0' : (M.state k == 0) = false := by simpa using s0
  have s2' : (M.state k == 2) = false := by simpa using s2
  unfold PoolM.one at h1
  rw [Bool.and_eq_true, beq_iff_eq, beq_iff_eq] at h1
  have e1 := Lib.hid h1.1
  have e2 := Lib.hid h1.2
  clear s0 s2 h1 hw
  have bx : (w.alloc (.cells #[.bool true, .bool false, .int .i64 (M.leaf k).frame] 33)).cell? ⟨w.heap.size, 2, none⟩ = some (.int .i64 (M.leaf k).frame) := by
    rw [cell_of_row _ w.heap.size 2 _ _ (0, 0) (heap_alloc_new w _)]; rfl
  go_enter Try.func51, Try.ntmps51
  go_wp2_with (go_at_call 85; refine (on_any _ _).mono ?_; rintro e w' ⟨rfl, rfl⟩)
  go_region_held3 (fun w' => w'.cell? ⟨g, 0, none⟩ = some (.pointer (some ⟨L.p, 0, none⟩)) ∧ w'.cell? ⟨w.heap.size, 2, none⟩ = some (.int .i64 (M.leaf k).frame)) (go_keep) (first | (go_at_call 46; refine (of_any _ L P (by repeat (first | assumption | apply PoolRep.alloc | apply PoolRep.drew | apply PoolRep.drewN)) _).mono ?_; rw [e1.out, show errv 0 = Value.nilIface from rfl]; unfold frameV; rw [e2.out]; rintro e w2 ⟨rfl, u2⟩; obtain ⟨hcc, hff⟩ := u2.cells; have hz := u2.size; simp at hz; have rp2 := PoolRep.upd_ (by repeat (first | assumption | apply PoolRep.alloc | apply PoolRep.drew | apply PoolRep.drewN)) u2 (fun h => h) (fun h => h) (fun h => h); have U2 : Upd Non w w2 := Upd.trans (by repeat (first | assumption | apply Upd.alloc | apply Upd.drew | apply Upd.drewN | exact Upd.refl _ _)) u2; have m2 := MRep.upd_ (by repeat (first | assumption | apply MRep.alloc | apply MRep.drew | apply MRep.drewN) : MRep _ g 146 N L.p M) u2 (fun h => h); have q0 := m2.c0; have q1 := m2.lt; have q2 : w.heap.size < w2.heap.size := (by omega); have q4 : ¬ w2.heap.size = g := (by omega); have q5 : ¬ w2.heap.size = w.heap.size := (by omega); have q3 : w2.cell? ⟨w.heap.size, 2, none⟩ = some (.int .i64 (M.leaf k).frame) := (hcc _ _ (by first | (simp; done) | (simp; omega))).trans (by first | exact bx | exact (World.cell?_alloc_lt _ _ _ (by simp)).trans bx)))
  all_goals go_wp2
  all_goals go_ret3
  all_goals have hl := rp.lts'
  · refine ⟨rfl, ?_, ?_, ?_⟩
    · exact (rp2.keep1 hne _ _).alloc _
    · exact (m2.setWrite hk).alloc _
    · exact ((U2.mono (fun _ _ h => h.elim)).setCell (p := ⟨g, 17 + k * 3 + 1, none⟩) (S := ownM L g) (fun _ => .inr rfl) _).alloc _
  · have ub := (Upd.refl (at1 (w.heap.size + 1)) w2).sc2 at1_self 0 1 (.int .i64 (P.of (M.leaf k).frame).1) (.int .i64 1)
    have rp3 := rp2.upd_ ub (by unfold at1; omega) (by unfold at1; omega) (by unfold at1; omega)
    have m3 := m2.upd_ ub (by unfold at1; omega)
    refine ⟨rfl, ?_, ?_, ?_⟩
    · exact rp3.keep1 hne _ _
    · exact m3.setWrite hk
    · exact (((U2.mono (fun _ _ h => h.elim)).over' ub (fun i hi => .inr (by unfold at1 at hi; omega)))).setCell (p := ⟨g, 17 + k * 3 + 1, none⟩) (S := ownM L g) (fun _ => .inr rfl) _

end U
end Go.Proofs.Ytnhplapcdgnaaaa
