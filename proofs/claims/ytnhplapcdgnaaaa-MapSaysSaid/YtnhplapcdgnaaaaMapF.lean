import Derived.Test.YtnhplapcdgnaaaaMapE
set_option linter.unusedVariables false
set_option linter.unusedSimpArgs false
namespace Go.Proofs.Ytnhplapcdgnaaaa
open Go.RowKit
namespace U

theorem take_some {P : PoolM} {f : Nat} (h : P.free = some f) : P.take.2.1 = f ∧ P.take.2.2 = 0 := by unfold PoolM.take; rw [h]; exact ⟨rfl, rfl⟩
theorem take_none {P : PoolM} (h : P.free = none) : P.take = (P, 0, 3) := by unfold PoolM.take; rw [h]

set_option maxRecDepth 100000 in
set_option maxHeartbeats 1000000 in
theorem touch_new (w : World) (L : PoolAt) (P : PoolM) (g N : Nat) (M : MapM) (rp : PoolRep w L P) (r : MRep w g 146 N L.p M) (k : Nat) (hk : k < 16) (wr : Bool) (f : Nat)
    (s0 : M.state k ≠ 0) (s2 : M.state k ≠ 2) (ht : (M.leaf k).there = false) (hf : P.free = some f) :
    Calls Try.prog 51 #[.pointer (some ⟨g, 0, none⟩), .int .i64 k, .bool wr] w (TouchPost w L g N (P.move (M.leaf k) f, M.setLeaf k ⟨true, true, f⟩, f, (M.leaf k).there, 0)) := by
  have ho' : onB k = true := onB_iff.2 ⟨by omega, by omega⟩
  have c0 := r.c0
  have c1 := r.st hk
  have c2 := r.l0 hk
  have c3 := r.l1 hk
  have c4 := r.l2 hk
  have lg := r.lt
  have hne := map_ne rp r (by decide) (by decide) (by decide)
  have hno : ¬ L.own g := fun h => h.elim hne.2.1 hne.2.2
  have hl := rp.lts'
  have hbo : ¬ L.own w.heap.size := by unfold PoolAt.own; omega
  have s0' : (M.state k == 0) = false := by simpa using s0
  have s2' : (M.state k == 2) = false := by simpa using s2
  have e1 := Lib.hid (take_some hf).1
  have e2 := Lib.hid (take_some hf).2
  have F := Lib.hid (show P.move (M.leaf k) f = P.take.1 by unfold PoolM.move; rw [ht]; rfl)
  clear s0 s2 hf hl
  go_enter Try.func51, Try.ntmps51
  go_wp2_with (first
    | (go_at_call 85; refine (on_any _ _).mono ?_; rintro e w' ⟨rfl, rfl⟩)
    | (go_at_call 30; refine (take_any _ L P (by repeat (first | assumption | apply PoolRep.alloc | apply PoolRep.drew | apply PoolRep.drewN))).mono ?_; rw [e1.out, e2.out, show errv 0 = Value.nilIface from rfl]; rintro e w2 ⟨rfl, p2, u2⟩; have m2 := MRep.upd_ (by repeat (first | assumption | apply MRep.alloc | apply MRep.drew | apply MRep.drewN) : MRep _ g 146 N L.p M) u2 hno; have q0 := m2.c0; have q1 := m2.l0 hk; have q2 := m2.l1 hk; have q3 := m2.l2 hk; have g0 := m2.fr (17 + k * 3); have g1 := m2.fr (17 + k * 3 + 1); have g2 := m2.fr (17 + k * 3 + 2); have hcc : ∀ o, w2.cell? ⟨w.heap.size, o, none⟩ = _ := fun o => World.cell?_of_block (a := ⟨w.heap.size, o, none⟩) (u2.block w.heap.size (by simp) hbo)))
  go_quiet (fail)
  go_wp2
  go_ret3
  refine ⟨by rw [ht]; rfl, ?_, ?_, ?_⟩
  · rw [F.out]; exact (p2.keep3 hne _ _ _ _ _ _).drewN _
  · exact (m2.setLeaf (l := ⟨true, true, f⟩) hk).drewN _
  · exact ((((Upd.refl _ w).alloc _).trans u2.toM).sc3 (S := ownM L g) (.inr rfl) _ _ _ _ _ _).drewN _

set_option maxRecDepth 100000 in
set_option maxHeartbeats 1000000 in
theorem touch_new_full (w : World) (L : PoolAt) (P : PoolM) (g N : Nat) (M : MapM) (rp : PoolRep w L P) (r : MRep w g 146 N L.p M) (k : Nat) (hk : k < 16) (wr : Bool)
    (s0 : M.state k ≠ 0) (s2 : M.state k ≠ 2) (ht : (M.leaf k).there = false) (hf : P.free = none) :
    Calls Try.prog 51 #[.pointer (some ⟨g, 0, none⟩), .int .i64 k, .bool wr] w (TouchPost w L g N (P, M, 0, false, 3)) := by
  have ho' : onB k = true := onB_iff.2 ⟨by omega, by omega⟩
  have c0 := r.c0
  have c1 := r.st hk
  have c2 := r.l0 hk
  have c3 := r.l1 hk
  have c4 := r.l2 hk
  have lg := r.lt
  have hne := map_ne rp r (by decide) (by decide) (by decide)
  have hno : ¬ L.own g := fun h => h.elim hne.2.1 hne.2.2
  have s0' : (M.state k == 0) = false := by simpa using s0
  have s2' : (M.state k == 2) = false := by simpa using s2
  have e1 := Lib.hid (show P.take.2.1 = 0 by rw [take_none hf])
  have e2 := Lib.hid (show P.take.2.2 = 3 by rw [take_none hf])
  have e3 := Lib.hid (show P.take.1 = P by rw [take_none hf])
  clear s0 s2 hf
  go_enter Try.func51, Try.ntmps51
  go_wp2_with (first
    | (go_at_call 85; refine (on_any _ _).mono ?_; rintro e w' ⟨rfl, rfl⟩)
    | (go_at_call 30; refine (take_any _ L P (by repeat (first | assumption | apply PoolRep.alloc | apply PoolRep.drew | apply PoolRep.drewN))).mono ?_; rw [e1.out, e2.out, e3.out, show errv 3 = Value.iface 130 (.int .i64 3) from rfl]; rintro e w2 ⟨rfl, p2, u2⟩; have m2 := MRep.upd_ (by repeat (first | assumption | apply MRep.alloc | apply MRep.drew | apply MRep.drewN) : MRep _ g 146 N L.p M) u2 hno))
  go_ret3
  exact ⟨rfl, p2, m2, ((Upd.refl _ w).alloc _).trans u2.toM⟩

set_option maxRecDepth 100000 in
set_option maxHeartbeats 1000000 in
theorem touch_off (w : World) (L : PoolAt) (P : PoolM) (g N : Nat) (M : MapM) (rp : PoolRep w L P) (r : MRep w g 146 N L.p M) (n : Int) (wr : Bool) (ho : onB n = false) :
    Calls Try.prog 51 #[.pointer (some ⟨g, 0, none⟩), .int .i64 n, .bool wr] w (TouchPost w L g N (P, M, 0, false, 1)) := by
  go_enter Try.func51, Try.ntmps51
  go_wp2_with (go_at_call 85; refine (on_any _ _).mono ?_; rintro e w' ⟨rfl, rfl⟩)
  go_ret3
  exact ⟨rfl, rp, r, Upd.refl _ _⟩

set_option maxRecDepth 100000 in
set_option maxHeartbeats 1000000 in
theorem touch_absent (w : World) (L : PoolAt) (P : PoolM) (g N : Nat) (M : MapM) (rp : PoolRep w L P) (r : MRep w g 146 N L.p M) (k : Nat) (hk : k < 16) (wr : Bool) (s0 : M.state k = 0) :
    Calls Try.prog 51 #[.pointer (some ⟨g, 0, none⟩), .int .i64 k, .bool wr] w (TouchPost w L g N (P, M, 0, false, 2)) := by
  have ho' : onB k = true := onB_iff.2 ⟨by omega, by omega⟩
  have c1 := r.st hk
  rw [s0] at c1
  clear s0
  go_enter Try.func51, Try.ntmps51
  go_wp2_with (go_at_call 85; refine (on_any _ _).mono ?_; rintro e w' ⟨rfl, rfl⟩)
  go_ret3
  exact ⟨rfl, rp, r, Upd.refl _ _⟩

set_option maxRecDepth 100000 in
set_option maxHeartbeats 1000000 in
theorem touch_given (w : World) (L : PoolAt) (P : PoolM) (g N : Nat) (M : MapM) (rp : PoolRep w L P) (r : MRep w g 146 N L.p M) (k : Nat) (hk : k < 16) (wr : Bool) (s2 : M.state k = 2) :
    Calls Try.prog 51 #[.pointer (some ⟨g, 0, none⟩), .int .i64 k, .bool wr] w (TouchPost w L g N (P, M, 0, false, 6)) := by
  have ho' : onB k = true := onB_iff.2 ⟨by omega, by omega⟩
  have c1 := r.st hk
  rw [s2] at c1
  clear s2
  go_enter Try.func51, Try.ntmps51
  go_wp2_with (go_at_call 85; refine (on_any _ _).mono ?_; rintro e w' ⟨rfl, rfl⟩)
  go_ret3
  exact ⟨rfl, rp, r, Upd.refl _ _⟩

end U
end Go.Proofs.Ytnhplapcdgnaaaa
