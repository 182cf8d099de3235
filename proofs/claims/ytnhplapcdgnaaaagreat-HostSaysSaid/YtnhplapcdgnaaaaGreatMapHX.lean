import Derived.Test.YtnhplapcdgnaaaaGreatMapG
set_option linter.unusedVariables false
set_option linter.unusedSimpArgs false
namespace Go.Proofs.YtnhplapcdgnaaaaGreat
open Go.RowKit
namespace U

set_option maxRecDepth 100000 in
set_option maxHeartbeats 1000000 in
theorem touch_move_full (w : World) (L : PoolAt) (P : PoolM) (g N : Nat) (M : MapM) (rp : PoolRep w L P) (r : MRep w g 140 N L.p M) (k : Nat) (hk : k < 16)
    (s0 : M.state k ≠ 0) (s2 : M.state k ≠ 2) (ht : (M.leaf k).there = true) (hw : (M.leaf k).write = false) (h1 : (P.of (M.leaf k).frame).2.2 = 0) (h2 : (P.of (M.leaf k).frame).2.1 ≠ 1) (hf : P.free = none) :
    Calls Tryz.prog 119 #[.pointer (some ⟨g, 0, none⟩), .int .i64 k, .bool true] w (TouchPost w L g N (P, M, 0, false, 3)) := by
  have ho' : onB k = true := onB_iff.2 ⟨by omega, by omega⟩
  have c0 := r.c0
  have c1 := r.st hk
  have c2 := r.l0 hk
  have c3 := r.l1 hk
  have c4 := r.l2 hk
  have f4 := r.fr (17 + k * 3 + 1)
  have lg := r.lt
  have lg1 : g < w.heap.size + 1 := by omega
  have lg2 : ¬ g = w.heap.size + 1 := by omega
  have lg3 : ¬ w.heap.size + 1 = g := by omega
  have hne := map_ne rp r (by decide) (by decide) (by decide)
  rw [hw] at c3
  have s0' : (M.state k == 0) = false := by simpa using s0
  have s2' : (M.state k == 2) = false := by simpa using s2
  have e1 := Lib.hid h1
  have hr' : ((P.of (M.leaf k).frame).2.1 == 1) = false := by simpa using h2
  have t1 := Lib.hid (show P.take.2.1 = 0 by rw [take_none hf])
  have t2 := Lib.hid (show P.take.2.2 = 3 by rw [take_none hf])
  have t3 := Lib.hid (show P.take.1 = P by rw [take_none hf])
  have hl := rp.lts'
  have hno : ¬ L.own g := fun h => h.elim hne.2.1 hne.2.2
  have hbo : ¬ L.own w.heap.size := by unfold PoolAt.own; omega
  have b0 : (w.alloc (.cells #[.bool true, .bool false, .int .i64 (M.leaf k).frame] 88)).cell? ⟨w.heap.size, 0, none⟩ = some (.bool true) := by
    rw [cell_of_row _ w.heap.size 0 _ _ (0, 0) (heap_alloc_new w _)]; rfl
  clear s0 s2 h1 h2 hw hf
  have bx : (w.alloc (.cells #[.bool true, .bool false, .int .i64 (M.leaf k).frame] 88)).cell? ⟨w.heap.size, 2, none⟩ = some (.int .i64 (M.leaf k).frame) := by
    rw [cell_of_row _ w.heap.size 2 _ _ (0, 0) (heap_alloc_new w _)]; rfl
  go_enter Tryz.func119, Tryz.ntmps119
  go_wp2_with (go_at_call 103; refine (on_any _ _).mono ?_; rintro e w' ⟨rfl, rfl⟩)
  go_region_held3 (fun w' => w'.cell? ⟨g, 0, none⟩ = some (.pointer (some ⟨L.p, 0, none⟩)) ∧ w'.cell? ⟨w.heap.size, 2, none⟩ = some (.int .i64 (M.leaf k).frame)) (go_keep) (first | (go_at_call 92; refine (of_any _ L P (by repeat (first | assumption | apply PoolRep.alloc | apply PoolRep.drew | apply PoolRep.drewN)) _).mono ?_; rw [e1.out, show errv 0 = Value.nilIface from rfl]; unfold frameV; rintro e w2 ⟨rfl, u2⟩; obtain ⟨hcc, hff⟩ := u2.cells; have hz := u2.size; simp at hz; have rp2 := PoolRep.upd_ (by repeat (first | assumption | apply PoolRep.alloc | apply PoolRep.drew | apply PoolRep.drewN)) u2 (fun h => h) (fun h => h) (fun h => h); have hl2 := rp2.lts'; have U2 : Upd Non w w2 := Upd.trans (by repeat (first | assumption | apply Upd.alloc | apply Upd.drew | apply Upd.drewN | exact Upd.refl _ _)) u2; have m2 := MRep.upd_ (by repeat (first | assumption | apply MRep.alloc | apply MRep.drew | apply MRep.drewN) : MRep _ g 140 N L.p M) u2 (fun h => h); have q0 := m2.c0; have q1 := m2.lt; have q2 : w.heap.size < w2.heap.size := (by omega); have q4 : ¬ w2.heap.size = g := (by omega); have q5 : ¬ w2.heap.size = w.heap.size := (by omega); have q3 : w2.cell? ⟨w.heap.size, 2, none⟩ = some (.int .i64 (M.leaf k).frame) := (hcc _ _ (by first | (simp; done) | (simp; omega))).trans (by first | exact bx | exact (World.cell?_alloc_lt _ _ _ (by simp)).trans bx)); have q6 : w2.cell? ⟨w.heap.size, 0, none⟩ = some (.bool true) := (hcc _ _ (by first | (simp; done) | (simp; omega))).trans (by first | exact b0 | exact (World.cell?_alloc_lt _ _ _ (by simp)).trans b0))
  · have T : Mv w (w2.alloc (.cells #[.int .i64 (P.of (M.leaf k).frame).1, .int .i64 (P.of (M.leaf k).frame).2.1] 104)) L g N M k P :=
      ⟨rp2.alloc _, m2.alloc _, (World.cell?_alloc_lt _ _ _ q2).trans q6, (World.cell?_alloc_lt _ _ _ q2).trans q3, (U2.mono (fun _ _ h => h.elim)).alloc _⟩
    clear q0 q3 q6 c0 c1 c2 c3 c4
    have q0 := T.m.c0
    have x0 := T.b0
    have x2 := T.b2
    go_wp2_with (go_at_call 131; refine (take_any _ L P (Mv.rp (by repeat (first | assumption | apply Mv.drew | apply Mv.drewN) : Mv w _ L g N M k _))).mono ?_; rw [t1.out, t2.out, t3.out, show errv 3 = Value.iface 52 (.int .i64 3) from rfl]; rintro e w3 ⟨rfl, p3, u3⟩; have T3 := Mv.step (by repeat (first | assumption | apply Mv.drew | apply Mv.drewN) : Mv w _ L g N M k _) hno hbo p3 u3; have y0 := T3.m.c0; have y1 := T3.b0; have y2 := T3.b2)
    go_ret3
    exact ⟨rfl, p3, T3.m, T3.up⟩
  · have ub := (Upd.refl (at1 (w.heap.size + 1)) w2).sc2 at1_self 0 1 (.int .i64 (P.of (M.leaf k).frame).1) (.int .i64 (P.of (M.leaf k).frame).2.1)
    have T : Mv w ((w2.setCell ⟨w.heap.size + 1, 0, none⟩ (.int .i64 (P.of (M.leaf k).frame).1)).setCell ⟨w.heap.size + 1, 1, none⟩ (.int .i64 (P.of (M.leaf k).frame).2.1)) L g N M k P :=
      ⟨rp2.upd_ ub (by unfold at1; omega) (by unfold at1; omega) (by unfold at1; omega), m2.upd_ ub (by unfold at1; omega), ub.cell q6 (by unfold at1; simp), ub.cell q3 (by unfold at1; simp), (U2.mono (fun _ _ h => h.elim)).over' ub (fun i hi => .inr (by unfold at1 at hi; omega))⟩
    clear q0 q3 q6 c0 c1 c2 c3 c4
    have q0 := T.m.c0
    have x0 := T.b0
    have x2 := T.b2
    go_wp2_with (go_at_call 131; refine (take_any _ L P (Mv.rp (by repeat (first | assumption | apply Mv.drew | apply Mv.drewN) : Mv w _ L g N M k _))).mono ?_; rw [t1.out, t2.out, t3.out, show errv 3 = Value.iface 52 (.int .i64 3) from rfl]; rintro e w3 ⟨rfl, p3, u3⟩; have T3 := Mv.step (by repeat (first | assumption | apply Mv.drew | apply Mv.drewN) : Mv w _ L g N M k _) hno hbo p3 u3; have y0 := T3.m.c0; have y1 := T3.b0; have y2 := T3.b2)
    go_ret3
    exact ⟨rfl, p3, T3.m, T3.up⟩

end U
end Go.Proofs.YtnhplapcdgnaaaaGreat

set_option linter.unusedVariables false
set_option linter.unusedSimpArgs false
namespace Go.Proofs.YtnhplapcdgnaaaaGreat
open Go.RowKit
namespace U

/-- Touch, whatever the page: where a page is there, its frame is one of the pool's. -/
theorem touch_any (w : World) (L : PoolAt) (P : PoolM) (g N : Nat) (M : MapM) (rp : PoolRep w L P) (r : MRep w g 140 N L.p M) (n : Int) (wr : Bool)
    (hfr : ∀ k, k < 16 → (M.leaf k).there = true → 0 ≤ (M.leaf k).frame ∧ (M.leaf k).frame < P.n) :
    Calls Tryz.prog 119 #[.pointer (some ⟨g, 0, none⟩), .int .i64 n, .bool wr] w (TouchPost w L g N (mtouch P M n wr)) := by
  by_cases ho : onB n = true
  · have hn := onB_iff.1 ho
    obtain ⟨k, rfl⟩ := Int.eq_ofNat_of_zero_le hn.1
    have hk : k < 16 := by omega
    have ho : onB (k : Int) = true := ho
    unfold mtouch
    rw [if_pos ho, Int.toNat_natCast]
    by_cases s0 : M.state k = 0
    · rw [if_pos s0]; exact touch_absent w L P g N M rp r k hk wr s0
    · rw [if_neg s0]
      by_cases s2 : M.state k = 2
      · rw [if_pos s2]; exact touch_given w L P g N M rp r k hk wr s2
      · rw [if_neg s2]
        cases ht : (M.leaf k).there with
        | false =>
          simp only [Bool.false_and, Bool.false_eq_true, if_false]
          cases hf : P.free with
          | none => exact touch_new_full w L P g N M rp r k hk wr s0 s2 ht hf
          | some f => have := touch_new w L P g N M rp r k hk wr f s0 s2 ht hf; rw [ht] at this; exact this
        | true =>
          by_cases hw : (M.leaf k).write = true ∨ wr = false
          · rw [if_pos (by rcases hw with h | h <;> simp [h])]
            exact touch_stay w L P g N M rp r k hk wr s0 s2 ht hw
          · have hw1 : (M.leaf k).write = false := by cases h : (M.leaf k).write <;> simp_all
            have hw2 : wr = true := by cases h : wr <;> simp_all
            subst hw2
            rw [if_neg (by simp [hw1])]
            by_cases h1 : P.one (M.leaf k).frame = true
            · rw [if_pos (by simp [h1])]
              exact touch_one w L P g N M rp r k hk s0 s2 ht hw1 h1
            · rw [if_neg (by simp [h1])]
              have hr := hfr k hk ht
              have h2 : (P.of (M.leaf k).frame).2.2 = 0 := by unfold PoolM.of; rw [if_neg (by omega)]
              have h3 : (P.of (M.leaf k).frame).2.1 ≠ 1 := fun e => h1 (by unfold PoolM.one; rw [h2, e]; rfl)
              cases hf : P.free with
              | none => exact touch_move_full w L P g N M rp r k hk s0 s2 ht hw1 h2 h3 hf
              | some f => have := touch_move w L P g N M rp r k hk s0 s2 ht hw1 h2 h3 f hf; rw [ht] at this; exact this
  · have ho' : onB n = false := by simpa using ho
    unfold mtouch
    rw [if_neg ho]
    exact touch_off w L P g N M rp r n wr ho'

end U
end Go.Proofs.YtnhplapcdgnaaaaGreat

set_option linter.unusedVariables false
set_option linter.unusedSimpArgs false
namespace Go.Proofs.YtnhplapcdgnaaaaGreat
open Go.RowKit
namespace U

/-- A page joins another frame with the same bytes. -/
def mjoin (P : PoolM) (M : MapM) (n fr : Int) : PoolM × MapM × Nat :=
  if onB n then
    if (M.leaf n.toNat).there && ((M.leaf n.toNat).frame != fr && P.same (M.leaf n.toNat).frame fr) then (((P.share fr 1).1.share (M.leaf n.toNat).frame (-1)).1, M.setLeaf n.toNat ⟨true, false, fr⟩, 0) else (P, M, 8)
  else (P, M, 1)

end U
end Go.Proofs.YtnhplapcdgnaaaaGreat
