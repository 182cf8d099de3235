import Derived.Test.YtnhplapcdgnaaaaMapL
import Derived.Test.YtnhplapcdgnaaaaRPoolB
set_option linter.unusedVariables false
set_option linter.unusedSimpArgs false
namespace Go.Proofs.Ytnhplapcdgnaaaa
open Go.RowKit
namespace U

/-! The reference's map: at the head of a block (type T, N cells); behind it the cells x. -/
structure RMRep (w : World) (g : Nat) (T N p : Nat) (M : MapM) (x : Nat → Value) : Prop where
  row : ∃ c : Nat → Value, Row w g T N c ∧ c 0 = .pointer (some ⟨p, 0, none⟩) ∧ (∀ i, i < 16 → c (1 + i) = .int .i64 (M.state i) ∧
    c (17 + i * 3) = .bool (M.leaf i).there ∧ c (17 + i * 3 + 1) = .bool (M.leaf i).write ∧ c (17 + i * 3 + 2) = .int .i64 (M.leaf i).frame) ∧ ∀ i, 65 ≤ i → i < N → c i = x i
  big : 65 ≤ N

section
variable {w w' : World} {g T N p : Nat} {M : MapM} {x : Nat → Value} {S : Nat → Prop}
theorem RMRep.toM (r : RMRep w g T N p M x) : MRep w g T N p M := by
  obtain ⟨c, h1, h2, h3, _⟩ := r.row
  exact ⟨⟨c, h1, h2, h3⟩, r.big⟩
theorem RMRep.c0 (r : RMRep w g T N p M x) : w.cell? ⟨g, 0, none⟩ = some (.pointer (some ⟨p, 0, none⟩)) := r.toM.c0
theorem RMRep.st (r : RMRep w g T N p M x) {i : Nat} (hi : i < 16) : w.cell? ⟨g, 1 + i, none⟩ = some (.int .i64 (M.state i)) := r.toM.st hi
theorem RMRep.l0 (r : RMRep w g T N p M x) {i : Nat} (hi : i < 16) : w.cell? ⟨g, 17 + i * 3, none⟩ = some (.bool (M.leaf i).there) := r.toM.l0 hi
theorem RMRep.l1 (r : RMRep w g T N p M x) {i : Nat} (hi : i < 16) : w.cell? ⟨g, 17 + i * 3 + 1, none⟩ = some (.bool (M.leaf i).write) := r.toM.l1 hi
theorem RMRep.l2 (r : RMRep w g T N p M x) {i : Nat} (hi : i < 16) : w.cell? ⟨g, 17 + i * 3 + 2, none⟩ = some (.int .i64 (M.leaf i).frame) := r.toM.l2 hi
theorem RMRep.fr (r : RMRep w g T N p M x) (i : Nat) : w.frozen? ⟨g, i, none⟩ = false := r.toM.fr i
theorem RMRep.lt (r : RMRep w g T N p M x) : g < w.heap.size := r.toM.lt
theorem RMRep.xc (r : RMRep w g T N p M x) {i : Nat} (h : 65 ≤ i) (hi : i < N) : w.cell? ⟨g, i, none⟩ = some (x i) := by
  obtain ⟨c, h1, _, _, h4⟩ := r.row
  rw [h1.cell hi, h4 i h hi]
theorem RMRep.keep (r : RMRep w g T N p M x) (e : w'.heap[g]? = w.heap[g]?) : RMRep w' g T N p M x := by
  obtain ⟨c, hR, h⟩ := r.row
  exact ⟨⟨c, hR.keep e, h⟩, r.big⟩
theorem RMRep.drewN (r : RMRep w g T N p M x) (n : Nat) : RMRep (w.drewN n) g T N p M x := r.keep rfl
theorem RMRep.drew (r : RMRep w g T N p M x) : RMRep w.drew g T N p M x := r.keep rfl
theorem RMRep.alloc (r : RMRep w g T N p M x) (o : Obj) : RMRep (w.alloc o) g T N p M x := r.keep (Below.heap_alloc w o g r.lt)
theorem RMRep.upd_ (r : RMRep w g T N p M x) (u : Upd S w w') (h : ¬ S g) : RMRep w' g T N p M x := r.keep (u.block g r.lt h)
theorem RMRep.setState (r : RMRep w g T N p M x) {n : Nat} {s : Int} (hn : n < 16) : RMRep (w.setCell ⟨g, 1 + n, none⟩ (.int .i64 s)) g T N p (M.setState n s) x := by
  obtain ⟨c, hR, h0, h, hx⟩ := r.row
  have := r.big
  refine ⟨⟨_, hR.set_ _, ?_, fun i hi => ?_, fun i h1 h2 => by unfold upd; rw [if_neg (by omega)]; exact hx i h1 h2⟩, r.big⟩
  · unfold upd; rw [if_neg (by omega)]; exact h0
  · unfold upd MapM.setState
    obtain ⟨h1, h2, h3, h4⟩ := h i hi
    refine ⟨?_, by rw [if_neg (by omega)]; exact h2, by rw [if_neg (by omega)]; exact h3, by rw [if_neg (by omega)]; exact h4⟩
    by_cases e : i = n
    · subst e; simp
    · rw [if_neg (by omega)]; simp [e, h1]
theorem RMRep.setLeaf (r : RMRep w g T N p M x) {n : Nat} {l : LeafM} (hn : n < 16) :
    RMRep (((w.setCell ⟨g, 17 + n * 3, none⟩ (.bool l.there)).setCell ⟨g, 17 + n * 3 + 1, none⟩ (.bool l.write)).setCell ⟨g, 17 + n * 3 + 2, none⟩ (.int .i64 l.frame)) g T N p (M.setLeaf n l) x := by
  obtain ⟨c, hR, h0, h, hx⟩ := r.row
  have := r.big
  refine ⟨⟨_, ((hR.set_ (i := 17 + n * 3) _).set_ (i := 17 + n * 3 + 1) _).set_ (i := 17 + n * 3 + 2) _, ?_, fun i hi => ?_, fun i h1 h2 => ?_⟩, r.big⟩
  · unfold upd; rw [if_neg (by omega), if_neg (by omega), if_neg (by omega)]; exact h0
  · unfold upd MapM.setLeaf
    obtain ⟨h1, h2, h3, h4⟩ := h i hi
    by_cases e : i = n
    · subst e
      refine ⟨by rw [if_neg (by omega), if_neg (by omega), if_neg (by omega)]; exact h1, by rw [if_neg (by omega), if_neg (by omega), if_pos rfl]; simp, by rw [if_neg (by omega), if_pos rfl]; simp, by rw [if_pos rfl]; simp⟩
    · refine ⟨by rw [if_neg (by omega), if_neg (by omega), if_neg (by omega)]; exact h1, ?_, ?_, ?_⟩ <;> (rw [if_neg (by omega), if_neg (by omega), if_neg (by omega)]; simp [e, h2, h3, h4])
  · unfold upd; rw [if_neg (by omega), if_neg (by omega), if_neg (by omega)]; exact hx i h1 h2
theorem RMRep.setWrite (r : RMRep w g T N p M x) {n : Nat} {b : Bool} (hn : n < 16) : RMRep (w.setCell ⟨g, 17 + n * 3 + 1, none⟩ (.bool b)) g T N p (M.setLeaf n { M.leaf n with write := b }) x := by
  obtain ⟨c, hR, h0, h, hx⟩ := r.row
  have := r.big
  refine ⟨⟨_, hR.set_ _, ?_, fun i hi => ?_, fun i h1 h2 => by unfold upd; rw [if_neg (by omega)]; exact hx i h1 h2⟩, r.big⟩
  · unfold upd; rw [if_neg (by omega)]; exact h0
  · unfold upd MapM.setLeaf
    obtain ⟨h1, h2, h3, h4⟩ := h i hi
    by_cases e : i = n
    · subst e
      refine ⟨by rw [if_neg (by omega)]; exact h1, by rw [if_neg (by omega)]; simp [h2], by rw [if_pos rfl]; simp, by rw [if_neg (by omega)]; simp [h4]⟩
    · refine ⟨by rw [if_neg (by omega)]; exact h1, ?_, ?_, ?_⟩ <;> (rw [if_neg (by omega)]; simp [e, h2, h3, h4])
theorem RMRep.setX (r : RMRep w g T N p M x) {i : Nat} {v : Value} (hi : 65 ≤ i) : RMRep (w.setCell ⟨g, i, none⟩ v) g T N p M (upd x i v) := by
  obtain ⟨c, hR, h0, h, hx⟩ := r.row
  have := r.big
  refine ⟨⟨_, hR.set_ _, ?_, fun j hj => ?_, fun j h1 h2 => by unfold upd; split; rfl; exact hx j h1 h2⟩, r.big⟩
  · unfold upd; rw [if_neg (by omega)]; exact h0
  · obtain ⟨h1, h2, h3, h4⟩ := h j hj
    unfold upd
    exact ⟨by rw [if_neg (by omega)]; exact h1, by rw [if_neg (by omega)]; exact h2, by rw [if_neg (by omega)]; exact h3, by rw [if_neg (by omega)]; exact h4⟩
theorem rmap_ne {P : PoolM} {m : Nat} (r : RPoolRep w m P) (s : RMRep w g T N p M x) (hT : T ≠ 63) : g ≠ m := by
  obtain ⟨_, hM, _⟩ := r.row
  obtain ⟨_, hG, _⟩ := s.row
  exact hG.ne_ hM hT
/-- What an act on a map may change: the pool's block, the map's. -/
def ownR (m g : Nat) : Nat → Prop := fun k => k = m ∨ k = g
theorem Upd.mR {m : Nat} (u : Upd (at1 m) w w') : Upd (ownR m g) w w' := u.mono fun _ _ h => .inl h
theorem Upd.gR {m : Nat} (u : Upd (at1 g) w w') : Upd (ownR m g) w w' := u.mono fun _ _ h => .inr h
end

set_option maxHeartbeats 400000 in
theorem ron_any (w : World) (n : Int) : Calls Try.prog 132 #[.int .i64 n] w fun e w' => e = .returned (.bool (onB n)) ∧ w = w' := by
  by_cases h0 : 0 ≤ n
  · by_cases h1 : n < 16
    · have F := Lib.hid (show onB n = true by simp [onB, h0, h1])
      go_enter Try.func132, Try.ntmps132
      go_wp2
      go_ret
      exact ⟨by rw [F.out]; rfl, rfl⟩
    · have F := Lib.hid (show onB n = false by simp [onB]; omega)
      go_enter Try.func132, Try.ntmps132
      go_wp2
      go_ret
      exact ⟨by rw [F.out]; rfl, rfl⟩
  · have F := Lib.hid (show onB n = false by simp [onB]; omega)
    go_enter Try.func132, Try.ntmps132
    go_wp2
    go_ret
    exact ⟨by rw [F.out]; rfl, rfl⟩

end U
end Go.Proofs.Ytnhplapcdgnaaaa
