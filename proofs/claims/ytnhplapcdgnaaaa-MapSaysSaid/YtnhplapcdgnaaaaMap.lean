import Derived.Test.YtnhplapcdgnaaaaPoolD
import Derived.Deep.RegionHeld3
import Derived.Lib.Hide
set_option linter.unusedVariables false
set_option linter.unusedSimpArgs false
namespace Go.Proofs.Ytnhplapcdgnaaaa
open Go.RowKit
namespace U


structure MapM where
  state : Nat → Int
  leaf : Nat → LeafM
namespace MapM
def setState (M : MapM) (n : Nat) (s : Int) : MapM := { M with state := fun i => if i = n then s else M.state i }
def setLeaf (M : MapM) (n : Nat) (l : LeafM) : MapM := { M with leaf := fun i => if i = n then l else M.leaf i }
end MapM
def onB (n : Int) : Bool := decide (0 ≤ n) && decide (n < 16)
/-- A page's frame is let go. -/
def letP (P : PoolM) (M : MapM) (n : Nat) : PoolM := if (M.leaf n).there then (P.share (M.leaf n).frame (-1)).1 else P
def mplug (M : MapM) (n : Int) : MapM × Nat := if onB n then (if M.state n.toNat = 0 then (M.setState n.toNat 1, 0) else (M, 4)) else (M, 1)
def munplug (P : PoolM) (M : MapM) (n : Int) : PoolM × MapM × Nat :=
  if onB n then (if M.state n.toNat = 0 then (P, M, 2) else (letP P M n.toNat, (M.setLeaf n.toNat LeafM.none).setState n.toNat 0, 0)) else (P, M, 1)
def mgive (P : PoolM) (M : MapM) (n : Int) : PoolM × MapM × Nat :=
  if onB n then (if M.state n.toNat = 1 then (letP P M n.toNat, (M.setLeaf n.toNat LeafM.none).setState n.toNat 2, 0) else (P, M, 8)) else (P, M, 1)
def mback (M : MapM) (n : Int) : MapM × Nat := if onB n then (if M.state n.toNat = 2 then (M.setState n.toNat 1, 0) else (M, 8)) else (M, 1)
def mseal (M : MapM) (n : Int) : MapM × Nat :=
  if onB n then (if (M.leaf n.toNat).there then (M.setLeaf n.toNat { M.leaf n.toNat with write := false }, 0) else (M, 8)) else (M, 1)

/-- A map lies in block g (type T, N cells) from its head on, its pool's struct in block p. -/
structure MRep (w : World) (g : Nat) (T N p : Nat) (M : MapM) : Prop where
  row : ∃ c : Nat → Value, Row w g T N c ∧ c 0 = .pointer (some ⟨p, 0, none⟩) ∧ ∀ i, i < 16 → c (1 + i) = .int .i64 (M.state i) ∧
    c (17 + i * 3) = .bool (M.leaf i).there ∧ c (17 + i * 3 + 1) = .bool (M.leaf i).write ∧ c (17 + i * 3 + 2) = .int .i64 (M.leaf i).frame
  big : 65 ≤ N

section
variable {w w' : World} {g T N p : Nat} {M : MapM} {S : Nat → Prop}
theorem MRep.c0 (r : MRep w g T N p M) : w.cell? ⟨g, 0, none⟩ = some (.pointer (some ⟨p, 0, none⟩)) := by
  obtain ⟨c, hR, h0, _⟩ := r.row
  have := r.big
  rw [hR.cell (by omega), h0]
theorem MRep.st (r : MRep w g T N p M) {i : Nat} (hi : i < 16) : w.cell? ⟨g, 1 + i, none⟩ = some (.int .i64 (M.state i)) := by
  obtain ⟨c, hR, _, h⟩ := r.row
  have := r.big
  rw [hR.cell (by omega), (h i hi).1]
theorem MRep.l0 (r : MRep w g T N p M) {i : Nat} (hi : i < 16) : w.cell? ⟨g, 17 + i * 3, none⟩ = some (.bool (M.leaf i).there) := by
  obtain ⟨c, hR, _, h⟩ := r.row
  have := r.big
  rw [hR.cell (by omega), (h i hi).2.1]
theorem MRep.l1 (r : MRep w g T N p M) {i : Nat} (hi : i < 16) : w.cell? ⟨g, 17 + i * 3 + 1, none⟩ = some (.bool (M.leaf i).write) := by
  obtain ⟨c, hR, _, h⟩ := r.row
  have := r.big
  rw [hR.cell (by omega), (h i hi).2.2.1]
theorem MRep.l2 (r : MRep w g T N p M) {i : Nat} (hi : i < 16) : w.cell? ⟨g, 17 + i * 3 + 2, none⟩ = some (.int .i64 (M.leaf i).frame) := by
  obtain ⟨c, hR, _, h⟩ := r.row
  have := r.big
  rw [hR.cell (by omega), (h i hi).2.2.2]
theorem MRep.fr (r : MRep w g T N p M) (i : Nat) : w.frozen? ⟨g, i, none⟩ = false := by
  obtain ⟨c, hR, _⟩ := r.row
  exact hR.frozen i
theorem MRep.lt (r : MRep w g T N p M) : g < w.heap.size := by
  obtain ⟨c, hR, _⟩ := r.row
  exact hR.lt
theorem MRep.keep (r : MRep w g T N p M) (e : w'.heap[g]? = w.heap[g]?) : MRep w' g T N p M := by
  obtain ⟨c, hR, h⟩ := r.row
  exact ⟨⟨c, hR.keep e, h⟩, r.big⟩
theorem MRep.drewN (r : MRep w g T N p M) (n : Nat) : MRep (w.drewN n) g T N p M := r.keep rfl
theorem MRep.drew (r : MRep w g T N p M) : MRep w.drew g T N p M := r.keep rfl
theorem MRep.alloc (r : MRep w g T N p M) (o : Obj) : MRep (w.alloc o) g T N p M := r.keep (Below.heap_alloc w o g r.lt)
theorem MRep.upd_ (r : MRep w g T N p M) (u : Upd S w w') (h : ¬ S g) : MRep w' g T N p M := r.keep (u.block g r.lt h)
theorem MRep.setState (r : MRep w g T N p M) {n : Nat} {s : Int} (hn : n < 16) : MRep (w.setCell ⟨g, 1 + n, none⟩ (.int .i64 s)) g T N p (M.setState n s) := by
  obtain ⟨c, hR, h0, h⟩ := r.row
  have := r.big
  refine ⟨⟨_, hR.set_ _, ?_, fun i hi => ?_⟩, r.big⟩
  · unfold upd; rw [if_neg (by omega)]; exact h0
  · unfold upd MapM.setState
    obtain ⟨h1, h2, h3, h4⟩ := h i hi
    refine ⟨?_, by rw [if_neg (by omega)]; exact h2, by rw [if_neg (by omega)]; exact h3, by rw [if_neg (by omega)]; exact h4⟩
    by_cases e : i = n
    · subst e; simp
    · rw [if_neg (by omega)]; simp [e, h1]
theorem MRep.setLeaf (r : MRep w g T N p M) {n : Nat} {l : LeafM} (hn : n < 16) :
    MRep (((w.setCell ⟨g, 17 + n * 3, none⟩ (.bool l.there)).setCell ⟨g, 17 + n * 3 + 1, none⟩ (.bool l.write)).setCell ⟨g, 17 + n * 3 + 2, none⟩ (.int .i64 l.frame)) g T N p (M.setLeaf n l) := by
  obtain ⟨c, hR, h0, h⟩ := r.row
  have := r.big
  refine ⟨⟨_, ((hR.set_ (i := 17 + n * 3) _).set_ (i := 17 + n * 3 + 1) _).set_ (i := 17 + n * 3 + 2) _, ?_, fun i hi => ?_⟩, r.big⟩
  · unfold upd; rw [if_neg (by omega), if_neg (by omega), if_neg (by omega)]; exact h0
  · unfold upd MapM.setLeaf
    obtain ⟨h1, h2, h3, h4⟩ := h i hi
    by_cases e : i = n
    · subst e
      refine ⟨by rw [if_neg (by omega), if_neg (by omega), if_neg (by omega)]; exact h1, by rw [if_neg (by omega), if_neg (by omega), if_pos rfl]; simp, by rw [if_neg (by omega), if_pos rfl]; simp, by rw [if_pos rfl]; simp⟩
    · refine ⟨by rw [if_neg (by omega), if_neg (by omega), if_neg (by omega)]; exact h1, ?_, ?_, ?_⟩ <;> (rw [if_neg (by omega), if_neg (by omega), if_neg (by omega)]; simp [e, h2, h3, h4])
theorem MRep.setWrite (r : MRep w g T N p M) {n : Nat} {b : Bool} (hn : n < 16) : MRep (w.setCell ⟨g, 17 + n * 3 + 1, none⟩ (.bool b)) g T N p (M.setLeaf n { M.leaf n with write := b }) := by
  obtain ⟨c, hR, h0, h⟩ := r.row
  have := r.big
  refine ⟨⟨_, hR.set_ _, ?_, fun i hi => ?_⟩, r.big⟩
  · unfold upd; rw [if_neg (by omega)]; exact h0
  · unfold upd MapM.setLeaf
    obtain ⟨h1, h2, h3, h4⟩ := h i hi
    by_cases e : i = n
    · subst e
      refine ⟨by rw [if_neg (by omega)]; exact h1, by rw [if_neg (by omega)]; simp [h2], by rw [if_pos rfl]; simp, by rw [if_neg (by omega)]; simp [h4]⟩
    · refine ⟨by rw [if_neg (by omega)]; exact h1, ?_, ?_, ?_⟩ <;> (rw [if_neg (by omega)]; simp [e, h2, h3, h4])
end

theorem onB_iff {n : Int} : onB n = true ↔ 0 ≤ n ∧ n < 16 := by simp [onB]

set_option maxHeartbeats 400000 in
theorem on_any (w : World) (n : Int) : Calls Try.prog 85 #[.int .i64 n] w fun e w' => e = .returned (.bool (onB n)) ∧ w = w' := by
  by_cases h0 : 0 ≤ n
  · by_cases h1 : n < 16
    · have F := Lib.hid (show onB n = true by simp [onB, h0, h1])
      go_enter Try.func85, Try.ntmps85
      go_wp2
      go_ret
      exact ⟨by rw [F.out]; rfl, rfl⟩
    · have F := Lib.hid (show onB n = false by simp [onB]; omega)
      go_enter Try.func85, Try.ntmps85
      go_wp2
      go_ret
      exact ⟨by rw [F.out]; rfl, rfl⟩
  · have F := Lib.hid (show onB n = false by simp [onB]; omega)
    go_enter Try.func85, Try.ntmps85
    go_wp2
    go_ret
    exact ⟨by rw [F.out]; rfl, rfl⟩

/-- What an act on a map may change: the pool's blocks, the map's. -/
def ownM (L : PoolAt) (g : Nat) : Nat → Prop := fun k => L.own k ∨ k = g
theorem Upd.toM {w w' : World} {L : PoolAt} {g : Nat} (u : Upd L.own w w') : Upd (ownM L g) w w' := u.mono fun _ _ h => .inl h
theorem map_ne {w : World} {L : PoolAt} {P : PoolM} {g T N p : Nat} {M : MapM} (r : PoolRep w L P) (s : MRep w g T N p M) (h1 : T ≠ 134) (h2 : T ≠ 59) (h3 : T ≠ 3) : g ≠ L.p ∧ g ≠ L.bb ∧ g ≠ L.rb := by
  obtain ⟨_, _, hB, _⟩ := r.bytes
  obtain ⟨_, _, hR, _⟩ := r.counts
  obtain ⟨_, hM, _⟩ := s.row
  exact ⟨hM.ne_ r.st h1, hM.ne_ hB h2, hM.ne_ hR h3⟩

set_option maxRecDepth 100000 in
set_option maxHeartbeats 400000 in
theorem plug_any (w : World) (g N p : Nat) (M : MapM) (r : MRep w g 146 N p M) (n : Int) :
    Calls Try.prog 54 #[.pointer (some ⟨g, 0, none⟩), .int .i64 n] w fun e w' => e = .returned (errv (mplug M n).2) ∧ MRep w' g 146 N p (mplug M n).1 ∧ Upd (at1 g) w w' := by
  by_cases ho : onB n = true
  · have hn := onB_iff.1 ho
    obtain ⟨k, rfl⟩ := Int.eq_ofNat_of_zero_le hn.1
    have hk : k < 16 := by omega
    have c1 := r.st hk
    have f1 := r.fr (1 + k)
    by_cases h0 : M.state k = 0
    · have h0' : (M.state k != 0) = false := by simp [h0]
      have F := Lib.hid (show mplug M k = (M.setState k 1, 0) by unfold mplug; rw [if_pos ho]; simp [h0])
      clear h0 hn
      go_enter Try.func54, Try.ntmps54
      go_wp2_with (go_at_call 85; refine (on_any _ _).mono ?_; rintro e w' ⟨rfl, rfl⟩)
      go_ret
      exact ⟨by rw [F.out]; rfl, by rw [F.out]; exact r.setState hk, (Upd.refl (at1 g) w).setCell (p := ⟨g, 1 + k, none⟩) (fun _ => at1_self) _⟩
    · have h0' : (M.state k != 0) = true := by simpa using h0
      have F := Lib.hid (show mplug M k = (M, 4) by unfold mplug; rw [if_pos ho]; simp [h0])
      clear h0 hn
      go_enter Try.func54, Try.ntmps54
      go_wp2_with (go_at_call 85; refine (on_any _ _).mono ?_; rintro e w' ⟨rfl, rfl⟩)
      go_ret
      exact ⟨by rw [F.out]; rfl, by rw [F.out]; exact r, Upd.refl _ _⟩
  · have ho' : onB n = false := by simpa using ho
    have F := Lib.hid (show mplug M n = (M, 1) by unfold mplug; rw [if_neg ho])
    go_enter Try.func54, Try.ntmps54
    go_wp2_with (go_at_call 85; refine (on_any _ _).mono ?_; rintro e w' ⟨rfl, rfl⟩)
    go_ret
    exact ⟨by rw [F.out]; rfl, by rw [F.out]; exact r, Upd.refl _ _⟩

end U
end Go.Proofs.Ytnhplapcdgnaaaa
