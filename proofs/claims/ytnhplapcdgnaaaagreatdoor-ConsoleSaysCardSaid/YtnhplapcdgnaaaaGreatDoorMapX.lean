import Derived.Test.YtnhplapcdgnaaaaGreatDoorPoolX
import Derived.Deep.RegionHeld3
import Derived.Lib.Hide
set_option linter.unusedVariables false
set_option linter.unusedSimpArgs false
namespace Go.Proofs.YtnhplapcdgnaaaaGreatDoor
open Go.RowKit
namespace U


structure MapM where
  state : Nat → Int
  leaf : Nat → LeafM
namespace MapM
def setState (M : MapM) (n : Nat) (s : Int) : MapM := { M with state := fun i => if i = n then s else M.state i }
def setLeaf (M : MapM) (n : Nat) (l : LeafM) : MapM := { M with leaf := fun i => if i = n then l else M.leaf i }
end MapM
def onB (n : Int) : Bool := decide (0 ≤ n) && decide (n < 16)
/-- A page's frame is let go. -/
def letP (P : PoolM) (M : MapM) (n : Nat) : PoolM := if (M.leaf n).there then (P.share (M.leaf n).frame (-1)).1 else P
def mplug (M : MapM) (n : Int) : MapM × Nat := if onB n then (if M.state n.toNat = 0 then (M.setState n.toNat 1, 0) else (M, 4)) else (M, 1)
def munplug (P : PoolM) (M : MapM) (n : Int) : PoolM × MapM × Nat :=
  if onB n then (if M.state n.toNat = 0 then (P, M, 2) else (letP P M n.toNat, (M.setLeaf n.toNat LeafM.none).setState n.toNat 0, 0)) else (P, M, 1)
def mgive (P : PoolM) (M : MapM) (n : Int) : PoolM × MapM × Nat :=
  if onB n then (if M.state n.toNat = 1 then (letP P M n.toNat, (M.setLeaf n.toNat LeafM.none).setState n.toNat 2, 0) else (P, M, 8)) else (P, M, 1)
def mback (M : MapM) (n : Int) : MapM × Nat := if onB n then (if M.state n.toNat = 2 then (M.setState n.toNat 1, 0) else (M, 8)) else (M, 1)
def mseal (M : MapM) (n : Int) : MapM × Nat :=
  if onB n then (if (M.leaf n.toNat).there then (M.setLeaf n.toNat { M.leaf n.toNat with write := false }, 0) else (M, 8)) else (M, 1)

/-- A map lies in block g (type T, N cells) from its head on, its pool's struct in block p. -/
structure MRep (w : World) (g : Nat) (T N p : Nat) (M : MapM) : Prop where
  row : ∃ c : Nat → Value, Row w g T N c ∧ c 0 = .pointer (some ⟨p, 0, none⟩) ∧ ∀ i, i < 16 → c (1 + i) = .int .i64 (M.state i) ∧
    c (17 + i * 3) = .bool (M.leaf i).there ∧ c (17 + i * 3 + 1) = .bool (M.leaf i).write ∧ c (17 + i * 3 + 2) = .int .i64 (M.leaf i).frame
  big : 65 ≤ N

section
variable {w w' : World} {g T N p : Nat} {M : MapM} {S : Nat → Prop}
theorem MRep.c0 (r : MRep w g T N p M) : w.cell? ⟨g, 0, none⟩ = some (.pointer (some ⟨p, 0, none⟩)) := by
  obtain ⟨c, hR, h0, _⟩ := r.row
  have := r.big
  rw [hR.cell (by omega), h0]
theorem MRep.st (r : MRep w g T N p M) {i : Nat} (hi : i < 16) : w.cell? ⟨g, 1 + i, none⟩ = some (.int .i64 (M.state i)) := by
  obtain ⟨c, hR, _, h⟩ := r.row
  have := r.big
  rw [hR.cell (by omega), (h i hi).1]
theorem MRep.l0 (r : MRep w g T N p M) {i : Nat} (hi : i < 16) : w.cell? ⟨g, 17 + i * 3, none⟩ = some (.bool (M.leaf i).there) := by
  obtain ⟨c, hR, _, h⟩ := r.row
  have := r.big
  rw [hR.cell (by omega), (h i hi).2.1]
theorem MRep.l1 (r : MRep w g T N p M) {i : Nat} (hi : i < 16) : w.cell? ⟨g, 17 + i * 3 + 1, none⟩ = some (.bool (M.leaf i).write) := by
  obtain ⟨c, hR, _, h⟩ := r.row
  have := r.big
  rw [hR.cell (by omega), (h i hi).2.2.1]
theorem MRep.l2 (r : MRep w g T N p M) {i : Nat} (hi : i < 16) : w.cell? ⟨g, 17 + i * 3 + 2, none⟩ = some (.int .i64 (M.leaf i).frame) := by
  obtain ⟨c, hR, _, h⟩ := r.row
  have := r.big
  rw [hR.cell (by omega), (h i hi).2.2.2]
theorem MRep.fr (r : MRep w g T N p M) (i : Nat) : w.frozen? ⟨g, i, none⟩ = false := by
  obtain ⟨c, hR, _⟩ := r.row
  exact hR.frozen i
theorem MRep.lt (r : MRep w g T N p M) : g < w.heap.size := by
  obtain ⟨c, hR, _⟩ := r.row
  exact hR.lt
theorem MRep.keep (r : MRep w g T N p M) (e : w'.heap[g]? = w.heap[g]?) : MRep w' g T N p M := by
  obtain ⟨c, hR, h⟩ := r.row
  exact ⟨⟨c, hR.keep e, h⟩, r.big⟩
theorem MRep.drewN (r : MRep w g T N p M) (n : Nat) : MRep (w.drewN n) g T N p M := r.keep rfl
theorem MRep.drew (r : MRep w g T N p M) : MRep w.drew g T N p M := r.keep rfl
theorem MRep.alloc (r : MRep w g T N p M) (o : Obj) : MRep (w.alloc o) g T N p M := r.keep (Below.heap_alloc w o g r.lt)
theorem MRep.upd_ (r : MRep w g T N p M) (u : Upd S w w') (h : ¬ S g) : MRep w' g T N p M := r.keep (u.block g r.lt h)
theorem MRep.setState (r : MRep w g T N p M) {n : Nat} {s : Int} (hn : n < 16) : MRep (w.setCell ⟨g, 1 + n, none⟩ (.int .i64 s)) g T N p (M.setState n s) := by
  obtain ⟨c, hR, h0, h⟩ := r.row
  have := r.big
  refine ⟨⟨_, hR.set_ _, ?_, fun i hi => ?_⟩, r.big⟩
  · unfold upd; rw [if_neg (by omega)]; exact h0
  · unfold upd MapM.setState
    obtain ⟨h1, h2, h3, h4⟩ := h i hi
    refine ⟨?_, by rw [if_neg (by omega)]; exact h2, by rw [if_neg (by omega)]; exact h3, by rw [if_neg (by omega)]; exact h4⟩
    by_cases e : i = n
    · subst e; simp
    · rw [if_neg (by omega)]; simp [e, h1]
theorem MRep.setLeaf (r : MRep w g T N p M) {n : Nat} {l : LeafM} (hn : n < 16) :
    MRep (((w.setCell ⟨g, 17 + n * 3, none⟩ (.bool l.there)).setCell ⟨g, 17 + n * 3 + 1, none⟩ (.bool l.write)).setCell ⟨g, 17 + n * 3 + 2, none⟩ (.int .i64 l.frame)) g T N p (M.setLeaf n l) := by
  obtain ⟨c, hR, h0, h⟩ := r.row
  have := r.big
  refine ⟨⟨_, ((hR.set_ (i := 17 + n * 3) _).set_ (i := 17 + n * 3 + 1) _).set_ (i := 17 + n * 3 + 2) _, ?_, fun i hi => ?_⟩, r.big⟩
  · unfold upd; rw [if_neg (by omega), if_neg (by omega), if_neg (by omega)]; exact h0
  · unfold upd MapM.setLeaf
    obtain ⟨h1, h2, h3, h4⟩ := h i hi
    by_cases e : i = n
    · subst e
      refine ⟨by rw [if_neg (by omega), if_neg (by omega), if_neg (by omega)]; exact h1, by rw [if_neg (by omega), if_neg (by omega), if_pos rfl]; simp, by rw [if_neg (by omega), if_pos rfl]; simp, by rw [if_pos rfl]; simp⟩
    · refine ⟨by rw [if_neg (by omega), if_neg (by omega), if_neg (by omega)]; exact h1, ?_, ?_, ?_⟩ <;> (rw [if_neg (by omega), if_neg (by omega), if_neg (by omega)]; simp [e, h2, h3, h4])
theorem MRep.setWrite (r : MRep w g T N p M) {n : Nat} {b : Bool} (hn : n < 16) : MRep (w.setCell ⟨g, 17 + n * 3 + 1, none⟩ (.bool b)) g T N p (M.setLeaf n { M.leaf n with write := b }) := by
  obtain ⟨c, hR, h0, h⟩ := r.row
  have := r.big
  refine ⟨⟨_, hR.set_ _, ?_, fun i hi => ?_⟩, r.big⟩
  · unfold upd; rw [if_neg (by omega)]; exact h0
  · unfold upd MapM.setLeaf
    obtain ⟨h1, h2, h3, h4⟩ := h i hi
    by_cases e : i = n
    · subst e
      refine ⟨by rw [if_neg (by omega)]; exact h1, by rw [if_neg (by omega)]; simp [h2], by rw [if_pos rfl]; simp, by rw [if_neg (by omega)]; simp [h4]⟩
    · refine ⟨by rw [if_neg (by omega)]; exact h1, ?_, ?_, ?_⟩ <;> (rw [if_neg (by omega)]; simp [e, h2, h3, h4])
end

theorem onB_iff {n : Int} : onB n = true ↔ 0 ≤ n ∧ n < 16 := by simp [onB]

set_option maxHeartbeats 400000 in
theorem on_any (w : World) (n : Int) : Calls Tryz.prog 147 #[.int .i64 n] w fun e w' => e = .returned (.bool (onB n)) ∧ w = w' := by
  by_cases h0 : 0 ≤ n
  · by_cases h1 : n < 16
    · have F := Lib.hid (show onB n = true by simp [onB, h0, h1])
      go_enter Tryz.func147, Tryz.ntmps147
      go_wp2
      go_ret
      exact ⟨by rw [F.out]; rfl, rfl⟩
    · have F := Lib.hid (show onB n = false by simp [onB]; omega)
      go_enter Tryz.func147, Tryz.ntmps147
      go_wp2
      go_ret
      exact ⟨by rw [F.out]; rfl, rfl⟩
  · have F := Lib.hid (show onB n = false by simp [onB]; omega)
    go_enter Tryz.func147, Tryz.ntmps147
    go_wp2
    go_ret
    exact ⟨by rw [F.out]; rfl, rfl⟩

/-- What an act on a map may change: the pool's blocks, the map's. -/
def ownM (L : PoolAt) (g : Nat) : Nat → Prop := fun k => L.own k ∨ k = g
theorem Upd.toM {w w' : World} {L : PoolAt} {g : Nat} (u : Upd L.own w w') : Upd (ownM L g) w w' := u.mono fun _ _ h => .inl h
theorem map_ne {w : World} {L : PoolAt} {P : PoolM} {g T N p : Nat} {M : MapM} (r : PoolRep w L P) (s : MRep w g T N p M) (h1 : T ≠ 105) (h2 : T ≠ 41) (h3 : T ≠ 3) : g ≠ L.p ∧ g ≠ L.bb ∧ g ≠ L.rb := by
  obtain ⟨_, _, hB, _⟩ := r.bytes
  obtain ⟨_, _, hR, _⟩ := r.counts
  obtain ⟨_, hM, _⟩ := s.row
  exact ⟨hM.ne_ r.st h1, hM.ne_ hB h2, hM.ne_ hR h3⟩

set_option maxRecDepth 100000 in
set_option maxHeartbeats 400000 in
theorem plug_any (w : World) (g N p : Nat) (M : MapM) (r : MRep w g 175 N p M) (n : Int) :
    Calls Tryz.prog 121 #[.pointer (some ⟨g, 0, none⟩), .int .i64 n] w fun e w' => e = .returned (errv (mplug M n).2) ∧ MRep w' g 175 N p (mplug M n).1 ∧ Upd (at1 g) w w' := by
  by_cases ho : onB n = true
  · have hn := onB_iff.1 ho
    obtain ⟨k, rfl⟩ := Int.eq_ofNat_of_zero_le hn.1
    have hk : k < 16 := by omega
    have c1 := r.st hk
    have f1 := r.fr (1 + k)
    by_cases h0 : M.state k = 0
    · have h0' : (M.state k != 0) = false := by simp [h0]
      have F := Lib.hid (show mplug M k = (M.setState k 1, 0) by unfold mplug; rw [if_pos ho]; simp [h0])
      clear h0 hn
      go_enter Tryz.func121, Tryz.ntmps121
      go_wp2_with (go_at_call 147; refine (on_any _ _).mono ?_; rintro e w' ⟨rfl, rfl⟩)
      go_ret
      exact ⟨by rw [F.out]; rfl, by rw [F.out]; exact r.setState hk, (Upd.refl (at1 g) w).setCell (p := ⟨g, 1 + k, none⟩) (fun _ => at1_self) _⟩
    · have h0' : (M.state k != 0) = true := by simpa using h0
      have F := Lib.hid (show mplug M k = (M, 4) by unfold mplug; rw [if_pos ho]; simp [h0])
      clear h0 hn
      go_enter Tryz.func121, Tryz.ntmps121
      go_wp2_with (go_at_call 147; refine (on_any _ _).mono ?_; rintro e w' ⟨rfl, rfl⟩)
      go_ret
      exact ⟨by rw [F.out]; rfl, by rw [F.out]; exact r, Upd.refl _ _⟩
  · have ho' : onB n = false := by simpa using ho
    have F := Lib.hid (show mplug M n = (M, 1) by unfold mplug; rw [if_neg ho])
    go_enter Tryz.func121, Tryz.ntmps121
    go_wp2_with (go_at_call 147; refine (on_any _ _).mono ?_; rintro e w' ⟨rfl, rfl⟩)
    go_ret
    exact ⟨by rw [F.out]; rfl, by rw [F.out]; exact r, Upd.refl _ _⟩

end U
end Go.Proofs.YtnhplapcdgnaaaaGreatDoor

set_option linter.unusedVariables false
set_option linter.unusedSimpArgs false
namespace Go.Proofs.YtnhplapcdgnaaaaGreatDoor
open Go.RowKit
namespace U

set_option maxRecDepth 100000 in
set_option maxHeartbeats 400000 in
theorem back_any (w : World) (g N p : Nat) (M : MapM) (r : MRep w g 175 N p M) (n : Int) :
    Calls Tryz.prog 123 #[.pointer (some ⟨g, 0, none⟩), .int .i64 n] w fun e w' => e = .returned (errv (mback M n).2) ∧ MRep w' g 175 N p (mback M n).1 ∧ Upd (at1 g) w w' := by
  by_cases ho : onB n = true
  · have hn := onB_iff.1 ho
    obtain ⟨k, rfl⟩ := Int.eq_ofNat_of_zero_le hn.1
    have hk : k < 16 := by omega
    have c1 := r.st hk
    have f1 := r.fr (1 + k)
    by_cases h0 : M.state k = 2
    · have h0' : (M.state k != 2) = false := by simp [h0]
      have F := Lib.hid (show mback M k = (M.setState k 1, 0) by unfold mback; rw [if_pos ho]; simp [h0])
      clear h0 hn
      go_enter Tryz.func123, Tryz.ntmps123
      go_wp2_with (go_at_call 147; refine (on_any _ _).mono ?_; rintro e w' ⟨rfl, rfl⟩)
      go_ret
      exact ⟨by rw [F.out]; rfl, by rw [F.out]; exact r.setState hk, (Upd.refl (at1 g) w).setCell (p := ⟨g, 1 + k, none⟩) (fun _ => at1_self) _⟩
    · have h0' : (M.state k != 2) = true := by simpa using h0
      have F := Lib.hid (show mback M k = (M, 8) by unfold mback; rw [if_pos ho]; simp [h0])
      clear h0 hn
      go_enter Tryz.func123, Tryz.ntmps123
      go_wp2_with (go_at_call 147; refine (on_any _ _).mono ?_; rintro e w' ⟨rfl, rfl⟩)
      go_ret
      exact ⟨by rw [F.out]; rfl, by rw [F.out]; exact r, Upd.refl _ _⟩
  · have ho' : onB n = false := by simpa using ho
    have F := Lib.hid (show mback M n = (M, 1) by unfold mback; rw [if_neg ho])
    go_enter Tryz.func123, Tryz.ntmps123
    go_wp2_with (go_at_call 147; refine (on_any _ _).mono ?_; rintro e w' ⟨rfl, rfl⟩)
    go_ret
    exact ⟨by rw [F.out]; rfl, by rw [F.out]; exact r, Upd.refl _ _⟩

/-- What a map says of a page. -/
def mstate (M : MapM) (n : Int) : Int × Nat := if onB n then (M.state n.toNat, 0) else (0, 1)
def mleaf (M : MapM) (n : Int) : LeafM × Nat := if onB n then (M.leaf n.toNat, 0) else (LeafM.none, 1)
def LeafM.val (l : LeafM) : Value := .agg #[.bool l.there, .bool l.write, .int .i64 l.frame]

set_option maxRecDepth 100000 in
set_option maxHeartbeats 400000 in
theorem mstate_any (w : World) (g N p : Nat) (M : MapM) (r : MRep w g 175 N p M) (n : Int) :
    Calls Tryz.prog 120 #[.pointer (some ⟨g, 0, none⟩), .int .i64 n] w fun e w' => e = .returned (.tuple #[.int .i64 (mstate M n).1, errv (mstate M n).2]) ∧ w = w' := by
  by_cases ho : onB n = true
  · have hn := onB_iff.1 ho
    obtain ⟨k, rfl⟩ := Int.eq_ofNat_of_zero_le hn.1
    have hk : k < 16 := by omega
    have c1 := r.st hk
    have F := Lib.hid (show mstate M k = (M.state k, 0) by unfold mstate; rw [if_pos ho]; rfl)
    clear hn
    go_enter Tryz.func120, Tryz.ntmps120
    go_wp2_with (go_at_call 147; refine (on_any _ _).mono ?_; rintro e w' ⟨rfl, rfl⟩)
    go_ret2
    exact ⟨by rw [F.out]; rfl, rfl⟩
  · have ho' : onB n = false := by simpa using ho
    have F := Lib.hid (show mstate M n = (0, 1) by unfold mstate; rw [if_neg ho])
    go_enter Tryz.func120, Tryz.ntmps120
    go_wp2_with (go_at_call 147; refine (on_any _ _).mono ?_; rintro e w' ⟨rfl, rfl⟩)
    go_ret2
    exact ⟨by rw [F.out]; rfl, rfl⟩

set_option maxRecDepth 100000 in
set_option maxHeartbeats 400000 in
theorem mleaf_any (w : World) (g N p : Nat) (M : MapM) (r : MRep w g 175 N p M) (n : Int) :
    Calls Tryz.prog 129 #[.pointer (some ⟨g, 0, none⟩), .int .i64 n] w fun e w' => e = .returned (.tuple #[(mleaf M n).1.val, errv (mleaf M n).2]) ∧ Upd Non w w' := by
  by_cases ho : onB n = true
  · have hn := onB_iff.1 ho
    obtain ⟨k, rfl⟩ := Int.eq_ofNat_of_zero_le hn.1
    have hk : k < 16 := by omega
    have c0 := r.l0 hk
    have c1 := r.l1 hk
    have c2 := r.l2 hk
    have lg := r.lt
    have F := Lib.hid (show mleaf M k = (M.leaf k, 0) by unfold mleaf; rw [if_pos ho]; rfl)
    clear hn
    go_enter Tryz.func129, Tryz.ntmps129
    go_wp2_with (go_at_call 147; refine (on_any _ _).mono ?_; rintro e w' ⟨rfl, rfl⟩)
    exact bodyPost_ret (v := .tuple #[(M.leaf k).val, .nilIface]) (by simp [results, Tryz.results129, go_sem, LeafM.val]) rfl ⟨by rw [F.out]; rfl, (Upd.refl _ _).alloc _⟩
  · have ho' : onB n = false := by simpa using ho
    have F := Lib.hid (show mleaf M n = (LeafM.none, 1) by unfold mleaf; rw [if_neg ho])
    go_enter Tryz.func129, Tryz.ntmps129
    go_wp2_with (go_at_call 147; refine (on_any _ _).mono ?_; rintro e w' ⟨rfl, rfl⟩)
    exact bodyPost_ret (v := .tuple #[LeafM.none.val, errv 1]) (by simp [results, Tryz.results129, go_sem, LeafM.val, LeafM.none, errv]) rfl ⟨by rw [F.out], (Upd.refl _ _).alloc _⟩

set_option maxRecDepth 100000 in
set_option maxHeartbeats 400000 in
theorem mseal_any (w : World) (g N p : Nat) (M : MapM) (r : MRep w g 175 N p M) (n : Int) :
    Calls Tryz.prog 156 #[.pointer (some ⟨g, 0, none⟩), .int .i64 n] w fun e w' => e = .returned (errv (mseal M n).2) ∧ MRep w' g 175 N p (mseal M n).1 ∧ Upd (at1 g) w w' := by
  by_cases ho : onB n = true
  · have hn := onB_iff.1 ho
    obtain ⟨k, rfl⟩ := Int.eq_ofNat_of_zero_le hn.1
    have hk : k < 16 := by omega
    have c0 := r.l0 hk
    have c1 := r.l1 hk
    have f1 := r.fr (17 + k * 3 + 1)
    by_cases h0 : (M.leaf k).there = true
    · have F := Lib.hid (show mseal M k = (M.setLeaf k { M.leaf k with write := false }, 0) by unfold mseal; rw [if_pos ho]; simp [h0])
      clear hn
      go_enter Tryz.func156, Tryz.ntmps156
      go_wp2_with (go_at_call 147; refine (on_any _ _).mono ?_; rintro e w' ⟨rfl, rfl⟩)
      go_ret
      exact ⟨by rw [F.out]; rfl, by rw [F.out]; exact r.setWrite hk, (Upd.refl (at1 g) w).setCell (p := ⟨g, 17 + k * 3 + 1, none⟩) (fun _ => at1_self) _⟩
    · have h0' : (M.leaf k).there = false := by simpa using h0
      have F := Lib.hid (show mseal M k = (M, 8) by unfold mseal; rw [if_pos ho]; simp [h0'])
      clear hn h0
      go_enter Tryz.func156, Tryz.ntmps156
      go_wp2_with (go_at_call 147; refine (on_any _ _).mono ?_; rintro e w' ⟨rfl, rfl⟩)
      go_ret
      exact ⟨by rw [F.out]; rfl, by rw [F.out]; exact r, Upd.refl _ _⟩
  · have ho' : onB n = false := by simpa using ho
    have F := Lib.hid (show mseal M n = (M, 1) by unfold mseal; rw [if_neg ho])
    go_enter Tryz.func156, Tryz.ntmps156
    go_wp2_with (go_at_call 147; refine (on_any _ _).mono ?_; rintro e w' ⟨rfl, rfl⟩)
    go_ret
    exact ⟨by rw [F.out]; rfl, by rw [F.out]; exact r, Upd.refl _ _⟩

theorem PoolRep.keep3 {w : World} {L : PoolAt} {P : PoolM} {g : Nat} (r : PoolRep w L P) (h : g ≠ L.p ∧ g ≠ L.bb ∧ g ≠ L.rb) (i j q : Nat) (x y z : Value) :
    PoolRep (((w.setCell ⟨g, i, none⟩ x).setCell ⟨g, j, none⟩ y).setCell ⟨g, q, none⟩ z) L P :=
  r.upd_ (S := at1 g) (Upd.sc3 (Upd.refl _ _) at1_self _ _ _ _ _ _) (fun e => h.1 e.symm) (fun e => h.2.1 e.symm) (fun e => h.2.2 e.symm)
theorem PoolRep.keep1 {w : World} {L : PoolAt} {P : PoolM} {g : Nat} (r : PoolRep w L P) (h : g ≠ L.p ∧ g ≠ L.bb ∧ g ≠ L.rb) (i : Nat) (x : Value) : PoolRep (w.setCell ⟨g, i, none⟩ x) L P :=
  r.upd_ (S := at1 g) ((Upd.refl _ _).setCell (p := ⟨g, i, none⟩) (fun _ => at1_self) _) (fun e => h.1 e.symm) (fun e => h.2.1 e.symm) (fun e => h.2.2 e.symm)

set_option maxRecDepth 100000 in
set_option maxHeartbeats 400000 in
theorem let_any (w : World) (L : PoolAt) (P : PoolM) (g N : Nat) (M : MapM) (rp : PoolRep w L P) (r : MRep w g 175 N L.p M) (k : Nat) (hk : k < 16) :
    Calls Tryz.prog 148 #[.pointer (some ⟨g, 0, none⟩), .int .i64 k] w fun e w' => e = .returned (.tuple #[]) ∧ PoolRep w' L (letP P M k) ∧ MRep w' g 175 N L.p (M.setLeaf k LeafM.none) ∧ Upd (ownM L g) w w' := by
  have hne := map_ne rp r (by decide) (by decide) (by decide)
  have cp := r.c0
  have c0 := r.l0 hk
  have c1 := r.l1 hk
  have c2 := r.l2 hk
  have hno : ¬ L.own g := fun h => h.elim hne.2.1 hne.2.2
  by_cases h0 : (M.leaf k).there = true
  · have F := Lib.hid (show letP P M k = (P.share (M.leaf k).frame (-1)).1 by unfold letP; rw [if_pos h0])
    go_enter Tryz.func148, Tryz.ntmps148
    go_wp2
    go_region_with (go_at_call 169; refine (drop_any _ L P (by repeat (first | assumption | apply PoolRep.alloc | apply PoolRep.drew | apply PoolRep.drewN)) _).mono ?_; rintro e w2 ⟨rfl, r2, u2⟩; have m2 := MRep.upd_ (by repeat (first | assumption | apply MRep.drew | apply MRep.drewN) : MRep _ g 175 N L.p M) u2 hno; have d0 := m2.l0 hk; have d1 := m2.l1 hk; have d2 := m2.l2 hk; have g0 := m2.fr (17 + k * 3); have g1 := m2.fr (17 + k * 3 + 1); have g2 := m2.fr (17 + k * 3 + 2))
    all_goals go_wp2
    all_goals go_end0
    all_goals exact ⟨rfl, by rw [F.out]; exact r2.keep3 hne _ _ _ _ _ _, m2.setLeaf (l := LeafM.none) hk, ((((Upd.refl _ w).drew).trans u2.toM).sc3 (S := ownM L g) (.inr rfl) _ _ _ _ _ _)⟩
  · have h0' : (M.leaf k).there = false := by simpa using h0
    have g0 := r.fr (17 + k * 3)
    have g1 := r.fr (17 + k * 3 + 1)
    have g2 := r.fr (17 + k * 3 + 2)
    have F := Lib.hid (show letP P M k = P by unfold letP; rw [if_neg h0])
    clear h0
    go_enter Tryz.func148, Tryz.ntmps148
    go_wp2
    go_end0
    exact ⟨rfl, by rw [F.out]; exact rp.keep3 hne _ _ _ _ _ _, r.setLeaf (l := LeafM.none) hk, (Upd.refl (ownM L g) w).sc3 (.inr rfl) _ _ _ _ _ _⟩

end U
end Go.Proofs.YtnhplapcdgnaaaaGreatDoor

set_option linter.unusedVariables false
set_option linter.unusedSimpArgs false
namespace Go.Proofs.YtnhplapcdgnaaaaGreatDoor
open Go.RowKit
namespace U

set_option maxRecDepth 100000 in
set_option maxHeartbeats 400000 in
theorem unplug_any (w : World) (L : PoolAt) (P : PoolM) (g N : Nat) (M : MapM) (rp : PoolRep w L P) (r : MRep w g 175 N L.p M) (n : Int) :
    Calls Tryz.prog 119 #[.pointer (some ⟨g, 0, none⟩), .int .i64 n] w fun e w' => e = .returned (errv (munplug P M n).2.2) ∧ PoolRep w' L (munplug P M n).1 ∧ MRep w' g 175 N L.p (munplug P M n).2.1 ∧ Upd (ownM L g) w w' := by
  have hne := map_ne rp r (by decide) (by decide) (by decide)
  by_cases ho : onB n = true
  · have hn := onB_iff.1 ho
    obtain ⟨k, rfl⟩ := Int.eq_ofNat_of_zero_le hn.1
    have hk : k < 16 := by omega
    have c1 := r.st hk
    by_cases h0 : M.state k = 0
    · have h0' : (M.state k == 0) = true := by simpa using h0
      have F := Lib.hid (show munplug P M k = (P, M, 2) by unfold munplug; rw [if_pos ho]; simp [h0])
      clear h0 hn
      go_enter Tryz.func119, Tryz.ntmps119
      go_wp2_with (go_at_call 147; refine (on_any _ _).mono ?_; rintro e w' ⟨rfl, rfl⟩)
      go_ret
      exact ⟨by rw [F.out]; rfl, by rw [F.out]; exact rp, by rw [F.out]; exact r, Upd.refl _ _⟩
    · have h0' : (M.state k == 0) = false := by simpa using h0
      have F := Lib.hid (show munplug P M k = (letP P M k, (M.setLeaf k LeafM.none).setState k 0, 0) by unfold munplug; rw [if_pos ho]; simp [h0])
      clear h0 hn
      go_enter Tryz.func119, Tryz.ntmps119
      go_wp2_with (first | (go_at_call 147; refine (on_any _ _).mono ?_; rintro e w' ⟨rfl, rfl⟩) | (go_at_call 148; refine (let_any _ L P g N M rp r k hk).mono ?_; rintro e w2 ⟨rfl, p2, m2, u2⟩; have d1 := m2.st hk; have g1 := m2.fr (1 + k)))
      go_ret
      exact ⟨by rw [F.out]; rfl, by rw [F.out]; exact p2.keep1 hne _ _, by rw [F.out]; exact m2.setState hk, u2.setCell (p := ⟨g, 1 + k, none⟩) (S := ownM L g) (fun _ => .inr rfl) _⟩
  · have ho' : onB n = false := by simpa using ho
    have F := Lib.hid (show munplug P M n = (P, M, 1) by unfold munplug; rw [if_neg ho])
    go_enter Tryz.func119, Tryz.ntmps119
    go_wp2_with (go_at_call 147; refine (on_any _ _).mono ?_; rintro e w' ⟨rfl, rfl⟩)
    go_ret
    exact ⟨by rw [F.out]; rfl, by rw [F.out]; exact rp, by rw [F.out]; exact r, Upd.refl _ _⟩

set_option maxRecDepth 100000 in
set_option maxHeartbeats 400000 in
theorem give_any (w : World) (L : PoolAt) (P : PoolM) (g N : Nat) (M : MapM) (rp : PoolRep w L P) (r : MRep w g 175 N L.p M) (n : Int) :
    Calls Tryz.prog 122 #[.pointer (some ⟨g, 0, none⟩), .int .i64 n] w fun e w' => e = .returned (errv (mgive P M n).2.2) ∧ PoolRep w' L (mgive P M n).1 ∧ MRep w' g 175 N L.p (mgive P M n).2.1 ∧ Upd (ownM L g) w w' := by
  have hne := map_ne rp r (by decide) (by decide) (by decide)
  by_cases ho : onB n = true
  · have hn := onB_iff.1 ho
    obtain ⟨k, rfl⟩ := Int.eq_ofNat_of_zero_le hn.1
    have hk : k < 16 := by omega
    have c1 := r.st hk
    by_cases h0 : M.state k = 1
    · have h0' : (M.state k != 1) = false := by simpa using h0
      have F := Lib.hid (show mgive P M k = (letP P M k, (M.setLeaf k LeafM.none).setState k 2, 0) by unfold mgive; rw [if_pos ho]; simp [h0])
      clear h0 hn
      go_enter Tryz.func122, Tryz.ntmps122
      go_wp2_with (first | (go_at_call 147; refine (on_any _ _).mono ?_; rintro e w' ⟨rfl, rfl⟩) | (go_at_call 148; refine (let_any _ L P g N M rp r k hk).mono ?_; rintro e w2 ⟨rfl, p2, m2, u2⟩; have d1 := m2.st hk; have g1 := m2.fr (1 + k)))
      go_ret
      exact ⟨by rw [F.out]; rfl, by rw [F.out]; exact p2.keep1 hne _ _, by rw [F.out]; exact m2.setState hk, u2.setCell (p := ⟨g, 1 + k, none⟩) (S := ownM L g) (fun _ => .inr rfl) _⟩
    · have h0' : (M.state k != 1) = true := by simpa using h0
      have F := Lib.hid (show mgive P M k = (P, M, 8) by unfold mgive; rw [if_pos ho]; simp [h0])
      clear h0 hn
      go_enter Tryz.func122, Tryz.ntmps122
      go_wp2_with (go_at_call 147; refine (on_any _ _).mono ?_; rintro e w' ⟨rfl, rfl⟩)
      go_ret
      exact ⟨by rw [F.out]; rfl, by rw [F.out]; exact rp, by rw [F.out]; exact r, Upd.refl _ _⟩
  · have ho' : onB n = false := by simpa using ho
    have F := Lib.hid (show mgive P M n = (P, M, 1) by unfold mgive; rw [if_neg ho])
    go_enter Tryz.func122, Tryz.ntmps122
    go_wp2_with (go_at_call 147; refine (on_any _ _).mono ?_; rintro e w' ⟨rfl, rfl⟩)
    go_ret
    exact ⟨by rw [F.out]; rfl, by rw [F.out]; exact rp, by rw [F.out]; exact r, Upd.refl _ _⟩

theorem zeroMap : Tryz.zeroCells175 = (Value.pointer none :: (List.replicate 16 (Value.int .i64 0) ++ (List.replicate 16 [Value.bool false, Value.bool false, Value.int .i64 0]).flatten)).toArray := by kernel_rfl
theorem zeroMap_s : Tryz.zeroCells175.size = 65 := by rw [zeroMap]; rfl
theorem zeroMap_get (i : Nat) (hi : i < 16) : Tryz.zeroCells175[1 + i]? = some (.int .i64 0) ∧ Tryz.zeroCells175[17 + i * 3]? = some (.bool false) ∧ Tryz.zeroCells175[17 + i * 3 + 1]? = some (.bool false) ∧
    Tryz.zeroCells175[17 + i * 3 + 2]? = some (.int .i64 0) := by
  rw [zeroMap]
  have : i = 0 ∨ i = 1 ∨ i = 2 ∨ i = 3 ∨ i = 4 ∨ i = 5 ∨ i = 6 ∨ i = 7 ∨ i = 8 ∨ i = 9 ∨ i = 10 ∨ i = 11 ∨ i = 12 ∨ i = 13 ∨ i = 14 ∨ i = 15 := by omega
  rcases this with rfl | rfl | rfl | rfl | rfl | rfl | rfl | rfl | rfl | rfl | rfl | rfl | rfl | rfl | rfl | rfl <;> exact ⟨rfl, rfl, rfl, rfl⟩
def MapM.fresh : MapM := ⟨fun _ => 0, fun _ => LeafM.none⟩

set_option maxRecDepth 100000 in
set_option maxHeartbeats 400000 in
theorem mapNew_nil (w : World) : Calls Tryz.prog 117 #[.pointer none] w fun e w' => e = .returned (.tuple #[.pointer none, errv 2]) ∧ w = w' := by
  go_enter Tryz.func117, Tryz.ntmps117
  go_wp2
  go_ret2
  exact ⟨rfl, rfl⟩

set_option maxRecDepth 100000 in
set_option maxHeartbeats 400000 in
theorem mapNew_any (w : World) (p : Nat) : Calls Tryz.prog 117 #[.pointer (some ⟨p, 0, none⟩)] w fun e w' => ∃ g, e = .returned (.tuple #[.pointer (some ⟨g, 0, none⟩), .nilIface]) ∧ MRep w' g 175 65 p MapM.fresh ∧ w.heap.size ≤ g ∧ Upd Non w w' := by
  go_enter Tryz.func117, Tryz.ntmps117
  go_wp2
  go_ret2
  refine ⟨w.heap.size, rfl, ⟨⟨fun i => (Tryz.zeroCells175.setIfInBounds 0 (.pointer (some ⟨p, 0, none⟩))).getD i undef, ⟨_, heap_alloc_new w _, by rw [Array.size_setIfInBounds]; exact zeroMap_s, fun i hi => ?_⟩, ?_, fun i hi => ?_⟩, by omega⟩, Nat.le_refl _, (Upd.refl _ _).alloc _⟩
  · show _ = some ((Array.setIfInBounds _ _ _).getD i undef)
    rw [Array.getD_eq_getD_getElem?, Array.getElem?_eq_getElem (by rw [Array.size_setIfInBounds, zeroMap_s]; exact hi)]; rfl
  · show (Array.setIfInBounds _ _ _).getD 0 undef = _
    rw [Array.getD_eq_getD_getElem?, Array.getElem?_setIfInBounds_self_of_lt (by rw [zeroMap_s]; omega)]; rfl
  · obtain ⟨z1, z2, z3, z4⟩ := zeroMap_get i hi
    refine ⟨?_, ?_, ?_, ?_⟩ <;> (show (Array.setIfInBounds _ _ _).getD _ undef = _; rw [Array.getD_eq_getD_getElem?, Array.getElem?_setIfInBounds_ne (by omega)])
    · rw [z1]; rfl
    · rw [z2]; rfl
    · rw [z3]; rfl
    · rw [z4]; rfl

theorem mapCopy_load {w : World} {g p : Nat} {M : MapM} (r : MRep w g 175 65 p M) : ∃ c : Nat → Value, (Instr.loadAt 175 (.pointer (some ⟨g, 0, none⟩))).run Tryz.prog w = .ok (.agg (seg c 0 65).toArray) w ∧
    (∀ v ∈ seg c 0 65, v.oneCell' = true) ∧
    ∀ i, i < 16 → c (1 + i) = .int .i64 (M.state i) ∧ c (17 + i * 3) = .bool (M.leaf i).there ∧ c (17 + i * 3 + 1) = .bool (M.leaf i).write ∧ c (17 + i * 3 + 2) = .int .i64 (M.leaf i).frame := by
  obtain ⟨c, hR, h0, h⟩ := r.row
  refine ⟨c, load_row (P := Tryz.prog) hR 175 0 65 _ (by omega) Tryz.underlying175 rfl (by kernel_rfl), fun v hv => ?_, h⟩
  simp only [seg, List.mem_map, List.mem_range] at hv
  obtain ⟨k, hk, rfl⟩ := hv
  rw [Nat.zero_add]
  by_cases k0 : k = 0
  · subst k0; rw [h0]; rfl
  · by_cases k1 : k < 17
    · have := (h (k - 1) (by omega)).1
      rw [show 1 + (k - 1) = k by omega] at this
      rw [this]; rfl
    · obtain ⟨_, h2, h3, h4⟩ := h ((k - 17) / 3) (by omega)
      have hm : (k - 17) % 3 = 0 ∨ (k - 17) % 3 = 1 ∨ (k - 17) % 3 = 2 := by omega
      rcases hm with hm | hm | hm
      · rw [show 17 + (k - 17) / 3 * 3 = k by omega] at h2; rw [h2]; rfl
      · rw [show 17 + (k - 17) / 3 * 3 + 1 = k by omega] at h3; rw [h3]; rfl
      · rw [show 17 + (k - 17) / 3 * 3 + 2 = k by omega] at h4; rw [h4]; rfl

end U
end Go.Proofs.YtnhplapcdgnaaaaGreatDoor

set_option linter.unusedVariables false
set_option linter.unusedSimpArgs false
namespace Go.Proofs.YtnhplapcdgnaaaaGreatDoor
open Go.RowKit
namespace U

/-- Is just one page in a frame? -/
def PoolM.one (P : PoolM) (f : Int) : Bool := (P.of f).2.2 == 0 && (P.of f).2.1 == 1
/-- A frame is taken for a page; what it had comes with it. -/
def PoolM.move (P : PoolM) (l : LeafM) (f : Nat) : PoolM := if l.there then (((P.take.1).fill f l.frame).1.share l.frame (-1)).1 else P.take.1
def mtouch (P : PoolM) (M : MapM) (n : Int) (write : Bool) : PoolM × MapM × Int × Bool × Nat :=
  if onB n then
    if M.state n.toNat = 0 then (P, M, 0, false, 2) else
    if M.state n.toNat = 2 then (P, M, 0, false, 6) else
    if (M.leaf n.toNat).there && ((M.leaf n.toNat).write || !write) then (P, M, (M.leaf n.toNat).frame, false, 0) else
    if (M.leaf n.toNat).there && P.one (M.leaf n.toNat).frame then (P, M.setLeaf n.toNat { M.leaf n.toNat with write := true }, (M.leaf n.toNat).frame, false, 0) else
    match P.free with
    | none => (P, M, 0, false, 3)
    | some f => (P.move (M.leaf n.toNat) f, M.setLeaf n.toNat ⟨true, true, f⟩, f, (M.leaf n.toNat).there, 0)
  else (P, M, 0, false, 1)

def TouchPost (w : World) (L : PoolAt) (g N : Nat) (x : PoolM × MapM × Int × Bool × Nat) (e : Ending) (w' : World) : Prop :=
  e = .returned (.tuple #[.int .i64 x.2.2.1, .bool x.2.2.2.1, errv x.2.2.2.2]) ∧ PoolRep w' L x.1 ∧ MRep w' g 175 N L.p x.2.1 ∧ Upd (ownM L g) w w'

set_option maxRecDepth 100000 in
set_option maxHeartbeats 1000000 in
theorem touch_stay (w : World) (L : PoolAt) (P : PoolM) (g N : Nat) (M : MapM) (rp : PoolRep w L P) (r : MRep w g 175 N L.p M) (k : Nat) (hk : k < 16) (wr : Bool)
    (s0 : M.state k ≠ 0) (s2 : M.state k ≠ 2) (ht : (M.leaf k).there = true) (hw : (M.leaf k).write = true ∨ wr = false) :
    Calls Tryz.prog 170 #[.pointer (some ⟨g, 0, none⟩), .int .i64 k, .bool wr] w (TouchPost w L g N (P, M, (M.leaf k).frame, false, 0)) := by
  have ho' : onB k = true := onB_iff.2 ⟨by omega, by omega⟩
  have c1 := r.st hk
  have c2 := r.l0 hk
  have c3 := r.l1 hk
  have c4 := r.l2 hk
  have lg := r.lt
  have s0' : (M.state k == 0) = false := by simpa using s0
  have s2' : (M.state k == 2) = false := by simpa using s2
  clear s0 s2
  cases hwl : (M.leaf k).write with
  | true =>
    rw [hwl] at c3
    clear hw hwl
    go_enter Tryz.func170, Tryz.ntmps170
    go_wp2_with (go_at_call 147; refine (on_any _ _).mono ?_; rintro e w' ⟨rfl, rfl⟩)
    all_goals go_ret3
    all_goals exact ⟨rfl, rp.alloc _, r.alloc _, (Upd.refl _ _).alloc _⟩
  | false =>
    have hw' : wr = false := by rcases hw with h | h <;> simp_all
    subst hw'
    rw [hwl] at c3
    clear hw hwl
    go_enter Tryz.func170, Tryz.ntmps170
    go_wp2_with (go_at_call 147; refine (on_any _ _).mono ?_; rintro e w' ⟨rfl, rfl⟩)
    all_goals go_ret3
    all_goals exact ⟨rfl, rp.alloc _, r.alloc _, (Upd.refl _ _).alloc _⟩

end U
end Go.Proofs.YtnhplapcdgnaaaaGreatDoor

set_option linter.unusedVariables false
set_option linter.unusedSimpArgs false
namespace Go.Proofs.YtnhplapcdgnaaaaGreatDoor
open Go.RowKit
namespace U

theorem Upd.sc2 {S : Nat → Prop} {a w : World} {g : Nat} (u : Upd S a w) (hg : S g) (i j : Nat) (x y : Value) : Upd S a ((w.setCell ⟨g, i, none⟩ x).setCell ⟨g, j, none⟩ y) :=
  (u.setCell (p := ⟨g, i, none⟩) (fun _ => hg) x).setCell (p := ⟨g, j, none⟩) (fun _ => hg) y
theorem PoolRep.lts' {w : World} {L : PoolAt} {P : PoolM} (r : PoolRep w L P) : L.p < w.heap.size ∧ L.bb < w.heap.size ∧ L.rb < w.heap.size := by
  obtain ⟨_, _, hB, _⟩ := r.bytes
  obtain ⟨_, _, hR, _⟩ := r.counts
  exact ⟨r.st.lt, hB.lt, hR.lt⟩

set_option maxRecDepth 100000 in
set_option maxHeartbeats 1000000 in
theorem touch_one (w : World) (L : PoolAt) (P : PoolM) (g N : Nat) (M : MapM) (rp : PoolRep w L P) (r : MRep w g 175 N L.p M) (k : Nat) (hk : k < 16)
    (s0 : M.state k ≠ 0) (s2 : M.state k ≠ 2) (ht : (M.leaf k).there = true) (hw : (M.leaf k).write = false) (h1 : P.one (M.leaf k).frame = true) :
    Calls Tryz.prog 170 #[.pointer (some ⟨g, 0, none⟩), .int .i64 k, .bool true] w (TouchPost w L g N (P, M.setLeaf k { M.leaf k with write := true }, (M.leaf k).frame, false, 0)) := by
  have ho' : onB k = true := onB_iff.2 ⟨by omega, by omega⟩
  have c0 := r.c0
  have c1 := r.st hk
  have c2 := r.l0 hk
  have c3 := r.l1 hk
  have c4 := r.l2 hk
  have f4 := r.fr (17 + k * 3 + 1)
  have lg := r.lt
  have lg1 : g < w.heap.size + 1 := by omega
  have lg2 : ¬ g = w.heap.size + 1 := by omega
  have lg3 : ¬ w.heap.size + 1 = g := by omega
  have hne := map_ne rp r (by decide) (by decide) (by decide)
  rw [hw] at c3
  have s0' : (M.state k == 0) = false := by simpa using s0
  have s2' : (M.state k == 2) = false := by simpa using s2
  unfold PoolM.one at h1
  rw [Bool.and_eq_true, beq_iff_eq, beq_iff_eq] at h1
  have e1 := Lib.hid h1.1
  have e2 := Lib.hid h1.2
  clear s0 s2 h1 hw
  have bx : (w.alloc (.cells #[.bool true, .bool false, .int .i64 (M.leaf k).frame] 88)).cell? ⟨w.heap.size, 2, none⟩ = some (.int .i64 (M.leaf k).frame) := by
    rw [cell_of_row _ w.heap.size 2 _ _ (0, 0) (heap_alloc_new w _)]; rfl
  go_enter Tryz.func170, Tryz.ntmps170
  go_wp2_with (go_at_call 147; refine (on_any _ _).mono ?_; rintro e w' ⟨rfl, rfl⟩)
  go_region_held3 (fun w' => w'.cell? ⟨g, 0, none⟩ = some (.pointer (some ⟨L.p, 0, none⟩)) ∧ w'.cell? ⟨w.heap.size, 2, none⟩ = some (.int .i64 (M.leaf k).frame)) (go_keep) (first | (go_at_call 106; refine (of_any _ L P (by repeat (first | assumption | apply PoolRep.alloc | apply PoolRep.drew | apply PoolRep.drewN)) _).mono ?_; rw [e1.out, show errv 0 = Value.nilIface from rfl]; unfold frameV; rw [e2.out]; rintro e w2 ⟨rfl, u2⟩; obtain ⟨hcc, hff⟩ := u2.cells; have hz := u2.size; simp at hz; have rp2 := PoolRep.upd_ (by repeat (first | assumption | apply PoolRep.alloc | apply PoolRep.drew | apply PoolRep.drewN)) u2 (fun h => h) (fun h => h) (fun h => h); have U2 : Upd Non w w2 := Upd.trans (by repeat (first | assumption | apply Upd.alloc | apply Upd.drew | apply Upd.drewN | exact Upd.refl _ _)) u2; have m2 := MRep.upd_ (by repeat (first | assumption | apply MRep.alloc | apply MRep.drew | apply MRep.drewN) : MRep _ g 175 N L.p M) u2 (fun h => h); have q0 := m2.c0; have q1 := m2.lt; have q2 : w.heap.size < w2.heap.size := (by omega); have q4 : ¬ w2.heap.size = g := (by omega); have q5 : ¬ w2.heap.size = w.heap.size := (by omega); have q3 : w2.cell? ⟨w.heap.size, 2, none⟩ = some (.int .i64 (M.leaf k).frame) := (hcc _ _ (by first | (simp; done) | (simp; omega))).trans (by first | exact bx | exact (World.cell?_alloc_lt _ _ _ (by simp)).trans bx)))
  all_goals go_wp2
  all_goals go_ret3
  all_goals have hl := rp.lts'
  · refine ⟨rfl, ?_, ?_, ?_⟩
    · exact (rp2.keep1 hne _ _).alloc _
    · exact (m2.setWrite hk).alloc _
    · exact ((U2.mono (fun _ _ h => h.elim)).setCell (p := ⟨g, 17 + k * 3 + 1, none⟩) (S := ownM L g) (fun _ => .inr rfl) _).alloc _
  · have ub := (Upd.refl (at1 (w.heap.size + 1)) w2).sc2 at1_self 0 1 (.int .i64 (P.of (M.leaf k).frame).1) (.int .i64 1)
    have rp3 := rp2.upd_ ub (by unfold at1; omega) (by unfold at1; omega) (by unfold at1; omega)
    have m3 := m2.upd_ ub (by unfold at1; omega)
    refine ⟨rfl, ?_, ?_, ?_⟩
    · exact rp3.keep1 hne _ _
    · exact m3.setWrite hk
    · exact (((U2.mono (fun _ _ h => h.elim)).over' ub (fun i hi => .inr (by unfold at1 at hi; omega)))).setCell (p := ⟨g, 17 + k * 3 + 1, none⟩) (S := ownM L g) (fun _ => .inr rfl) _

end U
end Go.Proofs.YtnhplapcdgnaaaaGreatDoor

set_option linter.unusedVariables false
set_option linter.unusedSimpArgs false
namespace Go.Proofs.YtnhplapcdgnaaaaGreatDoor
open Go.RowKit
namespace U

theorem take_some {P : PoolM} {f : Nat} (h : P.free = some f) : P.take.2.1 = f ∧ P.take.2.2 = 0 := by unfold PoolM.take; rw [h]; exact ⟨rfl, rfl⟩
theorem take_none {P : PoolM} (h : P.free = none) : P.take = (P, 0, 3) := by unfold PoolM.take; rw [h]

set_option maxRecDepth 100000 in
set_option maxHeartbeats 1000000 in
theorem touch_new (w : World) (L : PoolAt) (P : PoolM) (g N : Nat) (M : MapM) (rp : PoolRep w L P) (r : MRep w g 175 N L.p M) (k : Nat) (hk : k < 16) (wr : Bool) (f : Nat)
    (s0 : M.state k ≠ 0) (s2 : M.state k ≠ 2) (ht : (M.leaf k).there = false) (hf : P.free = some f) :
    Calls Tryz.prog 170 #[.pointer (some ⟨g, 0, none⟩), .int .i64 k, .bool wr] w (TouchPost w L g N (P.move (M.leaf k) f, M.setLeaf k ⟨true, true, f⟩, f, (M.leaf k).there, 0)) := by
  have ho' : onB k = true := onB_iff.2 ⟨by omega, by omega⟩
  have c0 := r.c0
  have c1 := r.st hk
  have c2 := r.l0 hk
  have c3 := r.l1 hk
  have c4 := r.l2 hk
  have lg := r.lt
  have hne := map_ne rp r (by decide) (by decide) (by decide)
  have hno : ¬ L.own g := fun h => h.elim hne.2.1 hne.2.2
  have hl := rp.lts'
  have hbo : ¬ L.own w.heap.size := by unfold PoolAt.own; omega
  have s0' : (M.state k == 0) = false := by simpa using s0
  have s2' : (M.state k == 2) = false := by simpa using s2
  have e1 := Lib.hid (take_some hf).1
  have e2 := Lib.hid (take_some hf).2
  have F := Lib.hid (show P.move (M.leaf k) f = P.take.1 by unfold PoolM.move; rw [ht]; rfl)
  clear s0 s2 hf hl
  go_enter Tryz.func170, Tryz.ntmps170
  go_wp2_with (first
    | (go_at_call 147; refine (on_any _ _).mono ?_; rintro e w' ⟨rfl, rfl⟩)
    | (go_at_call 177; refine (take_any _ L P (by repeat (first | assumption | apply PoolRep.alloc | apply PoolRep.drew | apply PoolRep.drewN))).mono ?_; rw [e1.out, e2.out, show errv 0 = Value.nilIface from rfl]; rintro e w2 ⟨rfl, p2, u2⟩; have m2 := MRep.upd_ (by repeat (first | assumption | apply MRep.alloc | apply MRep.drew | apply MRep.drewN) : MRep _ g 175 N L.p M) u2 hno; have q0 := m2.c0; have q1 := m2.l0 hk; have q2 := m2.l1 hk; have q3 := m2.l2 hk; have g0 := m2.fr (17 + k * 3); have g1 := m2.fr (17 + k * 3 + 1); have g2 := m2.fr (17 + k * 3 + 2); have hcc : ∀ o, w2.cell? ⟨w.heap.size, o, none⟩ = _ := fun o => World.cell?_of_block (a := ⟨w.heap.size, o, none⟩) (u2.block w.heap.size (by simp) hbo)))
  go_quiet (fail)
  go_wp2
  go_ret3
  refine ⟨by rw [ht]; rfl, ?_, ?_, ?_⟩
  · rw [F.out]; exact (p2.keep3 hne _ _ _ _ _ _).drewN _
  · exact (m2.setLeaf (l := ⟨true, true, f⟩) hk).drewN _
  · exact ((((Upd.refl _ w).alloc _).trans u2.toM).sc3 (S := ownM L g) (.inr rfl) _ _ _ _ _ _).drewN _

set_option maxRecDepth 100000 in
set_option maxHeartbeats 1000000 in
theorem touch_new_full (w : World) (L : PoolAt) (P : PoolM) (g N : Nat) (M : MapM) (rp : PoolRep w L P) (r : MRep w g 175 N L.p M) (k : Nat) (hk : k < 16) (wr : Bool)
    (s0 : M.state k ≠ 0) (s2 : M.state k ≠ 2) (ht : (M.leaf k).there = false) (hf : P.free = none) :
    Calls Tryz.prog 170 #[.pointer (some ⟨g, 0, none⟩), .int .i64 k, .bool wr] w (TouchPost w L g N (P, M, 0, false, 3)) := by
  have ho' : onB k = true := onB_iff.2 ⟨by omega, by omega⟩
  have c0 := r.c0
  have c1 := r.st hk
  have c2 := r.l0 hk
  have c3 := r.l1 hk
  have c4 := r.l2 hk
  have lg := r.lt
  have hne := map_ne rp r (by decide) (by decide) (by decide)
  have hno : ¬ L.own g := fun h => h.elim hne.2.1 hne.2.2
  have s0' : (M.state k == 0) = false := by simpa using s0
  have s2' : (M.state k == 2) = false := by simpa using s2
  have e1 := Lib.hid (show P.take.2.1 = 0 by rw [take_none hf])
  have e2 := Lib.hid (show P.take.2.2 = 3 by rw [take_none hf])
  have e3 := Lib.hid (show P.take.1 = P by rw [take_none hf])
  clear s0 s2 hf
  go_enter Tryz.func170, Tryz.ntmps170
  go_wp2_with (first
    | (go_at_call 147; refine (on_any _ _).mono ?_; rintro e w' ⟨rfl, rfl⟩)
    | (go_at_call 177; refine (take_any _ L P (by repeat (first | assumption | apply PoolRep.alloc | apply PoolRep.drew | apply PoolRep.drewN))).mono ?_; rw [e1.out, e2.out, e3.out, show errv 3 = Value.iface 37 (.int .i64 3) from rfl]; rintro e w2 ⟨rfl, p2, u2⟩; have m2 := MRep.upd_ (by repeat (first | assumption | apply MRep.alloc | apply MRep.drew | apply MRep.drewN) : MRep _ g 175 N L.p M) u2 hno))
  go_ret3
  exact ⟨rfl, p2, m2, ((Upd.refl _ w).alloc _).trans u2.toM⟩

set_option maxRecDepth 100000 in
set_option maxHeartbeats 1000000 in
theorem touch_off (w : World) (L : PoolAt) (P : PoolM) (g N : Nat) (M : MapM) (rp : PoolRep w L P) (r : MRep w g 175 N L.p M) (n : Int) (wr : Bool) (ho : onB n = false) :
    Calls Tryz.prog 170 #[.pointer (some ⟨g, 0, none⟩), .int .i64 n, .bool wr] w (TouchPost w L g N (P, M, 0, false, 1)) := by
  go_enter Tryz.func170, Tryz.ntmps170
  go_wp2_with (go_at_call 147; refine (on_any _ _).mono ?_; rintro e w' ⟨rfl, rfl⟩)
  go_ret3
  exact ⟨rfl, rp, r, Upd.refl _ _⟩

set_option maxRecDepth 100000 in
set_option maxHeartbeats 1000000 in
theorem touch_absent (w : World) (L : PoolAt) (P : PoolM) (g N : Nat) (M : MapM) (rp : PoolRep w L P) (r : MRep w g 175 N L.p M) (k : Nat) (hk : k < 16) (wr : Bool) (s0 : M.state k = 0) :
    Calls Tryz.prog 170 #[.pointer (some ⟨g, 0, none⟩), .int .i64 k, .bool wr] w (TouchPost w L g N (P, M, 0, false, 2)) := by
  have ho' : onB k = true := onB_iff.2 ⟨by omega, by omega⟩
  have c1 := r.st hk
  rw [s0] at c1
  clear s0
  go_enter Tryz.func170, Tryz.ntmps170
  go_wp2_with (go_at_call 147; refine (on_any _ _).mono ?_; rintro e w' ⟨rfl, rfl⟩)
  go_ret3
  exact ⟨rfl, rp, r, Upd.refl _ _⟩

set_option maxRecDepth 100000 in
set_option maxHeartbeats 1000000 in
theorem touch_given (w : World) (L : PoolAt) (P : PoolM) (g N : Nat) (M : MapM) (rp : PoolRep w L P) (r : MRep w g 175 N L.p M) (k : Nat) (hk : k < 16) (wr : Bool) (s2 : M.state k = 2) :
    Calls Tryz.prog 170 #[.pointer (some ⟨g, 0, none⟩), .int .i64 k, .bool wr] w (TouchPost w L g N (P, M, 0, false, 6)) := by
  have ho' : onB k = true := onB_iff.2 ⟨by omega, by omega⟩
  have c1 := r.st hk
  rw [s2] at c1
  clear s2
  go_enter Tryz.func170, Tryz.ntmps170
  go_wp2_with (go_at_call 147; refine (on_any _ _).mono ?_; rintro e w' ⟨rfl, rfl⟩)
  go_ret3
  exact ⟨rfl, rp, r, Upd.refl _ _⟩

end U
end Go.Proofs.YtnhplapcdgnaaaaGreatDoor
