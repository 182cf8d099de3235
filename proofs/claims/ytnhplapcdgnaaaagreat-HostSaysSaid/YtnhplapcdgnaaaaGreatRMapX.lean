import Derived.Test.YtnhplapcdgnaaaaGreatMapHX
import Derived.Test.YtnhplapcdgnaaaaGreatRPoolX
import Derived.Outline
set_option linter.unusedVariables false
set_option linter.unusedSimpArgs false
namespace Go.Proofs.YtnhplapcdgnaaaaGreat
open Go.RowKit
namespace U

/-! The reference's map: at the head of a block (type T, N cells); behind it the cells x. -/
structure RMRep (w : World) (g : Nat) (T N p : Nat) (M : MapM) (x : Nat → Value) : Prop where
  row : ∃ c : Nat → Value, Row w g T N c ∧ c 0 = .pointer (some ⟨p, 0, none⟩) ∧ (∀ i, i < 16 → c (1 + i) = .int .i64 (M.state i) ∧
    c (17 + i * 3) = .bool (M.leaf i).there ∧ c (17 + i * 3 + 1) = .bool (M.leaf i).write ∧ c (17 + i * 3 + 2) = .int .i64 (M.leaf i).frame) ∧ ∀ i, 65 ≤ i → i < N → c i = x i
  big : 65 ≤ N

section
variable {w w' : World} {g T N p : Nat} {M : MapM} {x : Nat → Value} {S : Nat → Prop}
theorem RMRep.toM (r : RMRep w g T N p M x) : MRep w g T N p M := by
  obtain ⟨c, h1, h2, h3, _⟩ := r.row
  exact ⟨⟨c, h1, h2, h3⟩, r.big⟩
theorem RMRep.c0 (r : RMRep w g T N p M x) : w.cell? ⟨g, 0, none⟩ = some (.pointer (some ⟨p, 0, none⟩)) := r.toM.c0
theorem RMRep.st (r : RMRep w g T N p M x) {i : Nat} (hi : i < 16) : w.cell? ⟨g, 1 + i, none⟩ = some (.int .i64 (M.state i)) := r.toM.st hi
theorem RMRep.l0 (r : RMRep w g T N p M x) {i : Nat} (hi : i < 16) : w.cell? ⟨g, 17 + i * 3, none⟩ = some (.bool (M.leaf i).there) := r.toM.l0 hi
theorem RMRep.l1 (r : RMRep w g T N p M x) {i : Nat} (hi : i < 16) : w.cell? ⟨g, 17 + i * 3 + 1, none⟩ = some (.bool (M.leaf i).write) := r.toM.l1 hi
theorem RMRep.l2 (r : RMRep w g T N p M x) {i : Nat} (hi : i < 16) : w.cell? ⟨g, 17 + i * 3 + 2, none⟩ = some (.int .i64 (M.leaf i).frame) := r.toM.l2 hi
theorem RMRep.fr (r : RMRep w g T N p M x) (i : Nat) : w.frozen? ⟨g, i, none⟩ = false := r.toM.fr i
theorem RMRep.lt (r : RMRep w g T N p M x) : g < w.heap.size := r.toM.lt
theorem RMRep.xc (r : RMRep w g T N p M x) {i : Nat} (h : 65 ≤ i) (hi : i < N) : w.cell? ⟨g, i, none⟩ = some (x i) := by
  obtain ⟨c, h1, _, _, h4⟩ := r.row
  rw [h1.cell hi, h4 i h hi]
theorem RMRep.keep (r : RMRep w g T N p M x) (e : w'.heap[g]? = w.heap[g]?) : RMRep w' g T N p M x := by
  obtain ⟨c, hR, h⟩ := r.row
  exact ⟨⟨c, hR.keep e, h⟩, r.big⟩
theorem RMRep.drewN (r : RMRep w g T N p M x) (n : Nat) : RMRep (w.drewN n) g T N p M x := r.keep rfl
theorem RMRep.drew (r : RMRep w g T N p M x) : RMRep w.drew g T N p M x := r.keep rfl
theorem RMRep.alloc (r : RMRep w g T N p M x) (o : Obj) : RMRep (w.alloc o) g T N p M x := r.keep (Below.heap_alloc w o g r.lt)
theorem RMRep.upd_ (r : RMRep w g T N p M x) (u : Upd S w w') (h : ¬ S g) : RMRep w' g T N p M x := r.keep (u.block g r.lt h)
theorem RMRep.setState (r : RMRep w g T N p M x) {n : Nat} {s : Int} (hn : n < 16) : RMRep (w.setCell ⟨g, 1 + n, none⟩ (.int .i64 s)) g T N p (M.setState n s) x := by
  obtain ⟨c, hR, h0, h, hx⟩ := r.row
  have := r.big
  refine ⟨⟨_, hR.set_ _, ?_, fun i hi => ?_, fun i h1 h2 => by unfold upd; rw [if_neg (by omega)]; exact hx i h1 h2⟩, r.big⟩
  · unfold upd; rw [if_neg (by omega)]; exact h0
  · unfold upd MapM.setState
    obtain ⟨h1, h2, h3, h4⟩ := h i hi
    refine ⟨?_, by rw [if_neg (by omega)]; exact h2, by rw [if_neg (by omega)]; exact h3, by rw [if_neg (by omega)]; exact h4⟩
    by_cases e : i = n
    · subst e; simp
    · rw [if_neg (by omega)]; simp [e, h1]
theorem RMRep.setLeaf (r : RMRep w g T N p M x) {n : Nat} {l : LeafM} (hn : n < 16) :
    RMRep (((w.setCell ⟨g, 17 + n * 3, none⟩ (.bool l.there)).setCell ⟨g, 17 + n * 3 + 1, none⟩ (.bool l.write)).setCell ⟨g, 17 + n * 3 + 2, none⟩ (.int .i64 l.frame)) g T N p (M.setLeaf n l) x := by
  obtain ⟨c, hR, h0, h, hx⟩ := r.row
  have := r.big
  refine ⟨⟨_, ((hR.set_ (i := 17 + n * 3) _).set_ (i := 17 + n * 3 + 1) _).set_ (i := 17 + n * 3 + 2) _, ?_, fun i hi => ?_, fun i h1 h2 => ?_⟩, r.big⟩
  · unfold upd; rw [if_neg (by omega), if_neg (by omega), if_neg (by omega)]; exact h0
  · unfold upd MapM.setLeaf
    obtain ⟨h1, h2, h3, h4⟩ := h i hi
    by_cases e : i = n
    · subst e
      refine ⟨by rw [if_neg (by omega), if_neg (by omega), if_neg (by omega)]; exact h1, by rw [if_neg (by omega), if_neg (by omega), if_pos rfl]; simp, by rw [if_neg (by omega), if_pos rfl]; simp, by rw [if_pos rfl]; simp⟩
    · refine ⟨by rw [if_neg (by omega), if_neg (by omega), if_neg (by omega)]; exact h1, ?_, ?_, ?_⟩ <;> (rw [if_neg (by omega), if_neg (by omega), if_neg (by omega)]; simp [e, h2, h3, h4])
  · unfold upd; rw [if_neg (by omega), if_neg (by omega), if_neg (by omega)]; exact hx i h1 h2
theorem RMRep.setWrite (r : RMRep w g T N p M x) {n : Nat} {b : Bool} (hn : n < 16) : RMRep (w.setCell ⟨g, 17 + n * 3 + 1, none⟩ (.bool b)) g T N p (M.setLeaf n { M.leaf n with write := b }) x := by
  obtain ⟨c, hR, h0, h, hx⟩ := r.row
  have := r.big
  refine ⟨⟨_, hR.set_ _, ?_, fun i hi => ?_, fun i h1 h2 => by unfold upd; rw [if_neg (by omega)]; exact hx i h1 h2⟩, r.big⟩
  · unfold upd; rw [if_neg (by omega)]; exact h0
  · unfold upd MapM.setLeaf
    obtain ⟨h1, h2, h3, h4⟩ := h i hi
    by_cases e : i = n
    · subst e
      refine ⟨by rw [if_neg (by omega)]; exact h1, by rw [if_neg (by omega)]; simp [h2], by rw [if_pos rfl]; simp, by rw [if_neg (by omega)]; simp [h4]⟩
    · refine ⟨by rw [if_neg (by omega)]; exact h1, ?_, ?_, ?_⟩ <;> (rw [if_neg (by omega)]; simp [e, h2, h3, h4])
theorem RMRep.setX (r : RMRep w g T N p M x) {i : Nat} {v : Value} (hi : 65 ≤ i) : RMRep (w.setCell ⟨g, i, none⟩ v) g T N p M (upd x i v) := by
  obtain ⟨c, hR, h0, h, hx⟩ := r.row
  have := r.big
  refine ⟨⟨_, hR.set_ _, ?_, fun j hj => ?_, fun j h1 h2 => by unfold upd; split; rfl; exact hx j h1 h2⟩, r.big⟩
  · unfold upd; rw [if_neg (by omega)]; exact h0
  · obtain ⟨h1, h2, h3, h4⟩ := h j hj
    unfold upd
    exact ⟨by rw [if_neg (by omega)]; exact h1, by rw [if_neg (by omega)]; exact h2, by rw [if_neg (by omega)]; exact h3, by rw [if_neg (by omega)]; exact h4⟩
theorem rmap_ne {P : PoolM} {m : Nat} (r : RPoolRep w m P) (s : RMRep w g T N p M x) (hT : T ≠ 59) : g ≠ m := by
  obtain ⟨_, hM, _⟩ := r.row
  obtain ⟨_, hG, _⟩ := s.row
  exact hG.ne_ hM hT
/-- What an act on a map may change: the pool's block, the map's. -/
def ownR (m g : Nat) : Nat → Prop := fun k => k = m ∨ k = g
theorem Upd.mR {m : Nat} (u : Upd (at1 m) w w') : Upd (ownR m g) w w' := u.mono fun _ _ h => .inl h
theorem Upd.gR {m : Nat} (u : Upd (at1 g) w w') : Upd (ownR m g) w w' := u.mono fun _ _ h => .inr h
end

set_option maxHeartbeats 400000 in
theorem ron_any (w : World) (n : Int) : Calls Tryz.prog 49 #[.int .i64 n] w fun e w' => e = .returned (.bool (onB n)) ∧ w = w' := by
  by_cases h0 : 0 ≤ n
  · by_cases h1 : n < 16
    · have F := Lib.hid (show onB n = true by simp [onB, h0, h1])
      go_enter Tryz.func49, Tryz.ntmps49
      go_wp2
      go_ret
      exact ⟨by rw [F.out]; rfl, rfl⟩
    · have F := Lib.hid (show onB n = false by simp [onB]; omega)
      go_enter Tryz.func49, Tryz.ntmps49
      go_wp2
      go_ret
      exact ⟨by rw [F.out]; rfl, rfl⟩
  · have F := Lib.hid (show onB n = false by simp [onB]; omega)
    go_enter Tryz.func49, Tryz.ntmps49
    go_wp2
    go_ret
    exact ⟨by rw [F.out]; rfl, rfl⟩

end U
end Go.Proofs.YtnhplapcdgnaaaaGreat

set_option linter.unusedVariables false
set_option linter.unusedSimpArgs false
namespace Go.Proofs.YtnhplapcdgnaaaaGreat
open Go.RowKit
namespace U

def rturnP (P : PoolM) (M : MapM) (n : Nat) (to : Int) : PoolM := if (M.leaf n).there && to != 1 then letP P M n else P
def rturnM (M : MapM) (n : Nat) (to : Int) : MapM := if (M.leaf n).there && to != 1 then (M.setLeaf n LeafM.none).setState n to else M.setState n to

theorem RPoolRep.keepR3 {w : World} {m g : Nat} {P : PoolM} (r : RPoolRep w m P) (h : g ≠ m) (i j q : Nat) (x y z : Value) :
    RPoolRep (((w.setCell ⟨g, i, none⟩ x).setCell ⟨g, j, none⟩ y).setCell ⟨g, q, none⟩ z) m P :=
  r.upd_ (S := at1 g) (Upd.sc3 (Upd.refl _ _) at1_self _ _ _ _ _ _) (fun e => h e.symm)
theorem RPoolRep.keepR1 {w : World} {m g : Nat} {P : PoolM} (r : RPoolRep w m P) (h : g ≠ m) (i : Nat) (x : Value) : RPoolRep (w.setCell ⟨g, i, none⟩ x) m P :=
  r.upd_ (S := at1 g) ((Upd.refl _ _).setCell (p := ⟨g, i, none⟩) (fun _ => at1_self) _) (fun e => h e.symm)

section
variable {T N : Nat} {m : Nat}
set_option maxRecDepth 100000 in
set_option maxHeartbeats 2000000 in
theorem rturn_any (hT : T ≠ 59) (w : World) (P : PoolM) (g : Nat) (M : MapM) (x : Nat → Value) (rp : RPoolRep w m P) (r : RMRep w g T N m M x) (k : Nat) (hk : k < 16) (to : Int) :
    Calls Tryz.prog 107 #[.pointer (some ⟨g, 0, none⟩), .int .i64 k, .int .i64 to] w fun e w' => e = .returned (.tuple #[]) ∧ RPoolRep w' m (rturnP P M k to) ∧ RMRep w' g T N m (rturnM M k to) x ∧ Upd (ownR m g) w w' := by
  have hne := rmap_ne rp r hT
  have cp := r.c0
  have c0 := r.l0 hk
  have c1 := r.l1 hk
  have c2 := r.l2 hk
  have cs := r.st hk
  have fs := r.fr (1 + k)
  cases ht : (M.leaf k).there with
  | false =>
    have F1 := Lib.hid (show rturnP P M k to = P by unfold rturnP; rw [ht]; rfl)
    have F2 := Lib.hid (show rturnM M k to = M.setState k to by unfold rturnM; rw [ht]; rfl)
    rw [ht] at c0
    clear ht
    go_enter Tryz.func107, Tryz.ntmps107
    go_wp2
    go_end0
    exact ⟨rfl, by rw [F1.out]; exact rp.keepR1 hne _ _, by rw [F2.out]; exact r.setState hk, (Upd.refl (ownR m g) w).setCell (p := ⟨g, 1 + k, none⟩) (fun _ => .inr rfl) _⟩
  | true =>
    rw [ht] at c0
    by_cases h1 : to = 1
    · have h1' : (to != 1) = false := by simpa using h1
      have F1 := Lib.hid (show rturnP P M k to = P by unfold rturnP; rw [h1']; simp)
      have F2 := Lib.hid (show rturnM M k to = M.setState k to by unfold rturnM; rw [h1']; simp)
      clear ht h1
      go_enter Tryz.func107, Tryz.ntmps107
      go_wp2
      go_end0
      exact ⟨rfl, by rw [F1.out]; exact rp.keepR1 hne _ _, by rw [F2.out]; exact r.setState hk, (Upd.refl (ownR m g) w).setCell (p := ⟨g, 1 + k, none⟩) (fun _ => .inr rfl) _⟩
    · have h1' : (to != 1) = true := by simpa using h1
      have F1 := Lib.hid (show rturnP P M k to = (P.share (M.leaf k).frame (-1)).1 by unfold rturnP letP; rw [h1', ht]; simp)
      have F2 := Lib.hid (show rturnM M k to = (M.setLeaf k LeafM.none).setState k to by unfold rturnM; rw [h1', ht]; simp)
      clear ht h1
      go_enter Tryz.func107, Tryz.ntmps107
      go_wp2
      go_region_with (go_at_call 111; refine (rshare_any _ m P (by repeat (first | assumption | apply RPoolRep.alloc | apply RPoolRep.drew | apply RPoolRep.drewN)) _ _).mono ?_; rintro e w2 ⟨rfl, r2, u2⟩; have m2 := RMRep.upd_ (by repeat (first | assumption | apply RMRep.drew | apply RMRep.drewN) : RMRep _ g T N m M x) u2 (fun h => hne h); have g0 := m2.fr (17 + k * 3); have g1 := m2.fr (17 + k * 3 + 1); have g2 := m2.fr (17 + k * 3 + 2); have g3 := m2.fr (1 + k); have d0 := m2.l0 hk; have d1 := m2.l1 hk; have d2 := m2.l2 hk; have d3 := m2.st hk)
      all_goals go_wp2
      all_goals go_end0
      all_goals exact ⟨rfl, by rw [F1.out]; exact (r2.keepR3 hne _ _ _ _ _ _).keepR1 hne _ _, by rw [F2.out]; exact (m2.setLeaf (l := LeafM.none) hk).setState hk, ((((Upd.refl _ w).drew).trans u2.mR).sc3 (S := ownR m g) (.inr rfl) _ _ _ _ _ _).setCell (p := ⟨g, 1 + k, none⟩) (fun _ => .inr rfl) _⟩

/-- What an act answers, and what it leaves. -/
def RMPost (w : World) (m g T N : Nat) (x : Nat → Value) (y : PoolM × MapM × Nat) (e : Ending) (w' : World) : Prop :=
  e = .returned (.int .i64 y.2.2) ∧ RPoolRep w' m y.1 ∧ RMRep w' g T N m y.2.1 x ∧ Upd (ownR m g) w w'

set_option maxRecDepth 100000 in
set_option maxHeartbeats 1000000 in
theorem rplug_any (hT : T ≠ 59) (w : World) (P : PoolM) (g : Nat) (M : MapM) (x : Nat → Value) (rp : RPoolRep w m P) (r : RMRep w g T N m M x) (n : Int) :
    Calls Tryz.prog 76 #[.pointer (some ⟨g, 0, none⟩), .int .i64 n] w (RMPost w m g T N x (P, (mplug M n).1, (mplug M n).2)) := by
  by_cases ho : onB n = true
  · have hn := onB_iff.1 ho
    obtain ⟨k, rfl⟩ := Int.eq_ofNat_of_zero_le hn.1
    have hk : k < 16 := by omega
    have c1 := r.st hk
    by_cases h0 : M.state k = 0
    · have h0' : (M.state k != 0) = false := by simp [h0]
      have F := Lib.hid (show mplug M k = (M.setState k 1, 0) by unfold mplug; rw [if_pos ho]; simp [h0])
      have F1 := Lib.hid (show rturnP P M k 1 = P by unfold rturnP; simp)
      have F2 := Lib.hid (show rturnM M k 1 = M.setState k 1 by unfold rturnM; simp)
      clear h0 hn
      go_enter Tryz.func76, Tryz.ntmps76
      go_wp2_with (first
        | (go_at_call 49; refine (ron_any _ _).mono ?_; rintro e w' ⟨rfl, rfl⟩)
        | (go_at_call 107; refine (rturn_any hT _ P g M x rp r k hk 1).mono ?_; rw [F1.out, F2.out]; rintro e w2 ⟨rfl, h1, h2, h3⟩))
      go_ret
      exact ⟨by rw [F.out]; rfl, h1, by rw [F.out]; exact h2, h3⟩
    · have h0' : (M.state k != 0) = true := by simpa using h0
      have F := Lib.hid (show mplug M k = (M, 4) by unfold mplug; rw [if_pos ho]; simp [h0])
      clear h0 hn
      go_enter Tryz.func76, Tryz.ntmps76
      go_wp2_with (go_at_call 49; refine (ron_any _ _).mono ?_; rintro e w' ⟨rfl, rfl⟩)
      go_ret
      exact ⟨by rw [F.out]; rfl, rp, by rw [F.out]; exact r, Upd.refl _ _⟩
  · have ho' : onB n = false := by simpa using ho
    have F := Lib.hid (show mplug M n = (M, 1) by unfold mplug; rw [if_neg ho])
    go_enter Tryz.func76, Tryz.ntmps76
    go_wp2_with (go_at_call 49; refine (ron_any _ _).mono ?_; rintro e w' ⟨rfl, rfl⟩)
    go_ret
    exact ⟨by rw [F.out]; rfl, rp, by rw [F.out]; exact r, Upd.refl _ _⟩

theorem setLeaf_id {M : MapM} {n : Nat} (h : M.leaf n = LeafM.none) : M.setLeaf n LeafM.none = M := by
  unfold MapM.setLeaf
  have : (fun i => if i = n then LeafM.none else M.leaf i) = M.leaf := by funext i; by_cases e : i = n <;> simp [e, h]
  rw [this]
/-- A turn to a state that is not plain: the page lets go. -/
theorem rturn_let {P : PoolM} {M : MapM} {n : Nat} {to : Int} (h : (M.leaf n).there = false → M.leaf n = LeafM.none) (ht : to ≠ 1) :
    rturnP P M n to = letP P M n ∧ rturnM M n to = (M.setLeaf n LeafM.none).setState n to := by
  have h1 : (to != 1) = true := by simpa using ht
  unfold rturnP rturnM
  rw [h1]
  cases e : (M.leaf n).there with
  | true => exact ⟨rfl, rfl⟩
  | false =>
    refine ⟨?_, ?_⟩
    · unfold letP; rw [e]; rfl
    · rw [setLeaf_id (h e)]; rfl

set_option maxRecDepth 100000 in
set_option maxHeartbeats 1000000 in
theorem runplug_any (hT : T ≠ 59) (w : World) (P : PoolM) (g : Nat) (M : MapM) (x : Nat → Value) (rp : RPoolRep w m P) (r : RMRep w g T N m M x) (hM : ∀ i, i < 16 → (M.leaf i).there = false → M.leaf i = LeafM.none) (n : Int) :
    Calls Tryz.prog 75 #[.pointer (some ⟨g, 0, none⟩), .int .i64 n] w (RMPost w m g T N x (munplug P M n)) := by
  by_cases ho : onB n = true
  · have hn := onB_iff.1 ho
    obtain ⟨k, rfl⟩ := Int.eq_ofNat_of_zero_le hn.1
    have hk : k < 16 := by omega
    have c1 := r.st hk
    by_cases h0 : M.state k = 0
    · have h0' : (M.state k == 0) = true := by simp [h0]
      have F := Lib.hid (show munplug P M k = (P, M, 2) by unfold munplug; rw [if_pos ho]; simp [h0])
      clear h0 hn
      go_enter Tryz.func75, Tryz.ntmps75
      go_wp2_with (go_at_call 49; refine (ron_any _ _).mono ?_; rintro e w' ⟨rfl, rfl⟩)
      go_ret
      rw [F.out]
      exact ⟨rfl, rp, r, Upd.refl _ _⟩
    · have h0' : (M.state k == 0) = false := by simpa using h0
      have F := Lib.hid (show munplug P M k = (letP P M k, (M.setLeaf k LeafM.none).setState k 0, 0) by unfold munplug; rw [if_pos ho]; simp [h0])
      have F1 := Lib.hid (rturn_let (P := P) (to := 0) (hM k hk) (by decide))
      clear h0 hn hM
      go_enter Tryz.func75, Tryz.ntmps75
      go_wp2_with (first
        | (go_at_call 49; refine (ron_any _ _).mono ?_; rintro e w' ⟨rfl, rfl⟩)
        | (go_at_call 107; refine (rturn_any hT _ P g M x rp r k hk 0).mono ?_; rw [F1.out.1, F1.out.2]; rintro e w2 ⟨rfl, h1, h2, h3⟩))
      go_ret
      rw [F.out]
      exact ⟨rfl, h1, h2, h3⟩
  · have ho' : onB n = false := by simpa using ho
    have F := Lib.hid (show munplug P M n = (P, M, 1) by unfold munplug; rw [if_neg ho])
    clear hM
    go_enter Tryz.func75, Tryz.ntmps75
    go_wp2_with (go_at_call 49; refine (ron_any _ _).mono ?_; rintro e w' ⟨rfl, rfl⟩)
    go_ret
    rw [F.out]
    exact ⟨rfl, rp, r, Upd.refl _ _⟩

set_option maxRecDepth 100000 in
set_option maxHeartbeats 1000000 in
theorem rgive_any (hT : T ≠ 59) (w : World) (P : PoolM) (g : Nat) (M : MapM) (x : Nat → Value) (rp : RPoolRep w m P) (r : RMRep w g T N m M x) (hM : ∀ i, i < 16 → (M.leaf i).there = false → M.leaf i = LeafM.none) (n : Int) :
    Calls Tryz.prog 78 #[.pointer (some ⟨g, 0, none⟩), .int .i64 n, .bool false] w (RMPost w m g T N x (mgive P M n)) := by
  by_cases ho : onB n = true
  · have hn := onB_iff.1 ho
    obtain ⟨k, rfl⟩ := Int.eq_ofNat_of_zero_le hn.1
    have hk : k < 16 := by omega
    have c1 := r.st hk
    by_cases h0 : M.state k = 1
    · have h0' : (M.state k == 1) = true := by simp [h0]
      have F := Lib.hid (show mgive P M k = (letP P M k, (M.setLeaf k LeafM.none).setState k 2, 0) by unfold mgive; rw [if_pos ho]; simp [h0])
      have F1 := Lib.hid (rturn_let (P := P) (to := 2) (hM k hk) (by decide))
      clear h0 hn hM
      go_enter Tryz.func78, Tryz.ntmps78
      go_wp2_with (first
        | (go_at_call 49; refine (ron_any _ _).mono ?_; rintro e w' ⟨rfl, rfl⟩)
        | (go_at_call 107; refine (rturn_any hT _ P g M x rp r k hk 2).mono ?_; rw [F1.out.1, F1.out.2]; rintro e w2 ⟨rfl, h1, h2, h3⟩))
      go_ret
      rw [F.out]
      exact ⟨rfl, h1, h2, h3⟩
    · have h0' : (M.state k == 1) = false := by simpa using h0
      have F := Lib.hid (show mgive P M k = (P, M, 8) by unfold mgive; rw [if_pos ho]; simp [h0])
      clear h0 hn hM
      go_enter Tryz.func78, Tryz.ntmps78
      go_wp2_with (go_at_call 49; refine (ron_any _ _).mono ?_; rintro e w' ⟨rfl, rfl⟩)
      go_ret
      rw [F.out]
      exact ⟨rfl, rp, r, Upd.refl _ _⟩
  · have ho' : onB n = false := by simpa using ho
    have F := Lib.hid (show mgive P M n = (P, M, 1) by unfold mgive; rw [if_neg ho])
    clear hM
    go_enter Tryz.func78, Tryz.ntmps78
    go_wp2_with (go_at_call 49; refine (ron_any _ _).mono ?_; rintro e w' ⟨rfl, rfl⟩)
    go_ret
    rw [F.out]
    exact ⟨rfl, rp, r, Upd.refl _ _⟩

set_option maxRecDepth 100000 in
set_option maxHeartbeats 1000000 in
theorem rback_any (hT : T ≠ 59) (w : World) (P : PoolM) (g : Nat) (M : MapM) (x : Nat → Value) (rp : RPoolRep w m P) (r : RMRep w g T N m M x) (n : Int) :
    Calls Tryz.prog 78 #[.pointer (some ⟨g, 0, none⟩), .int .i64 n, .bool true] w (RMPost w m g T N x (P, (mback M n).1, (mback M n).2)) := by
  by_cases ho : onB n = true
  · have hn := onB_iff.1 ho
    obtain ⟨k, rfl⟩ := Int.eq_ofNat_of_zero_le hn.1
    have hk : k < 16 := by omega
    have c1 := r.st hk
    by_cases h0 : M.state k = 2
    · have h0' : (M.state k == 2) = true := by simp [h0]
      have F := Lib.hid (show mback M k = (M.setState k 1, 0) by unfold mback; rw [if_pos ho]; simp [h0])
      have F1 := Lib.hid (show rturnP P M k 1 = P by unfold rturnP; simp)
      have F2 := Lib.hid (show rturnM M k 1 = M.setState k 1 by unfold rturnM; simp)
      clear h0 hn
      go_enter Tryz.func78, Tryz.ntmps78
      go_wp2_with (first
        | (go_at_call 49; refine (ron_any _ _).mono ?_; rintro e w' ⟨rfl, rfl⟩)
        | (go_at_call 107; refine (rturn_any hT _ P g M x rp r k hk 1).mono ?_; rw [F1.out, F2.out]; rintro e w2 ⟨rfl, h1, h2, h3⟩))
      go_ret
      rw [F.out]
      exact ⟨rfl, h1, h2, h3⟩
    · have h0' : (M.state k == 2) = false := by simpa using h0
      have F := Lib.hid (show mback M k = (M, 8) by unfold mback; rw [if_pos ho]; simp [h0])
      clear h0 hn
      go_enter Tryz.func78, Tryz.ntmps78
      go_wp2_with (go_at_call 49; refine (ron_any _ _).mono ?_; rintro e w' ⟨rfl, rfl⟩)
      go_ret
      rw [F.out]
      exact ⟨rfl, rp, r, Upd.refl _ _⟩
  · have ho' : onB n = false := by simpa using ho
    have F := Lib.hid (show mback M n = (M, 1) by unfold mback; rw [if_neg ho])
    go_enter Tryz.func78, Tryz.ntmps78
    go_wp2_with (go_at_call 49; refine (ron_any _ _).mono ?_; rintro e w' ⟨rfl, rfl⟩)
    go_ret
    rw [F.out]
    exact ⟨rfl, rp, r, Upd.refl _ _⟩

set_option maxRecDepth 100000 in
set_option maxHeartbeats 1000000 in
theorem rseal_any (hT : T ≠ 59) (w : World) (P : PoolM) (g : Nat) (M : MapM) (x : Nat → Value) (rp : RPoolRep w m P) (r : RMRep w g T N m M x) (n : Int) :
    Calls Tryz.prog 81 #[.pointer (some ⟨g, 0, none⟩), .int .i64 n] w (RMPost w m g T N x (P, (mseal M n).1, (mseal M n).2)) := by
  have hne := rmap_ne rp r hT
  by_cases ho : onB n = true
  · have hn := onB_iff.1 ho
    obtain ⟨k, rfl⟩ := Int.eq_ofNat_of_zero_le hn.1
    have hk : k < 16 := by omega
    have c0 := r.l0 hk
    have c1 := r.l1 hk
    have f1 := r.fr (17 + k * 3 + 1)
    by_cases h0 : (M.leaf k).there = true
    · have F := Lib.hid (show mseal M k = (M.setLeaf k { M.leaf k with write := false }, 0) by unfold mseal; rw [if_pos ho]; simp [h0])
      clear hn
      go_enter Tryz.func81, Tryz.ntmps81
      go_wp2_with (go_at_call 49; refine (ron_any _ _).mono ?_; rintro e w' ⟨rfl, rfl⟩)
      go_ret
      rw [F.out]
      exact ⟨rfl, rp.keepR1 hne _ _, r.setWrite hk, (Upd.refl (ownR m g) w).setCell (p := ⟨g, 17 + k * 3 + 1, none⟩) (fun _ => .inr rfl) _⟩
    · have h0' : (M.leaf k).there = false := by simpa using h0
      have F := Lib.hid (show mseal M k = (M, 8) by unfold mseal; rw [if_pos ho]; simp [h0'])
      clear hn h0
      go_enter Tryz.func81, Tryz.ntmps81
      go_wp2_with (go_at_call 49; refine (ron_any _ _).mono ?_; rintro e w' ⟨rfl, rfl⟩)
      go_ret
      rw [F.out]
      exact ⟨rfl, rp, r, Upd.refl _ _⟩
  · have ho' : onB n = false := by simpa using ho
    have F := Lib.hid (show mseal M n = (M, 1) by unfold mseal; rw [if_neg ho])
    go_enter Tryz.func81, Tryz.ntmps81
    go_wp2_with (go_at_call 49; refine (ron_any _ _).mono ?_; rintro e w' ⟨rfl, rfl⟩)
    go_ret
    rw [F.out]
    exact ⟨rfl, rp, r, Upd.refl _ _⟩
end

end U
end Go.Proofs.YtnhplapcdgnaaaaGreat

set_option linter.unusedVariables false
set_option linter.unusedSimpArgs false
namespace Go.Proofs.YtnhplapcdgnaaaaGreat
open Go.RowKit
namespace U

def RTPost (w : World) (m g T N : Nat) (x : Nat → Value) (y : PoolM × MapM × Int × Bool × Nat) (e : Ending) (w' : World) : Prop :=
  e = .returned (.tuple #[.int .i64 y.2.2.1, .bool y.2.2.2.1, .int .i64 y.2.2.2.2]) ∧ RPoolRep w' m y.1 ∧ RMRep w' g T N m y.2.1 x ∧ Upd (ownR m g) w w'
theorem one_is {P : PoolM} {f : Int} (h : P.used f = true) : P.one f = (P.refs f.toNat == 1) := by
  have h1 := used_cast.1 h
  unfold PoolM.one PoolM.of
  rw [if_neg (by omega)]
  simp

section
variable {T N m : Nat}
set_option maxRecDepth 100000 in
set_option maxHeartbeats 1000000 in
theorem rtouch_off (w : World) (P : PoolM) (g : Nat) (M : MapM) (x : Nat → Value) (rp : RPoolRep w m P) (r : RMRep w g T N m M x) (n : Int) (wr : Bool) (ho : onB n = false) :
    Calls Tryz.prog 113 #[.pointer (some ⟨g, 0, none⟩), .int .i64 n, .bool wr] w (RTPost w m g T N x (P, M, 0, false, 1)) := by
  go_enter Tryz.func113, Tryz.ntmps113
  go_wp2_with (go_at_call 49; refine (ron_any _ _).mono ?_; rintro e w' ⟨rfl, rfl⟩)
  go_ret3
  exact ⟨rfl, rp, r, Upd.refl _ _⟩
set_option maxRecDepth 100000 in
set_option maxHeartbeats 1000000 in
theorem rtouch_absent (w : World) (P : PoolM) (g : Nat) (M : MapM) (x : Nat → Value) (rp : RPoolRep w m P) (r : RMRep w g T N m M x) (k : Nat) (hk : k < 16) (wr : Bool) (s0 : M.state k = 0) :
    Calls Tryz.prog 113 #[.pointer (some ⟨g, 0, none⟩), .int .i64 k, .bool wr] w (RTPost w m g T N x (P, M, 0, false, 2)) := by
  have ho' : onB k = true := onB_iff.2 ⟨by omega, by omega⟩
  have c1 := r.st hk
  rw [s0] at c1
  clear s0
  go_enter Tryz.func113, Tryz.ntmps113
  go_wp2_with (go_at_call 49; refine (ron_any _ _).mono ?_; rintro e w' ⟨rfl, rfl⟩)
  go_ret3
  exact ⟨rfl, rp, r, Upd.refl _ _⟩
set_option maxRecDepth 100000 in
set_option maxHeartbeats 1000000 in
theorem rtouch_given (w : World) (P : PoolM) (g : Nat) (M : MapM) (x : Nat → Value) (rp : RPoolRep w m P) (r : RMRep w g T N m M x) (k : Nat) (hk : k < 16) (wr : Bool) (s2 : M.state k = 2) :
    Calls Tryz.prog 113 #[.pointer (some ⟨g, 0, none⟩), .int .i64 k, .bool wr] w (RTPost w m g T N x (P, M, 0, false, 6)) := by
  have ho' : onB k = true := onB_iff.2 ⟨by omega, by omega⟩
  have c1 := r.st hk
  rw [s2] at c1
  clear s2
  go_enter Tryz.func113, Tryz.ntmps113
  go_wp2_with (go_at_call 49; refine (ron_any _ _).mono ?_; rintro e w' ⟨rfl, rfl⟩)
  go_ret3
  exact ⟨rfl, rp, r, Upd.refl _ _⟩
set_option maxRecDepth 100000 in
set_option maxHeartbeats 1000000 in
theorem rtouch_stay (w : World) (P : PoolM) (g : Nat) (M : MapM) (x : Nat → Value) (rp : RPoolRep w m P) (r : RMRep w g T N m M x) (k : Nat) (hk : k < 16) (wr : Bool) (s1 : M.state k = 1) (ht : (M.leaf k).there = true) (hw : (M.leaf k).write = true ∨ wr = false) :
    Calls Tryz.prog 113 #[.pointer (some ⟨g, 0, none⟩), .int .i64 k, .bool wr] w (RTPost w m g T N x (P, M, (M.leaf k).frame, false, 0)) := by
  have ho' : onB k = true := onB_iff.2 ⟨by omega, by omega⟩
  have c1 := r.st hk
  have c2 := r.l0 hk
  have c3 := r.l1 hk
  have c4 := r.l2 hk
  have lg := r.lt
  rw [s1] at c1
  rw [ht] at c2
  clear s1 ht
  cases wr with
  | false =>
    clear hw
    go_enter Tryz.func113, Tryz.ntmps113
    go_wp2_with (go_at_call 49; refine (ron_any _ _).mono ?_; rintro e w' ⟨rfl, rfl⟩)
    go_ret3
    exact ⟨rfl, rp.alloc _, r.alloc _, (Upd.refl _ _).alloc _⟩
  | true =>
    have hw' : (M.leaf k).write = true := by simpa using hw
    rw [hw'] at c3
    clear hw hw'
    go_enter Tryz.func113, Tryz.ntmps113
    go_wp2_with (go_at_call 49; refine (ron_any _ _).mono ?_; rintro e w' ⟨rfl, rfl⟩)
    go_ret3
    exact ⟨rfl, rp.alloc _, r.alloc _, (Upd.refl _ _).alloc _⟩
set_option maxRecDepth 100000 in
set_option maxHeartbeats 1000000 in
theorem rtouch_one (hT : T ≠ 59) (w : World) (P : PoolM) (g : Nat) (M : MapM) (x : Nat → Value) (rp : RPoolRep w m P) (r : RMRep w g T N m M x) (k : Nat) (hk : k < 16) (s1 : M.state k = 1) (ht : (M.leaf k).there = true) (hw : (M.leaf k).write = false)
    (f : Nat) (hf : (M.leaf k).frame = f) (hfn : f < P.n) (h1 : P.refs f = 1) :
    Calls Tryz.prog 113 #[.pointer (some ⟨g, 0, none⟩), .int .i64 k, .bool true] w (RTPost w m g T N x (P, M.setLeaf k { M.leaf k with write := true }, (M.leaf k).frame, false, 0)) := by
  have ho' : onB k = true := onB_iff.2 ⟨by omega, by omega⟩
  have hne := rmap_ne rp r hT
  have c0 := r.c0
  have c1 := r.st hk
  have c2 := r.l0 hk
  have c3 := r.l1 hk
  have c4 := r.l2 hk
  have lg := r.lt
  have lm := rp.lt
  have n64 := rp.n64
  have cr := rp.ref hfn
  have fw := r.fr (17 + k * 3 + 1)
  rw [s1] at c1
  rw [ht] at c2
  rw [hw] at c3
  rw [hf] at c4
  rw [h1] at cr
  have hbox : g ≠ w.heap.size := by omega
  have HF := Lib.hid hf
  clear s1 ht hw h1 hf
  go_enter Tryz.func113, Tryz.ntmps113
  go_wp2_with (go_at_call 49; refine (ron_any _ _).mono ?_; rintro e w' ⟨rfl, rfl⟩)
  go_quiet (fail)
  go_wp2
  go_ret3
  exact ⟨by show _ = Ending.returned (.tuple #[.int .i64 (M.leaf k).frame, .bool false, .int .i64 0]); rw [HF.out]; rfl, ((rp.alloc _).keepR1 hne _ _).drewN _, ((r.alloc _).setWrite hk).drewN _, ((((Upd.refl _ _).alloc _).setCell (p := ⟨g, 17 + k * 3 + 1, none⟩) (fun _ => .inr rfl) _).drewN _)⟩
set_option maxRecDepth 100000 in
set_option maxHeartbeats 1000000 in
theorem rtouch_new_full (hT : T ≠ 59) (w : World) (P : PoolM) (g : Nat) (M : MapM) (x : Nat → Value) (rp : RPoolRep w m P) (r : RMRep w g T N m M x) (k : Nat) (hk : k < 16) (wr : Bool) (s1 : M.state k = 1) (ht : (M.leaf k).there = false) (hf : P.free = none) :
    Calls Tryz.prog 113 #[.pointer (some ⟨g, 0, none⟩), .int .i64 k, .bool wr] w (RTPost w m g T N x (P, M, 0, false, 3)) := by
  have ho' : onB k = true := onB_iff.2 ⟨by omega, by omega⟩
  have c0 := r.c0
  have c1 := r.st hk
  have c2 := r.l0 hk
  have c3 := r.l1 hk
  have c4 := r.l2 hk
  have lg := r.lt
  rw [s1] at c1
  rw [ht] at c2
  have HT := Lib.hid (take_none hf)
  have hne := rmap_ne rp r hT
  clear s1 ht hf
  go_enter Tryz.func113, Tryz.ntmps113
  go_wp2_with (first
    | (go_at_call 49; refine (ron_any _ _).mono ?_; rintro e w' ⟨rfl, rfl⟩)
    | (go_at_call 126; refine (rtake_any _ m P (rp.alloc _)).mono ?_; rw [HT.out]; rintro e w2 ⟨rfl, r2, u2⟩))
  go_ret3
  exact ⟨rfl, r2, (r.alloc _).upd_ u2 hne, ((Upd.refl _ _).alloc _).trans u2.mR⟩
set_option maxRecDepth 100000 in
set_option maxHeartbeats 2000000 in
theorem rtouch_new (hT : T ≠ 59) (w : World) (P : PoolM) (g : Nat) (M : MapM) (x : Nat → Value) (rp : RPoolRep w m P) (r : RMRep w g T N m M x) (k : Nat) (hk : k < 16) (wr : Bool) (s1 : M.state k = 1) (ht : (M.leaf k).there = false) (f : Nat) (hf : P.free = some f) :
    Calls Tryz.prog 113 #[.pointer (some ⟨g, 0, none⟩), .int .i64 k, .bool wr] w (RTPost w m g T N x (P.take.1, M.setLeaf k ⟨true, true, f⟩, f, false, 0)) := by
  have ho' : onB k = true := onB_iff.2 ⟨by omega, by omega⟩
  have hne := rmap_ne rp r hT
  have c0 := r.c0
  have c1 := r.st hk
  have c2 := r.l0 hk
  have c3 := r.l1 hk
  have c4 := r.l2 hk
  have lg := r.lt
  have lm := rp.lt
  rw [s1] at c1
  rw [ht] at c2
  have HT := Lib.hid (take_some hf)
  clear s1 ht hf
  go_enter Tryz.func113, Tryz.ntmps113
  go_wp2_with (first
    | (go_at_call 49; refine (ron_any _ _).mono ?_; rintro e w' ⟨rfl, rfl⟩)
    | (go_at_call 126; refine (rtake_any _ m P (rp.alloc _)).mono ?_; rw [HT.out.1, HT.out.2]; rintro e w2 ⟨rfl, r2, u2⟩; have q2 := (r.alloc (.cells #[.bool false, .bool (M.leaf k).write, .int .i64 (M.leaf k).frame] 88)).upd_ u2 hne; have d0 := q2.l0 hk; have d1 := q2.l1 hk; have d2 := q2.l2 hk; have f0 := q2.fr (17 + k * 3); have f1 := q2.fr (17 + k * 3 + 1); have f2 := q2.fr (17 + k * 3 + 2); have bx := (u2.block w.heap.size (by simp) (by unfold at1; omega)).trans (heap_alloc_new w _); have b0 := cell_of_row w2 w.heap.size 0 _ _ _ bx; simp at b0; have lb2 := heap_lt bx))
  go_quiet (fail)
  go_wp2
  go_ret3
  exact ⟨rfl, (r2.keepR3 hne _ _ _ _ _ _).drewN _, (q2.setLeaf (l := ⟨true, true, f⟩) hk).drewN _, ((((Upd.refl _ _).alloc _).trans u2.mR).sc3 (S := ownR m g) (.inr rfl) _ _ _ _ _ _).drewN _⟩
/-- What stands while a page moves. -/
structure RMv (w W : World) (m g T N : Nat) (M : MapM) (x : Nat → Value) (k : Nat) (P : PoolM) : Prop where
  rp : RPoolRep W m P
  mr : RMRep W g T N m M x
  bx : W.heap[w.heap.size]? = some (.cells #[.bool (M.leaf k).there, .bool (M.leaf k).write, .int .i64 (M.leaf k).frame] 88 (0, 0))
  up : Upd (ownR m g) w W
theorem RMv.drewN {w W : World} {g : Nat} {M : MapM} {x : Nat → Value} {k : Nat} {P : PoolM} (t : RMv w W m g T N M x k P) (n : Nat) : RMv w (W.drewN n) m g T N M x k P := ⟨t.rp.drewN n, t.mr.drewN n, t.bx, t.up.drewN n⟩
theorem RMv.drew {w W : World} {g : Nat} {M : MapM} {x : Nat → Value} {k : Nat} {P : PoolM} (t : RMv w W m g T N M x k P) : RMv w W.drew m g T N M x k P := t.drewN 1
theorem RMv.step {w W W' : World} {g : Nat} {M : MapM} {x : Nat → Value} {k : Nat} {P P' : PoolM} (t : RMv w W m g T N M x k P) (h1 : g ≠ m) (h2 : w.heap.size ≠ m) (r : RPoolRep W' m P') (u : Upd (at1 m) W W') : RMv w W' m g T N M x k P' :=
  ⟨r, t.mr.upd_ u h1, (u.block _ (heap_lt t.bx) h2).trans t.bx, t.up.trans u.mR⟩
theorem RMv.b0 {w W : World} {g : Nat} {M : MapM} {x : Nat → Value} {k : Nat} {P : PoolM} (t : RMv w W m g T N M x k P) : W.cell? ⟨w.heap.size, 0, none⟩ = some (.bool (M.leaf k).there) := by rw [cell_of_row _ _ 0 _ _ _ t.bx]; rfl
theorem RMv.b2 {w W : World} {g : Nat} {M : MapM} {x : Nat → Value} {k : Nat} {P : PoolM} (t : RMv w W m g T N M x k P) : W.cell? ⟨w.heap.size, 2, none⟩ = some (.int .i64 (M.leaf k).frame) := by rw [cell_of_row _ _ 2 _ _ _ t.bx]; rfl

set_option maxRecDepth 100000 in
set_option maxHeartbeats 2000000 in
theorem rtouch_move_full (hT : T ≠ 59) (w : World) (P : PoolM) (g : Nat) (M : MapM) (x : Nat → Value) (rp : RPoolRep w m P) (r : RMRep w g T N m M x) (k : Nat) (hk : k < 16) (s1 : M.state k = 1) (ht : (M.leaf k).there = true) (hw : (M.leaf k).write = false)
    (lf : Nat) (hf : (M.leaf k).frame = lf) (hfn : lf < P.n) (h1 : P.refs lf ≠ 1) (hfr : P.free = none) :
    Calls Tryz.prog 113 #[.pointer (some ⟨g, 0, none⟩), .int .i64 k, .bool true] w (RTPost w m g T N x (P, M, 0, false, 3)) := by
  have ho' : onB k = true := onB_iff.2 ⟨by omega, by omega⟩
  have hne := rmap_ne rp r hT
  have c0 := r.c0
  have c1 := r.st hk
  have c2 := r.l0 hk
  have c3 := r.l1 hk
  have c4 := r.l2 hk
  have lg := r.lt
  have lm := rp.lt
  have n64 := rp.n64
  have cr := rp.ref hfn
  have h1' : (P.refs lf == 1) = false := by simpa using h1
  rw [s1] at c1
  rw [ht] at c2
  rw [hw] at c3
  rw [hf] at c4
  have HT := Lib.hid (take_none hfr)
  clear s1 ht hw h1 hf hfr
  go_enter Tryz.func113, Tryz.ntmps113
  go_wp2_with (go_at_call 49; refine (ron_any _ _).mono ?_; rintro e w' ⟨rfl, rfl⟩)
  go_quiet (fail)
  go_wp2_with (go_at_call 126; refine (rtake_any _ m P ((rp.alloc _).drewN _)).mono ?_; rw [HT.out]; rintro e w2 ⟨rfl, r2, u2⟩)
  go_ret3
  exact ⟨rfl, r2, ((r.alloc _).drewN _).upd_ u2 hne, (((Upd.refl _ _).alloc _).drewN _).trans u2.mR⟩

set_option maxRecDepth 100000 in
set_option maxHeartbeats 4000000 in
theorem rtouch_move (hT : T ≠ 59) (w : World) (P : PoolM) (g : Nat) (M : MapM) (x : Nat → Value) (rp : RPoolRep w m P) (r : RMRep w g T N m M x) (k : Nat) (hk : k < 16) (s1 : M.state k = 1) (ht : (M.leaf k).there = true) (hw : (M.leaf k).write = false)
    (lf : Nat) (hf : (M.leaf k).frame = lf) (hfn : lf < P.n) (h1 : P.refs lf ≠ 1) (f : Nat) (hfr : P.free = some f) (hr0 : 0 < P.refs lf) (hr1 : P.refs lf ≤ 1000016) :
    Calls Tryz.prog 113 #[.pointer (some ⟨g, 0, none⟩), .int .i64 k, .bool true] w
      (RTPost w m g T N x ((((P.setRef f 1).setRow f fun _ => 0).setRow f (P.b lf)).setRef lf (P.refs lf - 1), M.setLeaf k ⟨true, true, f⟩, f, true, 0)) := by
  have ho' : onB k = true := onB_iff.2 ⟨by omega, by omega⟩
  have hne := rmap_ne rp r hT
  have c0 := r.c0
  have c1 := r.st hk
  have c2 := r.l0 hk
  have c3 := r.l1 hk
  have c4 := r.l2 hk
  have lg := r.lt
  have lm := rp.lt
  have n64 := rp.n64
  have cr := rp.ref hfn
  have h1' : (P.refs lf == 1) = false := by simpa using h1
  obtain ⟨f1, f2⟩ := free_is hfr
  have hlf : lf ≠ f := by rintro rfl; omega
  have J0 : RMv w (w.alloc (.cells #[.bool (M.leaf k).there, .bool (M.leaf k).write, .int .i64 (M.leaf k).frame] 88)) m g T N M x k P := ⟨rp.alloc _, r.alloc _, heap_alloc_new w _, (Upd.refl _ _).alloc _⟩
  rw [ht, hw, hf] at J0
  rw [s1] at c1
  rw [ht] at c2
  rw [hw] at c3
  rw [hf] at c4
  have HT := Lib.hid (take_some hfr)
  have HP := Lib.hid (take_is hfr)
  have HL := Lib.hid ht
  have HF := Lib.hid hf
  clear s1 ht hw h1 hf hfr
  go_enter Tryz.func113, Tryz.ntmps113
  go_wp2_with (go_at_call 49; refine (ron_any _ _).mono ?_; rintro e w' ⟨rfl, rfl⟩)
  go_quiet (fail)
  go_wp2_with (go_at_call 126; refine (rtake_any _ m P (by repeat (first | assumption | apply RMv.drew | apply RMv.drewN) : RMv w _ m g T N M x k _).rp).mono ?_; rw [HT.out.1, HT.out.2, HP.out]; rintro e w2 ⟨rfl, r2, u2⟩; have J2 := RMv.step (by repeat (first | assumption | apply RMv.drew | apply RMv.drewN) : RMv w _ m g T N M x k _) hne (by omega) r2 u2; have d0 := J2.mr.c0; have b0 := J2.b0; have b2 := J2.b2; rw [HL.out] at b0; rw [HF.out] at b2; have l2 := heap_lt J2.bx; have lm2 := J2.rp.lt; have lg2 := J2.mr.lt)
  have HB := Lib.hid (show ((P.setRef f 1).setRow f fun _ => 0).b lf = P.b lf by funext j; unfold PoolM.setRef PoolM.setRow; simp [hlf])
  have ld := J2.rp.drew.load16 (i := lf) (by exact hfn)
  rw [HB.out] at ld
  have st := J2.rp.drew.store16 (i := f) (by exact f1) (P.b lf)
  have J3 := RMv.step J2.drew hne (by omega) (J2.rp.drew.setRow (i := f) (by exact f1) (rowL_length (P.b lf)) (fun j hj => rowL_get _ hj)) (Upd.setCells (S := at1 m) (fun _ => at1_self) _ _ _ (Upd.refl _ _))
  have d3 := J3.mr.c0
  have b3 := J3.b2
  have b30 := J3.b0
  have l3 := heap_lt J3.bx
  rw [HF.out] at b3
  rw [HL.out] at b30
  have bj : (lf : Int) < 64 := by omega
  have bk : (f : Int) < 64 := by omega
  have bj' : lf < 64 := by omega
  have bk' : f < 64 := by omega
  refine wp_region_still_tail 18 (by kernel_rfl) (by kernel_rfl) ?_
  simp only [List.take_succ_cons, List.take_zero, List.drop_succ_cons, List.drop_zero]
  repeat (first | (refine still_load rfl 55 _ rfl _ _ rfl ld ?_) | still_step)
  refine wpStill_nil ?_
  go_wp2_with (refine wpl_store rfl 55 _ _ rfl _ _ rfl rfl st ?_)
  have HS := Lib.hid (show (PoolM.share (((P.setRef f 1).setRow f fun _ => 0).setRow f (P.b lf)) lf (-1)).1 = (((P.setRef f 1).setRow f fun _ => 0).setRow f (P.b lf)).setRef lf (P.refs lf - 1) by
    have hu : PoolM.used (((P.setRef f 1).setRow f fun _ => 0).setRow f (P.b lf)) lf = true := by
      rw [used_iff]; unfold PoolM.setRef PoolM.setRow; simp only [hlf, if_false]; exact ⟨hfn, hr0⟩
    unfold PoolM.share
    rw [if_pos hu]
    have e : (((P.setRef f 1).setRow f fun _ => 0).setRow f (P.b lf)).refs (lf : Int).toNat = P.refs lf := by
      rw [Int.toNat_natCast]; unfold PoolM.setRef PoolM.setRow; simp [hlf]
    rw [e, show wrap64 (P.refs lf + -1) = P.refs lf - 1 from by rw [IntWalk.wrap64_in _ ⟨by omega, by omega⟩]; omega, Int.toNat_natCast])
  have hwm : w.heap.size ≠ m := by omega
  generalize w2.drew.setCells m (1 + f * 16) (rowL (P.b lf)) = w3 at J3 d3 b3 b30 l3 ⊢
  generalize hQ : (((P.setRef f 1).setRow f fun _ => 0).setRow f (P.b lf)) = Q at J3 HS ⊢
  have HQ := Lib.hid hQ
  clear hQ st ld J2 d0 b0 b2 l2 r2 u2 lm2 lg2
  go_region_with (go_at_call 111; refine (rshare_any _ m _ (RMv.rp (by repeat (first | assumption | apply RMv.drew | apply RMv.drewN) : RMv w _ m g T N M x k _)) _ _).mono ?_; rintro e w4 ⟨rfl, r4, u4⟩; have J4 := RMv.step (by repeat (first | assumption | apply RMv.drew | apply RMv.drewN) : RMv w _ m g T N M x k _) hne hwm r4 u4; have e0 := J4.mr.l0 hk; have e1 := J4.mr.l1 hk; have e2 := J4.mr.l2 hk; have g0 := J4.mr.fr (17 + k * 3); have g1 := J4.mr.fr (17 + k * 3 + 1); have g2 := J4.mr.fr (17 + k * 3 + 2); have h0 := J4.b0; rw [HL.out] at h0; have l4 := heap_lt J4.bx)
  all_goals go_wp2
  all_goals go_quiet (fail)
  all_goals go_wp2
  all_goals go_ret3
  all_goals exact ⟨rfl, by show RPoolRep _ m ((((P.setRef f 1).setRow f fun _ => 0).setRow f (P.b lf)).setRef lf (P.refs lf - 1)); rw [HQ.out, ← HS.out]; exact (RPoolRep.keepR3 r4 hne _ _ _ _ _ _).drewN _, (J4.mr.setLeaf (l := ⟨true, true, f⟩) hk).drewN _, (J4.up.sc3 (S := ownR m g) (.inr rfl) _ _ _ _ _ _).drewN _⟩

/-- Touch, all cases. -/
theorem rtouch_any (hT : T ≠ 59) (w : World) (P : PoolM) (g : Nat) (M : MapM) (x : Nat → Value) {E : Nat → Nat} (hI : MInv P M E) (rp : RPoolRep w m P) (r : RMRep w g T N m M x) (n : Int) (wr : Bool) :
    Calls Tryz.prog 113 #[.pointer (some ⟨g, 0, none⟩), .int .i64 n, .bool wr] w (RTPost w m g T N x (mtouch P M n wr)) := by
  by_cases ho : onB n = true
  · obtain ⟨k, rfl⟩ := Int.eq_ofNat_of_zero_le (onB_iff.1 ho).1
    have hk : k < 16 := by have := (onB_iff.1 ho).2; omega
    have e0 : mtouch P M k wr = (if M.state k = 0 then (P, M, 0, false, 2) else
      if M.state k = 2 then (P, M, 0, false, 6) else
      if (M.leaf k).there && ((M.leaf k).write || !wr) then (P, M, (M.leaf k).frame, false, 0) else
      if (M.leaf k).there && P.one (M.leaf k).frame then (P, M.setLeaf k { M.leaf k with write := true }, (M.leaf k).frame, false, 0) else
      match P.free with
      | none => (P, M, 0, false, 3)
      | some f => (P.move (M.leaf k) f, M.setLeaf k ⟨true, true, f⟩, f, (M.leaf k).there, 0)) := by unfold mtouch; rw [if_pos ho, Int.toNat_natCast]; rfl
    rw [e0]
    by_cases s0 : M.state k = 0
    · rw [if_pos s0]; exact rtouch_absent w P g M x rp r k hk wr s0
    · rw [if_neg s0]
      by_cases s2 : M.state k = 2
      · rw [if_pos s2]; exact rtouch_given w P g M x rp r k hk wr s2
      · rw [if_neg s2]
        have s1 : M.state k = 1 := by rcases hI.st k hk with e | e | e <;> simp_all
        cases ht : (M.leaf k).there with
        | false =>
          rw [if_neg (by simp), if_neg (by simp)]
          cases hf : P.free with
          | none => exact rtouch_new_full hT w P g M x rp r k hk wr s1 ht hf
          | some f =>
            have : P.move (M.leaf k) f = P.take.1 := by unfold PoolM.move; rw [ht]; rfl
            simp only []
            rw [this]
            exact rtouch_new hT w P g M x rp r k hk wr s1 ht f hf
        | true =>
          obtain ⟨_, hf0, hf1⟩ := hI.here k hk ht
          obtain ⟨lf, hlf⟩ := Int.eq_ofNat_of_zero_le hf0
          have hu := hI.used hk ht
          have hu' := used_cast.1 hu
          have hlfn : lf < P.n := by omega
          have hb := hI.bound hlfn
          have hr0 : 0 < P.refs lf := by rw [hlf] at hu'; simpa using hu'.2.2
          by_cases hw : (M.leaf k).write = true ∨ wr = false
          · rw [if_pos (by rcases hw with h | h <;> simp [h])]
            exact rtouch_stay w P g M x rp r k hk wr s1 ht hw
          · have hw1 : (M.leaf k).write = false := by cases h : (M.leaf k).write <;> simp_all
            have hw2 : wr = true := by cases h : wr <;> simp_all
            subst hw2
            rw [if_neg (by simp [hw1]), one_is hu]
            by_cases h1 : P.refs lf = 1
            · rw [if_pos (by rw [hlf]; simp [h1])]
              exact rtouch_one hT w P g M x rp r k hk s1 ht hw1 lf hlf hlfn h1
            · rw [if_neg (by rw [hlf]; simp [h1])]
              cases hf : P.free with
              | none => exact rtouch_move_full hT w P g M x rp r k hk s1 ht hw1 lf hlf hlfn h1 hf
              | some f =>
                simp only []
                rw [(move_eq hI hk ht hf).1, hlf, Int.toNat_natCast]
                exact rtouch_move hT w P g M x rp r k hk s1 ht hw1 lf hlf hlfn h1 f hf hr0 hb.2
  · have e : mtouch P M n wr = (P, M, 0, false, 1) := by unfold mtouch; rw [if_neg ho]
    rw [e]
    exact rtouch_off w P g M x rp r n wr (by simpa using ho)
end

end U
end Go.Proofs.YtnhplapcdgnaaaaGreat

set_option linter.unusedVariables false
set_option linter.unusedSimpArgs false
namespace Go.Proofs.YtnhplapcdgnaaaaGreat
open Go.RowKit
namespace U

section
variable {T N m : Nat}
set_option maxRecDepth 100000 in
set_option maxHeartbeats 2000000 in
theorem rjoin_no (w : World) (P : PoolM) (g : Nat) (M : MapM) (x : Nat → Value) (rp : RPoolRep w m P) (r : RMRep w g T N m M x) (k : Nat) (hk : k < 16) (fr : Int)
    (hc : ((M.leaf k).there && ((M.leaf k).frame != fr && P.same (M.leaf k).frame fr)) = false) :
    Calls Tryz.prog 82 #[.pointer (some ⟨g, 0, none⟩), .int .i64 k, .int .i64 fr] w (RMPost w m g T N x (P, M, 8)) := by
  have ho' : onB k = true := onB_iff.2 ⟨by omega, by omega⟩
  have cp := r.c0
  have c2 := r.l0 hk
  have c3 := r.l1 hk
  have c4 := r.l2 hk
  have lg := r.lt
  cases ht : (M.leaf k).there with
  | false =>
    rw [ht] at c2
    clear ht hc
    go_enter Tryz.func82, Tryz.ntmps82
    go_wp2_with (go_at_call 49; refine (ron_any _ _).mono ?_; rintro e w' ⟨rfl, rfl⟩)
    go_ret
    exact ⟨rfl, rp.alloc _, r.alloc _, (Upd.refl _ _).alloc _⟩
  | true =>
    rw [ht] at c2
    by_cases hf : (M.leaf k).frame = fr
    · have hf' : ((M.leaf k).frame != fr) = false := by simpa using hf
      clear ht hc hf
      go_enter Tryz.func82, Tryz.ntmps82
      go_wp2_with (go_at_call 49; refine (ron_any _ _).mono ?_; rintro e w' ⟨rfl, rfl⟩)
      go_ret
      exact ⟨rfl, rp.alloc _, r.alloc _, (Upd.refl _ _).alloc _⟩
    · have hf' : ((M.leaf k).frame != fr) = true := by simpa using hf
      have hs : P.same (M.leaf k).frame fr = false := by
        rw [ht, hf'] at hc
        simpa using hc
      have HS := Lib.hid hs
      clear ht hc hf hs
      go_enter Tryz.func82, Tryz.ntmps82
      go_wp2_with (go_at_call 49; refine (ron_any _ _).mono ?_; rintro e w' ⟨rfl, rfl⟩)
      go_quiet ((go_at_call 80; exact quiet_ex (HS.out ▸ rsame_any _ m P ((rp.alloc _).drewN _) _ _)))
      go_wp2
      go_ret
      exact ⟨rfl, (rp.alloc _).drewN _, (r.alloc _).drewN _, ((Upd.refl _ _).alloc _).drewN _⟩

set_option maxRecDepth 100000 in
set_option maxHeartbeats 2000000 in
theorem rjoin_yes (hT : T ≠ 59) (w : World) (P : PoolM) (g : Nat) (M : MapM) (x : Nat → Value) (rp : RPoolRep w m P) (r : RMRep w g T N m M x) (k : Nat) (hk : k < 16) (fr : Int)
    (ht : (M.leaf k).there = true) (hf : (M.leaf k).frame ≠ fr) (hs : P.same (M.leaf k).frame fr = true) :
    Calls Tryz.prog 82 #[.pointer (some ⟨g, 0, none⟩), .int .i64 k, .int .i64 fr] w
      (RMPost w m g T N x (((P.share fr 1).1.share (M.leaf k).frame (-1)).1, M.setLeaf k ⟨true, false, fr⟩, 0)) := by
  have ho' : onB k = true := onB_iff.2 ⟨by omega, by omega⟩
  have hne := rmap_ne rp r hT
  have cp := r.c0
  have c2 := r.l0 hk
  have c3 := r.l1 hk
  have c4 := r.l2 hk
  have lg := r.lt
  have lm := rp.lt
  have hwm : w.heap.size ≠ m := by omega
  have J0 : RMv w (w.alloc (.cells #[.bool (M.leaf k).there, .bool (M.leaf k).write, .int .i64 (M.leaf k).frame] 88)) m g T N M x k P := ⟨rp.alloc _, r.alloc _, heap_alloc_new w _, (Upd.refl _ _).alloc _⟩
  rw [ht] at c2 J0
  have hf' : ((M.leaf k).frame != fr) = true := by simpa using hf
  have HS := Lib.hid hs
  have HT := Lib.hid ht
  clear ht hf hs
  go_enter Tryz.func82, Tryz.ntmps82
  go_wp2_with (go_at_call 49; refine (ron_any _ _).mono ?_; rintro e w' ⟨rfl, rfl⟩)
  go_quiet ((go_at_call 80; exact quiet_ex (HS.out ▸ rsame_any _ m P ((rp.alloc _).drewN _) _ _)))
  go_wp2_with (go_at_call 111; refine (rshare_any _ m P (by repeat (first | assumption | apply RMv.drew | apply RMv.drewN) : RMv w _ m g T N M x k _).rp _ _).mono ?_; rintro e w2 ⟨rfl, r2, u2⟩; have J2 := RMv.step (by repeat (first | assumption | apply RMv.drew | apply RMv.drewN) : RMv w _ m g T N M x k _) hne hwm r2 u2; have d0 := J2.mr.c0; have d2 := J2.b2; have l2 := heap_lt J2.bx)
  go_region_with (go_at_call 111; refine (rshare_any _ m _ (RMv.rp (by repeat (first | assumption | apply RMv.drew | apply RMv.drewN) : RMv w _ m g T N M x k _)) _ _).mono ?_; rintro e w4 ⟨rfl, r4, u4⟩; have J4 := RMv.step (by repeat (first | assumption | apply RMv.drew | apply RMv.drewN) : RMv w _ m g T N M x k _) hne hwm r4 u4; have e0 := J4.mr.l0 hk; have e1 := J4.mr.l1 hk; have e2 := J4.mr.l2 hk; have g0 := J4.mr.fr (17 + k * 3); have g1 := J4.mr.fr (17 + k * 3 + 1); have g2 := J4.mr.fr (17 + k * 3 + 2))
  all_goals go_wp2
  all_goals go_ret
  all_goals exact ⟨rfl, RPoolRep.keepR3 r4 hne _ _ _ _ _ _, J4.mr.setLeaf (l := ⟨true, false, fr⟩) hk, J4.up.sc3 (S := ownR m g) (.inr rfl) _ _ _ _ _ _⟩

theorem rjoin_any (hT : T ≠ 59) (w : World) (P : PoolM) (g : Nat) (M : MapM) (x : Nat → Value) (rp : RPoolRep w m P) (r : RMRep w g T N m M x) (n fr : Int) :
    Calls Tryz.prog 82 #[.pointer (some ⟨g, 0, none⟩), .int .i64 n, .int .i64 fr] w (RMPost w m g T N x (mjoin P M n fr)) := by
  by_cases ho : onB n = true
  · obtain ⟨k, rfl⟩ := Int.eq_ofNat_of_zero_le (onB_iff.1 ho).1
    have hk : k < 16 := by have := (onB_iff.1 ho).2; omega
    by_cases hc : ((M.leaf k).there && ((M.leaf k).frame != fr && P.same (M.leaf k).frame fr)) = true
    · have hc' := hc
      rw [Bool.and_eq_true, Bool.and_eq_true] at hc
      have e : mjoin P M k fr = (((P.share fr 1).1.share (M.leaf k).frame (-1)).1, M.setLeaf k ⟨true, false, fr⟩, 0) := by
        unfold mjoin
        rw [if_pos ho, Int.toNat_natCast, if_pos hc']
      rw [e]
      exact rjoin_yes hT w P g M x rp r k hk fr hc.1 (by simpa using hc.2.1) hc.2.2
    · have e : mjoin P M k fr = (P, M, 8) := by
        unfold mjoin
        rw [if_pos ho, Int.toNat_natCast, if_neg hc]
      rw [e]
      exact rjoin_no w P g M x rp r k hk fr (by simpa using hc)
  · have e : mjoin P M n fr = (P, M, 1) := by unfold mjoin; rw [if_neg ho]
    have ho' : onB n = false := by simpa using ho
    rw [e]
    clear ho e
    go_enter Tryz.func82, Tryz.ntmps82
    go_wp2_with (go_at_call 49; refine (ron_any _ _).mono ?_; rintro e w' ⟨rfl, rfl⟩)
    go_ret
    exact ⟨rfl, rp, r, Upd.refl _ _⟩
end

end U
end Go.Proofs.YtnhplapcdgnaaaaGreat
