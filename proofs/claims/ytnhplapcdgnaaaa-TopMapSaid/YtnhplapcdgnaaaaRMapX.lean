import Derived.Test.YtnhplapcdgnaaaaMapL
import Derived.Test.YtnhplapcdgnaaaaRPoolX
import Derived.Test.YtnhplapcdgnaaaaMapK
set_option linter.unusedVariables false
set_option linter.unusedSimpArgs false
namespace Go.Proofs.Ytnhplapcdgnaaaa
open Go.RowKit
namespace U

/-! The reference's map: at the head of a block (type T, N cells); behind it the cells x. -/
structure RMRep (w : World) (g : Nat) (T N p : Nat) (M : MapM) (x : Nat → Value) : Prop where
  row : ∃ c : Nat → Value, Row w g T N c ∧ c 0 = .pointer (some ⟨p, 0, none⟩) ∧ (∀ i, i < 16 → c (1 + i) = .int .i64 (M.state i) ∧
    c (17 + i * 3) = .bool (M.leaf i).there ∧ c (17 + i * 3 + 1) = .bool (M.leaf i).write ∧ c (17 + i * 3 + 2) = .int .i64 (M.leaf i).frame) ∧ ∀ i, 65 ≤ i → i < N → c i = x i
  big : 65 ≤ N

section
variable {w w' : World} {g T N p : Nat} {M : MapM} {x : Nat → Value} {S : Nat → Prop}
theorem RMRep.toM (r : RMRep w g T N p M x) : MRep w g T N p M := by
  obtain ⟨c, h1, h2, h3, _⟩ := r.row
  exact ⟨⟨c, h1, h2, h3⟩, r.big⟩
theorem RMRep.c0 (r : RMRep w g T N p M x) : w.cell? ⟨g, 0, none⟩ = some (.pointer (some ⟨p, 0, none⟩)) := r.toM.c0
theorem RMRep.st (r : RMRep w g T N p M x) {i : Nat} (hi : i < 16) : w.cell? ⟨g, 1 + i, none⟩ = some (.int .i64 (M.state i)) := r.toM.st hi
theorem RMRep.l0 (r : RMRep w g T N p M x) {i : Nat} (hi : i < 16) : w.cell? ⟨g, 17 + i * 3, none⟩ = some (.bool (M.leaf i).there) := r.toM.l0 hi
theorem RMRep.l1 (r : RMRep w g T N p M x) {i : Nat} (hi : i < 16) : w.cell? ⟨g, 17 + i * 3 + 1, none⟩ = some (.bool (M.leaf i).write) := r.toM.l1 hi
theorem RMRep.l2 (r : RMRep w g T N p M x) {i : Nat} (hi : i < 16) : w.cell? ⟨g, 17 + i * 3 + 2, none⟩ = some (.int .i64 (M.leaf i).frame) := r.toM.l2 hi
theorem RMRep.fr (r : RMRep w g T N p M x) (i : Nat) : w.frozen? ⟨g, i, none⟩ = false := r.toM.fr i
theorem RMRep.lt (r : RMRep w g T N p M x) : g < w.heap.size := r.toM.lt
theorem RMRep.xc (r : RMRep w g T N p M x) {i : Nat} (h : 65 ≤ i) (hi : i < N) : w.cell? ⟨g, i, none⟩ = some (x i) := by
  obtain ⟨c, h1, _, _, h4⟩ := r.row
  rw [h1.cell hi, h4 i h hi]
theorem RMRep.keep (r : RMRep w g T N p M x) (e : w'.heap[g]? = w.heap[g]?) : RMRep w' g T N p M x := by
  obtain ⟨c, hR, h⟩ := r.row
  exact ⟨⟨c, hR.keep e, h⟩, r.big⟩
theorem RMRep.drewN (r : RMRep w g T N p M x) (n : Nat) : RMRep (w.drewN n) g T N p M x := r.keep rfl
theorem RMRep.drew (r : RMRep w g T N p M x) : RMRep w.drew g T N p M x := r.keep rfl
theorem RMRep.alloc (r : RMRep w g T N p M x) (o : Obj) : RMRep (w.alloc o) g T N p M x := r.keep (Below.heap_alloc w o g r.lt)
theorem RMRep.upd_ (r : RMRep w g T N p M x) (u : Upd S w w') (h : ¬ S g) : RMRep w' g T N p M x := r.keep (u.block g r.lt h)
theorem RMRep.setState (r : RMRep w g T N p M x) {n : Nat} {s : Int} (hn : n < 16) : RMRep (w.setCell ⟨g, 1 + n, none⟩ (.int .i64 s)) g T N p (M.setState n s) x := by
  obtain ⟨c, hR, h0, h, hx⟩ := r.row
  have := r.big
  refine ⟨⟨_, hR.set_ _, ?_, fun i hi => ?_, fun i h1 h2 => by unfold upd; rw [if_neg (by omega)]; exact hx i h1 h2⟩, r.big⟩
  · unfold upd; rw [if_neg (by omega)]; exact h0
  · unfold upd MapM.setState
    obtain ⟨h1, h2, h3, h4⟩ := h i hi
    refine ⟨?_, by rw [if_neg (by omega)]; exact h2, by rw [if_neg (by omega)]; exact h3, by rw [if_neg (by omega)]; exact h4⟩
    by_cases e : i = n
    · subst e; simp
    · rw [if_neg (by omega)]; simp [e, h1]
theorem RMRep.setLeaf (r : RMRep w g T N p M x) {n : Nat} {l : LeafM} (hn : n < 16) :
    RMRep (((w.setCell ⟨g, 17 + n * 3, none⟩ (.bool l.there)).setCell ⟨g, 17 + n * 3 + 1, none⟩ (.bool l.write)).setCell ⟨g, 17 + n * 3 + 2, none⟩ (.int .i64 l.frame)) g T N p (M.setLeaf n l) x := by
  obtain ⟨c, hR, h0, h, hx⟩ := r.row
  have := r.big
  refine ⟨⟨_, ((hR.set_ (i := 17 + n * 3) _).set_ (i := 17 + n * 3 + 1) _).set_ (i := 17 + n * 3 + 2) _, ?_, fun i hi => ?_, fun i h1 h2 => ?_⟩, r.big⟩
  · unfold upd; rw [if_neg (by omega), if_neg (by omega), if_neg (by omega)]; exact h0
  · unfold upd MapM.setLeaf
    obtain ⟨h1, h2, h3, h4⟩ := h i hi
    by_cases e : i = n
    · subst e
      refine ⟨by rw [if_neg (by omega), if_neg (by omega), if_neg (by omega)]; exact h1, by rw [if_neg (by omega), if_neg (by omega), if_pos rfl]; simp, by rw [if_neg (by omega), if_pos rfl]; simp, by rw [if_pos rfl]; simp⟩
    · refine ⟨by rw [if_neg (by omega), if_neg (by omega), if_neg (by omega)]; exact h1, ?_, ?_, ?_⟩ <;> (rw [if_neg (by omega), if_neg (by omega), if_neg (by omega)]; simp [e, h2, h3, h4])
  · unfold upd; rw [if_neg (by omega), if_neg (by omega), if_neg (by omega)]; exact hx i h1 h2
theorem RMRep.setWrite (r : RMRep w g T N p M x) {n : Nat} {b : Bool} (hn : n < 16) : RMRep (w.setCell ⟨g, 17 + n * 3 + 1, none⟩ (.bool b)) g T N p (M.setLeaf n { M.leaf n with write := b }) x := by
  obtain ⟨c, hR, h0, h, hx⟩ := r.row
  have := r.big
  refine ⟨⟨_, hR.set_ _, ?_, fun i hi => ?_, fun i h1 h2 => by unfold upd; rw [if_neg (by omega)]; exact hx i h1 h2⟩, r.big⟩
  · unfold upd; rw [if_neg (by omega)]; exact h0
  · unfold upd MapM.setLeaf
    obtain ⟨h1, h2, h3, h4⟩ := h i hi
    by_cases e : i = n
    · subst e
      refine ⟨by rw [if_neg (by omega)]; exact h1, by rw [if_neg (by omega)]; simp [h2], by rw [if_pos rfl]; simp, by rw [if_neg (by omega)]; simp [h4]⟩
    · refine ⟨by rw [if_neg (by omega)]; exact h1, ?_, ?_, ?_⟩ <;> (rw [if_neg (by omega)]; simp [e, h2, h3, h4])
theorem RMRep.setX (r : RMRep w g T N p M x) {i : Nat} {v : Value} (hi : 65 ≤ i) : RMRep (w.setCell ⟨g, i, none⟩ v) g T N p M (upd x i v) := by
  obtain ⟨c, hR, h0, h, hx⟩ := r.row
  have := r.big
  refine ⟨⟨_, hR.set_ _, ?_, fun j hj => ?_, fun j h1 h2 => by unfold upd; split; rfl; exact hx j h1 h2⟩, r.big⟩
  · unfold upd; rw [if_neg (by omega)]; exact h0
  · obtain ⟨h1, h2, h3, h4⟩ := h j hj
    unfold upd
    exact ⟨by rw [if_neg (by omega)]; exact h1, by rw [if_neg (by omega)]; exact h2, by rw [if_neg (by omega)]; exact h3, by rw [if_neg (by omega)]; exact h4⟩
theorem rmap_ne {P : PoolM} {m : Nat} (r : RPoolRep w m P) (s : RMRep w g T N p M x) (hT : T ≠ 63) : g ≠ m := by
  obtain ⟨_, hM, _⟩ := r.row
  obtain ⟨_, hG, _⟩ := s.row
  exact hG.ne_ hM hT
/-- What an act on a map may change: the pool's block, the map's. -/
def ownR (m g : Nat) : Nat → Prop := fun k => k = m ∨ k = g
theorem Upd.mR {m : Nat} (u : Upd (at1 m) w w') : Upd (ownR m g) w w' := u.mono fun _ _ h => .inl h
theorem Upd.gR {m : Nat} (u : Upd (at1 g) w w') : Upd (ownR m g) w w' := u.mono fun _ _ h => .inr h
end

set_option maxHeartbeats 400000 in
theorem ron_any (w : World) (n : Int) : Calls Try.prog 132 #[.int .i64 n] w fun e w' => e = .returned (.bool (onB n)) ∧ w = w' := by
  by_cases h0 : 0 ≤ n
  · by_cases h1 : n < 16
    · have F := Lib.hid (show onB n = true by simp [onB, h0, h1])
      go_enter Try.func132, Try.ntmps132
      go_wp2
      go_ret
      exact ⟨by rw [F.out]; rfl, rfl⟩
    · have F := Lib.hid (show onB n = false by simp [onB]; omega)
      go_enter Try.func132, Try.ntmps132
      go_wp2
      go_ret
      exact ⟨by rw [F.out]; rfl, rfl⟩
  · have F := Lib.hid (show onB n = false by simp [onB]; omega)
    go_enter Try.func132, Try.ntmps132
    go_wp2
    go_ret
    exact ⟨by rw [F.out]; rfl, rfl⟩

end U
end Go.Proofs.Ytnhplapcdgnaaaa

set_option linter.unusedVariables false
set_option linter.unusedSimpArgs false
namespace Go.Proofs.Ytnhplapcdgnaaaa
open Go.RowKit
namespace U

def rturnP (P : PoolM) (M : MapM) (n : Nat) (to : Int) : PoolM := if (M.leaf n).there && to != 1 then letP P M n else P
def rturnM (M : MapM) (n : Nat) (to : Int) : MapM := if (M.leaf n).there && to != 1 then (M.setLeaf n LeafM.none).setState n to else M.setState n to

theorem RPoolRep.keepR3 {w : World} {m g : Nat} {P : PoolM} (r : RPoolRep w m P) (h : g ≠ m) (i j q : Nat) (x y z : Value) :
    RPoolRep (((w.setCell ⟨g, i, none⟩ x).setCell ⟨g, j, none⟩ y).setCell ⟨g, q, none⟩ z) m P :=
  r.upd_ (S := at1 g) (Upd.sc3 (Upd.refl _ _) at1_self _ _ _ _ _ _) (fun e => h e.symm)
theorem RPoolRep.keepR1 {w : World} {m g : Nat} {P : PoolM} (r : RPoolRep w m P) (h : g ≠ m) (i : Nat) (x : Value) : RPoolRep (w.setCell ⟨g, i, none⟩ x) m P :=
  r.upd_ (S := at1 g) ((Upd.refl _ _).setCell (p := ⟨g, i, none⟩) (fun _ => at1_self) _) (fun e => h e.symm)

section
variable {T N : Nat} {m : Nat}
set_option maxRecDepth 100000 in
set_option maxHeartbeats 2000000 in
theorem rturn_any (hT : T ≠ 63) (w : World) (P : PoolM) (g : Nat) (M : MapM) (x : Nat → Value) (rp : RPoolRep w m P) (r : RMRep w g T N m M x) (k : Nat) (hk : k < 16) (to : Int) :
    Calls Try.prog 133 #[.pointer (some ⟨g, 0, none⟩), .int .i64 k, .int .i64 to] w fun e w' => e = .returned (.tuple #[]) ∧ RPoolRep w' m (rturnP P M k to) ∧ RMRep w' g T N m (rturnM M k to) x ∧ Upd (ownR m g) w w' := by
  have hne := rmap_ne rp r hT
  have cp := r.c0
  have c0 := r.l0 hk
  have c1 := r.l1 hk
  have c2 := r.l2 hk
  have cs := r.st hk
  have fs := r.fr (1 + k)
  cases ht : (M.leaf k).there with
  | false =>
    have F1 := Lib.hid (show rturnP P M k to = P by unfold rturnP; rw [ht]; rfl)
    have F2 := Lib.hid (show rturnM M k to = M.setState k to by unfold rturnM; rw [ht]; rfl)
    rw [ht] at c0
    clear ht
    go_enter Try.func133, Try.ntmps133
    go_wp2
    go_end0
    exact ⟨rfl, by rw [F1.out]; exact rp.keepR1 hne _ _, by rw [F2.out]; exact r.setState hk, (Upd.refl (ownR m g) w).setCell (p := ⟨g, 1 + k, none⟩) (fun _ => .inr rfl) _⟩
  | true =>
    rw [ht] at c0
    by_cases h1 : to = 1
    · have h1' : (to != 1) = false := by simpa using h1
      have F1 := Lib.hid (show rturnP P M k to = P by unfold rturnP; rw [h1']; simp)
      have F2 := Lib.hid (show rturnM M k to = M.setState k to by unfold rturnM; rw [h1']; simp)
      clear ht h1
      go_enter Try.func133, Try.ntmps133
      go_wp2
      go_end0
      exact ⟨rfl, by rw [F1.out]; exact rp.keepR1 hne _ _, by rw [F2.out]; exact r.setState hk, (Upd.refl (ownR m g) w).setCell (p := ⟨g, 1 + k, none⟩) (fun _ => .inr rfl) _⟩
    · have h1' : (to != 1) = true := by simpa using h1
      have F1 := Lib.hid (show rturnP P M k to = (P.share (M.leaf k).frame (-1)).1 by unfold rturnP letP; rw [h1', ht]; simp)
      have F2 := Lib.hid (show rturnM M k to = (M.setLeaf k LeafM.none).setState k to by unfold rturnM; rw [h1', ht]; simp)
      clear ht h1
      go_enter Try.func133, Try.ntmps133
      go_wp2
      go_region_with (go_at_call 33; refine (rshare_any _ m P (by repeat (first | assumption | apply RPoolRep.alloc | apply RPoolRep.drew | apply RPoolRep.drewN)) _ _).mono ?_; rintro e w2 ⟨rfl, r2, u2⟩; have m2 := RMRep.upd_ (by repeat (first | assumption | apply RMRep.drew | apply RMRep.drewN) : RMRep _ g T N m M x) u2 (fun h => hne h); have g0 := m2.fr (17 + k * 3); have g1 := m2.fr (17 + k * 3 + 1); have g2 := m2.fr (17 + k * 3 + 2); have g3 := m2.fr (1 + k); have d0 := m2.l0 hk; have d1 := m2.l1 hk; have d2 := m2.l2 hk; have d3 := m2.st hk)
      all_goals go_wp2
      all_goals go_end0
      all_goals exact ⟨rfl, by rw [F1.out]; exact (r2.keepR3 hne _ _ _ _ _ _).keepR1 hne _ _, by rw [F2.out]; exact (m2.setLeaf (l := LeafM.none) hk).setState hk, ((((Upd.refl _ w).drew).trans u2.mR).sc3 (S := ownR m g) (.inr rfl) _ _ _ _ _ _).setCell (p := ⟨g, 1 + k, none⟩) (fun _ => .inr rfl) _⟩

/-- What an act answers, and what it leaves. -/
def RMPost (w : World) (m g T N : Nat) (x : Nat → Value) (y : PoolM × MapM × Nat) (e : Ending) (w' : World) : Prop :=
  e = .returned (.int .i64 y.2.2) ∧ RPoolRep w' m y.1 ∧ RMRep w' g T N m y.2.1 x ∧ Upd (ownR m g) w w'

set_option maxRecDepth 100000 in
set_option maxHeartbeats 1000000 in
theorem rplug_any (hT : T ≠ 63) (w : World) (P : PoolM) (g : Nat) (M : MapM) (x : Nat → Value) (rp : RPoolRep w m P) (r : RMRep w g T N m M x) (n : Int) :
    Calls Try.prog 87 #[.pointer (some ⟨g, 0, none⟩), .int .i64 n] w (RMPost w m g T N x (P, (mplug M n).1, (mplug M n).2)) := by
  by_cases ho : onB n = true
  · have hn := onB_iff.1 ho
    obtain ⟨k, rfl⟩ := Int.eq_ofNat_of_zero_le hn.1
    have hk : k < 16 := by omega
    have c1 := r.st hk
    by_cases h0 : M.state k = 0
    · have h0' : (M.state k != 0) = false := by simp [h0]
      have F := Lib.hid (show mplug M k = (M.setState k 1, 0) by unfold mplug; rw [if_pos ho]; simp [h0])
      have F1 := Lib.hid (show rturnP P M k 1 = P by unfold rturnP; simp)
      have F2 := Lib.hid (show rturnM M k 1 = M.setState k 1 by unfold rturnM; simp)
      clear h0 hn
      go_enter Try.func87, Try.ntmps87
      go_wp2_with (first
        | (go_at_call 132; refine (ron_any _ _).mono ?_; rintro e w' ⟨rfl, rfl⟩)
        | (go_at_call 133; refine (rturn_any hT _ P g M x rp r k hk 1).mono ?_; rw [F1.out, F2.out]; rintro e w2 ⟨rfl, h1, h2, h3⟩))
      go_ret
      exact ⟨by rw [F.out]; rfl, h1, by rw [F.out]; exact h2, h3⟩
    · have h0' : (M.state k != 0) = true := by simpa using h0
      have F := Lib.hid (show mplug M k = (M, 4) by unfold mplug; rw [if_pos ho]; simp [h0])
      clear h0 hn
      go_enter Try.func87, Try.ntmps87
      go_wp2_with (go_at_call 132; refine (ron_any _ _).mono ?_; rintro e w' ⟨rfl, rfl⟩)
      go_ret
      exact ⟨by rw [F.out]; rfl, rp, by rw [F.out]; exact r, Upd.refl _ _⟩
  · have ho' : onB n = false := by simpa using ho
    have F := Lib.hid (show mplug M n = (M, 1) by unfold mplug; rw [if_neg ho])
    go_enter Try.func87, Try.ntmps87
    go_wp2_with (go_at_call 132; refine (ron_any _ _).mono ?_; rintro e w' ⟨rfl, rfl⟩)
    go_ret
    exact ⟨by rw [F.out]; rfl, rp, by rw [F.out]; exact r, Upd.refl _ _⟩

theorem setLeaf_id {M : MapM} {n : Nat} (h : M.leaf n = LeafM.none) : M.setLeaf n LeafM.none = M := by
  unfold MapM.setLeaf
  have : (fun i => if i = n then LeafM.none else M.leaf i) = M.leaf := by funext i; by_cases e : i = n <;> simp [e, h]
  rw [this]
/-- A turn to a state that is not plain: the page lets go. -/
theorem rturn_let {P : PoolM} {M : MapM} {n : Nat} {to : Int} (h : (M.leaf n).there = false → M.leaf n = LeafM.none) (ht : to ≠ 1) :
    rturnP P M n to = letP P M n ∧ rturnM M n to = (M.setLeaf n LeafM.none).setState n to := by
  have h1 : (to != 1) = true := by simpa using ht
  unfold rturnP rturnM
  rw [h1]
  cases e : (M.leaf n).there with
  | true => exact ⟨rfl, rfl⟩
  | false =>
    refine ⟨?_, ?_⟩
    · unfold letP; rw [e]; rfl
    · rw [setLeaf_id (h e)]; rfl

set_option maxRecDepth 100000 in
set_option maxHeartbeats 1000000 in
theorem runplug_any (hT : T ≠ 63) (w : World) (P : PoolM) (g : Nat) (M : MapM) (x : Nat → Value) (rp : RPoolRep w m P) (r : RMRep w g T N m M x) (hM : ∀ i, i < 16 → (M.leaf i).there = false → M.leaf i = LeafM.none) (n : Int) :
    Calls Try.prog 88 #[.pointer (some ⟨g, 0, none⟩), .int .i64 n] w (RMPost w m g T N x (munplug P M n)) := by
  by_cases ho : onB n = true
  · have hn := onB_iff.1 ho
    obtain ⟨k, rfl⟩ := Int.eq_ofNat_of_zero_le hn.1
    have hk : k < 16 := by omega
    have c1 := r.st hk
    by_cases h0 : M.state k = 0
    · have h0' : (M.state k == 0) = true := by simp [h0]
      have F := Lib.hid (show munplug P M k = (P, M, 2) by unfold munplug; rw [if_pos ho]; simp [h0])
      clear h0 hn
      go_enter Try.func88, Try.ntmps88
      go_wp2_with (go_at_call 132; refine (ron_any _ _).mono ?_; rintro e w' ⟨rfl, rfl⟩)
      go_ret
      rw [F.out]
      exact ⟨rfl, rp, r, Upd.refl _ _⟩
    · have h0' : (M.state k == 0) = false := by simpa using h0
      have F := Lib.hid (show munplug P M k = (letP P M k, (M.setLeaf k LeafM.none).setState k 0, 0) by unfold munplug; rw [if_pos ho]; simp [h0])
      have F1 := Lib.hid (rturn_let (P := P) (to := 0) (hM k hk) (by decide))
      clear h0 hn hM
      go_enter Try.func88, Try.ntmps88
      go_wp2_with (first
        | (go_at_call 132; refine (ron_any _ _).mono ?_; rintro e w' ⟨rfl, rfl⟩)
        | (go_at_call 133; refine (rturn_any hT _ P g M x rp r k hk 0).mono ?_; rw [F1.out.1, F1.out.2]; rintro e w2 ⟨rfl, h1, h2, h3⟩))
      go_ret
      rw [F.out]
      exact ⟨rfl, h1, h2, h3⟩
  · have ho' : onB n = false := by simpa using ho
    have F := Lib.hid (show munplug P M n = (P, M, 1) by unfold munplug; rw [if_neg ho])
    clear hM
    go_enter Try.func88, Try.ntmps88
    go_wp2_with (go_at_call 132; refine (ron_any _ _).mono ?_; rintro e w' ⟨rfl, rfl⟩)
    go_ret
    rw [F.out]
    exact ⟨rfl, rp, r, Upd.refl _ _⟩

set_option maxRecDepth 100000 in
set_option maxHeartbeats 1000000 in
theorem rgive_any (hT : T ≠ 63) (w : World) (P : PoolM) (g : Nat) (M : MapM) (x : Nat → Value) (rp : RPoolRep w m P) (r : RMRep w g T N m M x) (hM : ∀ i, i < 16 → (M.leaf i).there = false → M.leaf i = LeafM.none) (n : Int) :
    Calls Try.prog 90 #[.pointer (some ⟨g, 0, none⟩), .int .i64 n, .bool false] w (RMPost w m g T N x (mgive P M n)) := by
  by_cases ho : onB n = true
  · have hn := onB_iff.1 ho
    obtain ⟨k, rfl⟩ := Int.eq_ofNat_of_zero_le hn.1
    have hk : k < 16 := by omega
    have c1 := r.st hk
    by_cases h0 : M.state k = 1
    · have h0' : (M.state k == 1) = true := by simp [h0]
      have F := Lib.hid (show mgive P M k = (letP P M k, (M.setLeaf k LeafM.none).setState k 2, 0) by unfold mgive; rw [if_pos ho]; simp [h0])
      have F1 := Lib.hid (rturn_let (P := P) (to := 2) (hM k hk) (by decide))
      clear h0 hn hM
      go_enter Try.func90, Try.ntmps90
      go_wp2_with (first
        | (go_at_call 132; refine (ron_any _ _).mono ?_; rintro e w' ⟨rfl, rfl⟩)
        | (go_at_call 133; refine (rturn_any hT _ P g M x rp r k hk 2).mono ?_; rw [F1.out.1, F1.out.2]; rintro e w2 ⟨rfl, h1, h2, h3⟩))
      go_ret
      rw [F.out]
      exact ⟨rfl, h1, h2, h3⟩
    · have h0' : (M.state k == 1) = false := by simpa using h0
      have F := Lib.hid (show mgive P M k = (P, M, 8) by unfold mgive; rw [if_pos ho]; simp [h0])
      clear h0 hn hM
      go_enter Try.func90, Try.ntmps90
      go_wp2_with (go_at_call 132; refine (ron_any _ _).mono ?_; rintro e w' ⟨rfl, rfl⟩)
      go_ret
      rw [F.out]
      exact ⟨rfl, rp, r, Upd.refl _ _⟩
  · have ho' : onB n = false := by simpa using ho
    have F := Lib.hid (show mgive P M n = (P, M, 1) by unfold mgive; rw [if_neg ho])
    clear hM
    go_enter Try.func90, Try.ntmps90
    go_wp2_with (go_at_call 132; refine (ron_any _ _).mono ?_; rintro e w' ⟨rfl, rfl⟩)
    go_ret
    rw [F.out]
    exact ⟨rfl, rp, r, Upd.refl _ _⟩

set_option maxRecDepth 100000 in
set_option maxHeartbeats 1000000 in
theorem rback_any (hT : T ≠ 63) (w : World) (P : PoolM) (g : Nat) (M : MapM) (x : Nat → Value) (rp : RPoolRep w m P) (r : RMRep w g T N m M x) (n : Int) :
    Calls Try.prog 90 #[.pointer (some ⟨g, 0, none⟩), .int .i64 n, .bool true] w (RMPost w m g T N x (P, (mback M n).1, (mback M n).2)) := by
  by_cases ho : onB n = true
  · have hn := onB_iff.1 ho
    obtain ⟨k, rfl⟩ := Int.eq_ofNat_of_zero_le hn.1
    have hk : k < 16 := by omega
    have c1 := r.st hk
    by_cases h0 : M.state k = 2
    · have h0' : (M.state k == 2) = true := by simp [h0]
      have F := Lib.hid (show mback M k = (M.setState k 1, 0) by unfold mback; rw [if_pos ho]; simp [h0])
      have F1 := Lib.hid (show rturnP P M k 1 = P by unfold rturnP; simp)
      have F2 := Lib.hid (show rturnM M k 1 = M.setState k 1 by unfold rturnM; simp)
      clear h0 hn
      go_enter Try.func90, Try.ntmps90
      go_wp2_with (first
        | (go_at_call 132; refine (ron_any _ _).mono ?_; rintro e w' ⟨rfl, rfl⟩)
        | (go_at_call 133; refine (rturn_any hT _ P g M x rp r k hk 1).mono ?_; rw [F1.out, F2.out]; rintro e w2 ⟨rfl, h1, h2, h3⟩))
      go_ret
      rw [F.out]
      exact ⟨rfl, h1, h2, h3⟩
    · have h0' : (M.state k == 2) = false := by simpa using h0
      have F := Lib.hid (show mback M k = (M, 8) by unfold mback; rw [if_pos ho]; simp [h0])
      clear h0 hn
      go_enter Try.func90, Try.ntmps90
      go_wp2_with (go_at_call 132; refine (ron_any _ _).mono ?_; rintro e w' ⟨rfl, rfl⟩)
      go_ret
      rw [F.out]
      exact ⟨rfl, rp, r, Upd.refl _ _⟩
  · have ho' : onB n = false := by simpa using ho
    have F := Lib.hid (show mback M n = (M, 1) by unfold mback; rw [if_neg ho])
    go_enter Try.func90, Try.ntmps90
    go_wp2_with (go_at_call 132; refine (ron_any _ _).mono ?_; rintro e w' ⟨rfl, rfl⟩)
    go_ret
    rw [F.out]
    exact ⟨rfl, rp, r, Upd.refl _ _⟩

set_option maxRecDepth 100000 in
set_option maxHeartbeats 1000000 in
theorem rseal_any (hT : T ≠ 63) (w : World) (P : PoolM) (g : Nat) (M : MapM) (x : Nat → Value) (rp : RPoolRep w m P) (r : RMRep w g T N m M x) (n : Int) :
    Calls Try.prog 92 #[.pointer (some ⟨g, 0, none⟩), .int .i64 n] w (RMPost w m g T N x (P, (mseal M n).1, (mseal M n).2)) := by
  have hne := rmap_ne rp r hT
  by_cases ho : onB n = true
  · have hn := onB_iff.1 ho
    obtain ⟨k, rfl⟩ := Int.eq_ofNat_of_zero_le hn.1
    have hk : k < 16 := by omega
    have c0 := r.l0 hk
    have c1 := r.l1 hk
    have f1 := r.fr (17 + k * 3 + 1)
    by_cases h0 : (M.leaf k).there = true
    · have F := Lib.hid (show mseal M k = (M.setLeaf k { M.leaf k with write := false }, 0) by unfold mseal; rw [if_pos ho]; simp [h0])
      clear hn
      go_enter Try.func92, Try.ntmps92
      go_wp2_with (go_at_call 132; refine (ron_any _ _).mono ?_; rintro e w' ⟨rfl, rfl⟩)
      go_ret
      rw [F.out]
      exact ⟨rfl, rp.keepR1 hne _ _, r.setWrite hk, (Upd.refl (ownR m g) w).setCell (p := ⟨g, 17 + k * 3 + 1, none⟩) (fun _ => .inr rfl) _⟩
    · have h0' : (M.leaf k).there = false := by simpa using h0
      have F := Lib.hid (show mseal M k = (M, 8) by unfold mseal; rw [if_pos ho]; simp [h0'])
      clear hn h0
      go_enter Try.func92, Try.ntmps92
      go_wp2_with (go_at_call 132; refine (ron_any _ _).mono ?_; rintro e w' ⟨rfl, rfl⟩)
      go_ret
      rw [F.out]
      exact ⟨rfl, rp, r, Upd.refl _ _⟩
  · have ho' : onB n = false := by simpa using ho
    have F := Lib.hid (show mseal M n = (M, 1) by unfold mseal; rw [if_neg ho])
    go_enter Try.func92, Try.ntmps92
    go_wp2_with (go_at_call 132; refine (ron_any _ _).mono ?_; rintro e w' ⟨rfl, rfl⟩)
    go_ret
    rw [F.out]
    exact ⟨rfl, rp, r, Upd.refl _ _⟩
end

end U
end Go.Proofs.Ytnhplapcdgnaaaa
