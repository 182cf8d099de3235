import Derived.Test.YtnhplapcdgnaaaaMap
set_option linter.unusedVariables false
set_option linter.unusedSimpArgs false
namespace Go.Proofs.Ytnhplapcdgnaaaa
open Go.RowKit
namespace U

set_option maxRecDepth 100000 in
set_option maxHeartbeats 400000 in
theorem back_any (w : World) (g N p : Nat) (M : MapM) (r : MRep w g 146 N p M) (n : Int) :
    Calls Try.prog 91 #[.pointer (some ⟨g, 0, none⟩), .int .i64 n] w fun e w' => e = .returned (errv (mback M n).2) ∧ MRep w' g 146 N p (mback M n).1 ∧ Upd (at1 g) w w' := by
  by_cases ho : onB n = true
  · have hn := onB_iff.1 ho
    obtain ⟨k, rfl⟩ := Int.eq_ofNat_of_zero_le hn.1
    have hk : k < 16 := by omega
    have c1 := r.st hk
    have f1 := r.fr (1 + k)
    by_cases h0 : M.state k = 2
    · have h0' : (M.state k != 2) = false := by simp [h0]
      have F := Lib.hid (show mback M k = (M.setState k 1, 0) by unfold mback; rw [if_pos ho]; simp [h0])
      clear h0 hn
      go_enter Try.func91, Try.ntmps91
      go_wp2_with (go_at_call 85; refine (on_any _ _).mono ?_; rintro e w' ⟨rfl, rfl⟩)
      go_ret
      exact ⟨by rw [F.out]; rfl, by rw [F.out]; exact r.setState hk, (Upd.refl (at1 g) w).setCell (p := ⟨g, 1 + k, none⟩) (fun _ => at1_self) _⟩
    · have h0' : (M.state k != 2) = true := by simpa using h0
      have F := Lib.hid (show mback M k = (M, 8) by unfold mback; rw [if_pos ho]; simp [h0])
      clear h0 hn
      go_enter Try.func91, Try.ntmps91
      go_wp2_with (go_at_call 85; refine (on_any _ _).mono ?_; rintro e w' ⟨rfl, rfl⟩)
      go_ret
      exact ⟨by rw [F.out]; rfl, by rw [F.out]; exact r, Upd.refl _ _⟩
  · have ho' : onB n = false := by simpa using ho
    have F := Lib.hid (show mback M n = (M, 1) by unfold mback; rw [if_neg ho])
    go_enter Try.func91, Try.ntmps91
    go_wp2_with (go_at_call 85; refine (on_any _ _).mono ?_; rintro e w' ⟨rfl, rfl⟩)
    go_ret
    exact ⟨by rw [F.out]; rfl, by rw [F.out]; exact r, Upd.refl _ _⟩

/-- What a map says of a page. -/
def mstate (M : MapM) (n : Int) : Int × Nat := if onB n then (M.state n.toNat, 0) else (0, 1)
def mleaf (M : MapM) (n : Int) : LeafM × Nat := if onB n then (M.leaf n.toNat, 0) else (LeafM.none, 1)
def LeafM.val (l : LeafM) : Value := .agg #[.bool l.there, .bool l.write, .int .i64 l.frame]

set_option maxRecDepth 100000 in
set_option maxHeartbeats 400000 in
theorem mstate_any (w : World) (g N p : Nat) (M : MapM) (r : MRep w g 146 N p M) (n : Int) :
    Calls Try.prog 95 #[.pointer (some ⟨g, 0, none⟩), .int .i64 n] w fun e w' => e = .returned (.tuple #[.int .i64 (mstate M n).1, errv (mstate M n).2]) ∧ w = w' := by
  by_cases ho : onB n = true
  · have hn := onB_iff.1 ho
    obtain ⟨k, rfl⟩ := Int.eq_ofNat_of_zero_le hn.1
    have hk : k < 16 := by omega
    have c1 := r.st hk
    have F := Lib.hid (show mstate M k = (M.state k, 0) by unfold mstate; rw [if_pos ho]; rfl)
    clear hn
    go_enter Try.func95, Try.ntmps95
    go_wp2_with (go_at_call 85; refine (on_any _ _).mono ?_; rintro e w' ⟨rfl, rfl⟩)
    go_ret2
    exact ⟨by rw [F.out]; rfl, rfl⟩
  · have ho' : onB n = false := by simpa using ho
    have F := Lib.hid (show mstate M n = (0, 1) by unfold mstate; rw [if_neg ho])
    go_enter Try.func95, Try.ntmps95
    go_wp2_with (go_at_call 85; refine (on_any _ _).mono ?_; rintro e w' ⟨rfl, rfl⟩)
    go_ret2
    exact ⟨by rw [F.out]; rfl, rfl⟩

set_option maxRecDepth 100000 in
set_option maxHeartbeats 400000 in
theorem mleaf_any (w : World) (g N p : Nat) (M : MapM) (r : MRep w g 146 N p M) (n : Int) :
    Calls Try.prog 55 #[.pointer (some ⟨g, 0, none⟩), .int .i64 n] w fun e w' => e = .returned (.tuple #[(mleaf M n).1.val, errv (mleaf M n).2]) ∧ Upd Non w w' := by
  by_cases ho : onB n = true
  · have hn := onB_iff.1 ho
    obtain ⟨k, rfl⟩ := Int.eq_ofNat_of_zero_le hn.1
    have hk : k < 16 := by omega
    have c0 := r.l0 hk
    have c1 := r.l1 hk
    have c2 := r.l2 hk
    have lg := r.lt
    have F := Lib.hid (show mleaf M k = (M.leaf k, 0) by unfold mleaf; rw [if_pos ho]; rfl)
    clear hn
    go_enter Try.func55, Try.ntmps55
    go_wp2_with (go_at_call 85; refine (on_any _ _).mono ?_; rintro e w' ⟨rfl, rfl⟩)
    exact bodyPost_ret (v := .tuple #[(M.leaf k).val, .nilIface]) (by simp [results, Try.results55, go_sem, LeafM.val]) rfl ⟨by rw [F.out]; rfl, (Upd.refl _ _).alloc _⟩
  · have ho' : onB n = false := by simpa using ho
    have F := Lib.hid (show mleaf M n = (LeafM.none, 1) by unfold mleaf; rw [if_neg ho])
    go_enter Try.func55, Try.ntmps55
    go_wp2_with (go_at_call 85; refine (on_any _ _).mono ?_; rintro e w' ⟨rfl, rfl⟩)
    exact bodyPost_ret (v := .tuple #[LeafM.none.val, errv 1]) (by simp [results, Try.results55, go_sem, LeafM.val, LeafM.none, errv]) rfl ⟨by rw [F.out], (Upd.refl _ _).alloc _⟩

set_option maxRecDepth 100000 in
set_option maxHeartbeats 400000 in
theorem mseal_any (w : World) (g N p : Nat) (M : MapM) (r : MRep w g 146 N p M) (n : Int) :
    Calls Try.prog 58 #[.pointer (some ⟨g, 0, none⟩), .int .i64 n] w fun e w' => e = .returned (errv (mseal M n).2) ∧ MRep w' g 146 N p (mseal M n).1 ∧ Upd (at1 g) w w' := by
  by_cases ho : onB n = true
  · have hn := onB_iff.1 ho
    obtain ⟨k, rfl⟩ := Int.eq_ofNat_of_zero_le hn.1
    have hk : k < 16 := by omega
    have c0 := r.l0 hk
    have c1 := r.l1 hk
    have f1 := r.fr (17 + k * 3 + 1)
    by_cases h0 : (M.leaf k).there = true
    · have F := Lib.hid (show mseal M k = (M.setLeaf k { M.leaf k with write := false }, 0) by unfold mseal; rw [if_pos ho]; simp [h0])
      clear hn
      go_enter Try.func58, Try.ntmps58
      go_wp2_with (go_at_call 85; refine (on_any _ _).mono ?_; rintro e w' ⟨rfl, rfl⟩)
      go_ret
      exact ⟨by rw [F.out]; rfl, by rw [F.out]; exact r.setWrite hk, (Upd.refl (at1 g) w).setCell (p := ⟨g, 17 + k * 3 + 1, none⟩) (fun _ => at1_self) _⟩
    · have h0' : (M.leaf k).there = false := by simpa using h0
      have F := Lib.hid (show mseal M k = (M, 8) by unfold mseal; rw [if_pos ho]; simp [h0'])
      clear hn h0
      go_enter Try.func58, Try.ntmps58
      go_wp2_with (go_at_call 85; refine (on_any _ _).mono ?_; rintro e w' ⟨rfl, rfl⟩)
      go_ret
      exact ⟨by rw [F.out]; rfl, by rw [F.out]; exact r, Upd.refl _ _⟩
  · have ho' : onB n = false := by simpa using ho
    have F := Lib.hid (show mseal M n = (M, 1) by unfold mseal; rw [if_neg ho])
    go_enter Try.func58, Try.ntmps58
    go_wp2_with (go_at_call 85; refine (on_any _ _).mono ?_; rintro e w' ⟨rfl, rfl⟩)
    go_ret
    exact ⟨by rw [F.out]; rfl, by rw [F.out]; exact r, Upd.refl _ _⟩

theorem PoolRep.keep3 {w : World} {L : PoolAt} {P : PoolM} {g : Nat} (r : PoolRep w L P) (h : g ≠ L.p ∧ g ≠ L.bb ∧ g ≠ L.rb) (i j q : Nat) (x y z : Value) :
    PoolRep (((w.setCell ⟨g, i, none⟩ x).setCell ⟨g, j, none⟩ y).setCell ⟨g, q, none⟩ z) L P :=
  r.upd_ (S := at1 g) (Upd.sc3 (Upd.refl _ _) at1_self _ _ _ _ _ _) (fun e => h.1 e.symm) (fun e => h.2.1 e.symm) (fun e => h.2.2 e.symm)
theorem PoolRep.keep1 {w : World} {L : PoolAt} {P : PoolM} {g : Nat} (r : PoolRep w L P) (h : g ≠ L.p ∧ g ≠ L.bb ∧ g ≠ L.rb) (i : Nat) (x : Value) : PoolRep (w.setCell ⟨g, i, none⟩ x) L P :=
  r.upd_ (S := at1 g) ((Upd.refl _ _).setCell (p := ⟨g, i, none⟩) (fun _ => at1_self) _) (fun e => h.1 e.symm) (fun e => h.2.1 e.symm) (fun e => h.2.2 e.symm)

set_option maxRecDepth 100000 in
set_option maxHeartbeats 400000 in
theorem let_any (w : World) (L : PoolAt) (P : PoolM) (g N : Nat) (M : MapM) (rp : PoolRep w L P) (r : MRep w g 146 N L.p M) (k : Nat) (hk : k < 16) :
    Calls Try.prog 86 #[.pointer (some ⟨g, 0, none⟩), .int .i64 k] w fun e w' => e = .returned (.tuple #[]) ∧ PoolRep w' L (letP P M k) ∧ MRep w' g 146 N L.p (M.setLeaf k LeafM.none) ∧ Upd (ownM L g) w w' := by
  have hne := map_ne rp r (by decide) (by decide) (by decide)
  have cp := r.c0
  have c0 := r.l0 hk
  have c1 := r.l1 hk
  have c2 := r.l2 hk
  have hno : ¬ L.own g := fun h => h.elim hne.2.1 hne.2.2
  by_cases h0 : (M.leaf k).there = true
  · have F := Lib.hid (show letP P M k = (P.share (M.leaf k).frame (-1)).1 by unfold letP; rw [if_pos h0])
    go_enter Try.func86, Try.ntmps86
    go_wp2
    go_region_with (go_at_call 34; refine (drop_any _ L P (by repeat (first | assumption | apply PoolRep.alloc | apply PoolRep.drew | apply PoolRep.drewN)) _).mono ?_; rintro e w2 ⟨rfl, r2, u2⟩; have m2 := MRep.upd_ (by repeat (first | assumption | apply MRep.drew | apply MRep.drewN) : MRep _ g 146 N L.p M) u2 hno; have d0 := m2.l0 hk; have d1 := m2.l1 hk; have d2 := m2.l2 hk; have g0 := m2.fr (17 + k * 3); have g1 := m2.fr (17 + k * 3 + 1); have g2 := m2.fr (17 + k * 3 + 2))
    all_goals go_wp2
    all_goals go_end0
    all_goals exact ⟨rfl, by rw [F.out]; exact r2.keep3 hne _ _ _ _ _ _, m2.setLeaf (l := LeafM.none) hk, ((((Upd.refl _ w).drew).trans u2.toM).sc3 (S := ownM L g) (.inr rfl) _ _ _ _ _ _)⟩
  · have h0' : (M.leaf k).there = false := by simpa using h0
    have g0 := r.fr (17 + k * 3)
    have g1 := r.fr (17 + k * 3 + 1)
    have g2 := r.fr (17 + k * 3 + 2)
    have F := Lib.hid (show letP P M k = P by unfold letP; rw [if_neg h0])
    clear h0
    go_enter Try.func86, Try.ntmps86
    go_wp2
    go_end0
    exact ⟨rfl, by rw [F.out]; exact rp.keep3 hne _ _ _ _ _ _, r.setLeaf (l := LeafM.none) hk, (Upd.refl (ownM L g) w).sc3 (.inr rfl) _ _ _ _ _ _⟩

end U
end Go.Proofs.Ytnhplapcdgnaaaa
