import Derived.Test.YtnhplapcdgnaaaaGreatMapL
import Derived.Outline
set_option linter.unusedVariables false
set_option linter.unusedSimpArgs false
namespace Go.Proofs.YtnhplapcdgnaaaaGreat
open Go.RowKit
namespace U

theorem quiet_ex {P : Program} {f : FuncId} {args : Array Value} {w : World} {n : Nat} {v : Value}
    (h : Calls P f args (w.drewN n) fun e w' => e = .returned v ∧ ∃ m, w' = (w.drewN n).drewN m) : Calls P f args (w.drewN n) fun e w'' => e = .returned v ∧ ∃ m, w'' = w.drewN m :=
  h.mono fun _ _ ⟨he, m, hm⟩ => ⟨he, n + m, by rw [hm]; simp [World.drewN, Nat.add_assoc]⟩

def JoinPost (w : World) (L : PoolAt) (g N : Nat) (x : PoolM × MapM × Nat) (e : Ending) (w' : World) : Prop :=
  e = .returned (errv x.2.2) ∧ PoolRep w' L x.1 ∧ MRep w' g 140 N L.p x.2.1 ∧ Upd (ownM L g) w w'

set_option maxRecDepth 100000 in
set_option maxHeartbeats 2000000 in
theorem join_no (w : World) (L : PoolAt) (P : PoolM) (g N : Nat) (M : MapM) (rp : PoolRep w L P) (r : MRep w g 140 N L.p M) (k : Nat) (hk : k < 16) (fr : Int)
    (hc : ((M.leaf k).there && ((M.leaf k).frame != fr && P.same (M.leaf k).frame fr)) = false) :
    Calls Tryz.prog 125 #[.pointer (some ⟨g, 0, none⟩), .int .i64 k, .int .i64 fr] w (JoinPost w L g N (P, M, 8)) := by
  have ho' : onB k = true := onB_iff.2 ⟨by omega, by omega⟩
  have cp := r.c0
  have c2 := r.l0 hk
  have c3 := r.l1 hk
  have c4 := r.l2 hk
  have lg := r.lt
  cases ht : (M.leaf k).there with
  | false =>
    rw [ht] at c2
    clear ht hc
    go_enter Tryz.func125, Tryz.ntmps125
    go_wp2_with (go_at_call 103; refine (on_any _ _).mono ?_; rintro e w' ⟨rfl, rfl⟩)
    go_quiet (fail)
    go_wp2
    go_ret
    exact ⟨rfl, (rp.alloc _).drewN _, (r.alloc _).drewN _, ((Upd.refl _ _).alloc _).drewN _⟩
  | true =>
    rw [ht] at c2
    by_cases hf : (M.leaf k).frame = fr
    · have hf' : ((M.leaf k).frame == fr) = true := by simpa using hf
      clear ht hc hf
      go_enter Tryz.func125, Tryz.ntmps125
      go_wp2_with (go_at_call 103; refine (on_any _ _).mono ?_; rintro e w' ⟨rfl, rfl⟩)
      go_quiet (fail)
      go_wp2
      go_ret
      exact ⟨rfl, (rp.alloc _).drewN _, (r.alloc _).drewN _, ((Upd.refl _ _).alloc _).drewN _⟩
    · have hf' : ((M.leaf k).frame == fr) = false := by simpa using hf
      have hs : P.same (M.leaf k).frame fr = false := by
        rw [ht] at hc
        have hne : ((M.leaf k).frame != fr) = true := by simpa using hf
        rw [hne] at hc
        simpa using hc
      have HS := Lib.hid hs
      clear ht hc hf hs
      go_enter Tryz.func125, Tryz.ntmps125
      go_wp2_with (go_at_call 103; refine (on_any _ _).mono ?_; rintro e w' ⟨rfl, rfl⟩)
      go_quiet ((go_at_call 73; exact quiet_ex (HS.out ▸ same_any _ L P ((rp.alloc _).drewN _) _ _)))
      go_wp2
      go_ret
      exact ⟨rfl, (rp.alloc _).drewN _, (r.alloc _).drewN _, ((Upd.refl _ _).alloc _).drewN _⟩

/-- What stands while a page is joined: the pool, the map, the box of its leaf. -/
structure Jn (w W : World) (L : PoolAt) (g N : Nat) (M : MapM) (k : Nat) (P : PoolM) : Prop where
  rp : PoolRep W L P
  m : MRep W g 140 N L.p M
  bx : W.heap[w.heap.size]? = some (.cells #[.bool (M.leaf k).there, .bool (M.leaf k).write, .int .i64 (M.leaf k).frame] 88 (0, 0))
  up : Upd (ownM L g) w W
section
variable {w W W' : World} {L : PoolAt} {g N k : Nat} {M : MapM} {P P' : PoolM}
theorem Jn.drewN (t : Jn w W L g N M k P) (n : Nat) : Jn w (W.drewN n) L g N M k P := ⟨t.rp.drewN n, t.m.drewN n, t.bx, t.up.drewN n⟩
theorem Jn.drew (t : Jn w W L g N M k P) : Jn w W.drew L g N M k P := t.drewN 1
theorem Jn.step (t : Jn w W L g N M k P) (h1 : ¬ L.own g) (h2 : ¬ L.own w.heap.size) (r : PoolRep W' L P') (u : Upd L.own W W') : Jn w W' L g N M k P' :=
  ⟨r, t.m.upd_ u h1, (u.block _ (heap_lt t.bx) h2).trans t.bx, t.up.trans u.toM⟩
theorem Jn.b2 (t : Jn w W L g N M k P) : W.cell? ⟨w.heap.size, 2, none⟩ = some (.int .i64 (M.leaf k).frame) := by rw [cell_of_row _ _ 2 _ _ _ t.bx]; rfl
end

set_option maxRecDepth 100000 in
set_option maxHeartbeats 2000000 in
theorem join_yes (w : World) (L : PoolAt) (P : PoolM) (g N : Nat) (M : MapM) (rp : PoolRep w L P) (r : MRep w g 140 N L.p M) (k : Nat) (hk : k < 16) (fr : Int)
    (ht : (M.leaf k).there = true) (hf : (M.leaf k).frame ≠ fr) (hs : P.same (M.leaf k).frame fr = true) :
    Calls Tryz.prog 125 #[.pointer (some ⟨g, 0, none⟩), .int .i64 k, .int .i64 fr] w
      (JoinPost w L g N (((P.share fr 1).1.share (M.leaf k).frame (-1)).1, M.setLeaf k ⟨true, false, fr⟩, 0)) := by
  have ho' : onB k = true := onB_iff.2 ⟨by omega, by omega⟩
  have cp := r.c0
  have c2 := r.l0 hk
  have c3 := r.l1 hk
  have c4 := r.l2 hk
  have lg := r.lt
  have hne := map_ne rp r (by decide) (by decide) (by decide)
  have hno : ¬ L.own g := fun h => h.elim hne.2.1 hne.2.2
  have hl := rp.lts'
  have hno2 : ¬ L.own w.heap.size := by unfold PoolAt.own; omega
  have J0 : Jn w (w.alloc (.cells #[.bool (M.leaf k).there, .bool (M.leaf k).write, .int .i64 (M.leaf k).frame] 88)) L g N M k P := ⟨rp.alloc _, r.alloc _, heap_alloc_new w _, (Upd.refl _ _).alloc _⟩
  rw [ht] at c2
  have hf' : ((M.leaf k).frame == fr) = false := by simpa using hf
  have HS := Lib.hid hs
  have HT := Lib.hid ht
  clear ht hf hs
  go_enter Tryz.func125, Tryz.ntmps125
  go_wp2_with (go_at_call 103; refine (on_any _ _).mono ?_; rintro e w' ⟨rfl, rfl⟩)
  go_quiet ((go_at_call 73; exact quiet_ex (HS.out ▸ same_any _ L P ((rp.alloc _).drewN _) _ _)))
  rw [HT.out] at J0
  go_wp2_with (go_at_call 133; refine (share_any _ L P (by repeat (first | assumption | apply Jn.drew | apply Jn.drewN) : Jn w _ L g N M k _).rp _).mono ?_; rintro e w2 ⟨rfl, r2, u2⟩; have J2 := Jn.step (by repeat (first | assumption | apply Jn.drew | apply Jn.drewN) : Jn w _ L g N M k _) hno hno2 r2 u2; have d0 := J2.m.c0; have d2 := J2.b2; have l2 := heap_lt J2.bx)
  go_region_with (go_at_call 122; refine (drop_any _ L _ (Jn.rp (by repeat (first | assumption | apply Jn.drew | apply Jn.drewN) : Jn w _ L g N M k _)) _).mono ?_; rintro e w3 ⟨rfl, r3, u3⟩; have J3 := Jn.step (by repeat (first | assumption | apply Jn.drew | apply Jn.drewN) : Jn w _ L g N M k _) hno hno2 r3 u3; have e0 := J3.m.l0 hk; have e1 := J3.m.l1 hk; have e2 := J3.m.l2 hk; have g0 := J3.m.fr (17 + k * 3); have g1 := J3.m.fr (17 + k * 3 + 1); have g2 := J3.m.fr (17 + k * 3 + 2))
  all_goals go_wp2
  all_goals go_ret
  all_goals exact ⟨rfl, (Jn.rp (by repeat (first | assumption | apply Jn.drew | apply Jn.drewN) : Jn w _ L g N M k _)).keep3 hne _ _ _ _ _ _, (Jn.m (by repeat (first | assumption | apply Jn.drew | apply Jn.drewN) : Jn w _ L g N M k _)).setLeaf (l := ⟨true, false, fr⟩) hk, (Jn.up (by repeat (first | assumption | apply Jn.drew | apply Jn.drewN) : Jn w _ L g N M k _)).sc3 (S := ownM L g) (.inr rfl) _ _ _ _ _ _⟩

theorem join_any (w : World) (L : PoolAt) (P : PoolM) (g N : Nat) (M : MapM) (rp : PoolRep w L P) (r : MRep w g 140 N L.p M) (n fr : Int) :
    Calls Tryz.prog 125 #[.pointer (some ⟨g, 0, none⟩), .int .i64 n, .int .i64 fr] w (JoinPost w L g N (mjoin P M n fr)) := by
  by_cases ho : onB n = true
  · obtain ⟨k, rfl⟩ := Int.eq_ofNat_of_zero_le (onB_iff.1 ho).1
    have hk : k < 16 := by have := (onB_iff.1 ho).2; omega
    by_cases hc : ((M.leaf k).there && ((M.leaf k).frame != fr && P.same (M.leaf k).frame fr)) = true
    · have hc' := hc
      rw [Bool.and_eq_true, Bool.and_eq_true] at hc
      have e : mjoin P M k fr = (((P.share fr 1).1.share (M.leaf k).frame (-1)).1, M.setLeaf k ⟨true, false, fr⟩, 0) := by
        unfold mjoin
        rw [if_pos ho, Int.toNat_natCast, if_pos hc']
      rw [e]
      exact join_yes w L P g N M rp r k hk fr hc.1 (by simpa using hc.2.1) hc.2.2
    · have e : mjoin P M k fr = (P, M, 8) := by
        unfold mjoin
        rw [if_pos ho, Int.toNat_natCast, if_neg hc]
      rw [e]
      exact join_no w L P g N M rp r k hk fr (by simpa using hc)
  · have e : mjoin P M n fr = (P, M, 1) := by unfold mjoin; rw [if_neg ho]
    have ho' : onB n = false := by simpa using ho
    rw [e]
    clear ho e
    go_enter Tryz.func125, Tryz.ntmps125
    go_wp2_with (go_at_call 103; refine (on_any _ _).mono ?_; rintro e w' ⟨rfl, rfl⟩)
    go_ret
    exact ⟨rfl, rp, r, Upd.refl _ _⟩

end U
end Go.Proofs.YtnhplapcdgnaaaaGreat
