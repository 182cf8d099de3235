import Derived.Test.YtnhplapcdgnaaaaRMapC
import Derived.Outline
set_option linter.unusedVariables false
set_option linter.unusedSimpArgs false
namespace Go.Proofs.Ytnhplapcdgnaaaa
open Go.RowKit
namespace U

section
variable {T N m : Nat}
set_option maxRecDepth 100000 in
set_option maxHeartbeats 2000000 in
theorem rjoin_no (w : World) (P : PoolM) (g : Nat) (M : MapM) (x : Nat → Value) (rp : RPoolRep w m P) (r : RMRep w g T N m M x) (k : Nat) (hk : k < 16) (fr : Int)
    (hc : ((M.leaf k).there && ((M.leaf k).frame != fr && P.same (M.leaf k).frame fr)) = false) :
    Calls Try.prog 93 #[.pointer (some ⟨g, 0, none⟩), .int .i64 k, .int .i64 fr] w (RMPost w m g T N x (P, M, 8)) := by
  have ho' : onB k = true := onB_iff.2 ⟨by omega, by omega⟩
  have cp := r.c0
  have c2 := r.l0 hk
  have c3 := r.l1 hk
  have c4 := r.l2 hk
  have lg := r.lt
  cases ht : (M.leaf k).there with
  | false =>
    rw [ht] at c2
    clear ht hc
    go_enter Try.func93, Try.ntmps93
    go_wp2_with (go_at_call 132; refine (ron_any _ _).mono ?_; rintro e w' ⟨rfl, rfl⟩)
    go_ret
    exact ⟨rfl, rp.alloc _, r.alloc _, (Upd.refl _ _).alloc _⟩
  | true =>
    rw [ht] at c2
    by_cases hf : (M.leaf k).frame = fr
    · have hf' : ((M.leaf k).frame != fr) = false := by simpa using hf
      clear ht hc hf
      go_enter Try.func93, Try.ntmps93
      go_wp2_with (go_at_call 132; refine (ron_any _ _).mono ?_; rintro e w' ⟨rfl, rfl⟩)
      go_ret
      exact ⟨rfl, rp.alloc _, r.alloc _, (Upd.refl _ _).alloc _⟩
    · have hf' : ((M.leaf k).frame != fr) = true := by simpa using hf
      have hs : P.same (M.leaf k).frame fr = false := by
        rw [ht, hf'] at hc
        simpa using hc
      have HS := Lib.hid hs
      clear ht hc hf hs
      go_enter Try.func93, Try.ntmps93
      go_wp2_with (go_at_call 132; refine (ron_any _ _).mono ?_; rintro e w' ⟨rfl, rfl⟩)
      go_quiet ((go_at_call 42; exact quiet_ex (HS.out ▸ rsame_any _ m P ((rp.alloc _).drewN _) _ _)))
      go_wp2
      go_ret
      exact ⟨rfl, (rp.alloc _).drewN _, (r.alloc _).drewN _, ((Upd.refl _ _).alloc _).drewN _⟩

set_option maxRecDepth 100000 in
set_option maxHeartbeats 2000000 in
theorem rjoin_yes (hT : T ≠ 63) (w : World) (P : PoolM) (g : Nat) (M : MapM) (x : Nat → Value) (rp : RPoolRep w m P) (r : RMRep w g T N m M x) (k : Nat) (hk : k < 16) (fr : Int)
    (ht : (M.leaf k).there = true) (hf : (M.leaf k).frame ≠ fr) (hs : P.same (M.leaf k).frame fr = true) :
    Calls Try.prog 93 #[.pointer (some ⟨g, 0, none⟩), .int .i64 k, .int .i64 fr] w
      (RMPost w m g T N x (((P.share fr 1).1.share (M.leaf k).frame (-1)).1, M.setLeaf k ⟨true, false, fr⟩, 0)) := by
  have ho' : onB k = true := onB_iff.2 ⟨by omega, by omega⟩
  have hne := rmap_ne rp r hT
  have cp := r.c0
  have c2 := r.l0 hk
  have c3 := r.l1 hk
  have c4 := r.l2 hk
  have lg := r.lt
  have lm := rp.lt
  have hwm : w.heap.size ≠ m := by omega
  have J0 : RMv w (w.alloc (.cells #[.bool (M.leaf k).there, .bool (M.leaf k).write, .int .i64 (M.leaf k).frame] 33)) m g T N M x k P := ⟨rp.alloc _, r.alloc _, heap_alloc_new w _, (Upd.refl _ _).alloc _⟩
  rw [ht] at c2 J0
  have hf' : ((M.leaf k).frame != fr) = true := by simpa using hf
  have HS := Lib.hid hs
  have HT := Lib.hid ht
  clear ht hf hs
  go_enter Try.func93, Try.ntmps93
  go_wp2_with (go_at_call 132; refine (ron_any _ _).mono ?_; rintro e w' ⟨rfl, rfl⟩)
  go_quiet ((go_at_call 42; exact quiet_ex (HS.out ▸ rsame_any _ m P ((rp.alloc _).drewN _) _ _)))
  go_wp2_with (go_at_call 33; refine (rshare_any _ m P (by repeat (first | assumption | apply RMv.drew | apply RMv.drewN) : RMv w _ m g T N M x k _).rp _ _).mono ?_; rintro e w2 ⟨rfl, r2, u2⟩; have J2 := RMv.step (by repeat (first | assumption | apply RMv.drew | apply RMv.drewN) : RMv w _ m g T N M x k _) hne hwm r2 u2; have d0 := J2.mr.c0; have d2 := J2.b2; have l2 := heap_lt J2.bx)
  go_region_with (go_at_call 33; refine (rshare_any _ m _ (RMv.rp (by repeat (first | assumption | apply RMv.drew | apply RMv.drewN) : RMv w _ m g T N M x k _)) _ _).mono ?_; rintro e w4 ⟨rfl, r4, u4⟩; have J4 := RMv.step (by repeat (first | assumption | apply RMv.drew | apply RMv.drewN) : RMv w _ m g T N M x k _) hne hwm r4 u4; have e0 := J4.mr.l0 hk; have e1 := J4.mr.l1 hk; have e2 := J4.mr.l2 hk; have g0 := J4.mr.fr (17 + k * 3); have g1 := J4.mr.fr (17 + k * 3 + 1); have g2 := J4.mr.fr (17 + k * 3 + 2))
  all_goals go_wp2
  all_goals go_ret
  all_goals exact ⟨rfl, RPoolRep.keepR3 r4 hne _ _ _ _ _ _, J4.mr.setLeaf (l := ⟨true, false, fr⟩) hk, J4.up.sc3 (S := ownR m g) (.inr rfl) _ _ _ _ _ _⟩

theorem rjoin_any (hT : T ≠ 63) (w : World) (P : PoolM) (g : Nat) (M : MapM) (x : Nat → Value) (rp : RPoolRep w m P) (r : RMRep w g T N m M x) (n fr : Int) :
    Calls Try.prog 93 #[.pointer (some ⟨g, 0, none⟩), .int .i64 n, .int .i64 fr] w (RMPost w m g T N x (mjoin P M n fr)) := by
  by_cases ho : onB n = true
  · obtain ⟨k, rfl⟩ := Int.eq_ofNat_of_zero_le (onB_iff.1 ho).1
    have hk : k < 16 := by have := (onB_iff.1 ho).2; omega
    by_cases hc : ((M.leaf k).there && ((M.leaf k).frame != fr && P.same (M.leaf k).frame fr)) = true
    · have hc' := hc
      rw [Bool.and_eq_true, Bool.and_eq_true] at hc
      have e : mjoin P M k fr = (((P.share fr 1).1.share (M.leaf k).frame (-1)).1, M.setLeaf k ⟨true, false, fr⟩, 0) := by
        unfold mjoin
        rw [if_pos ho, Int.toNat_natCast, if_pos hc']
      rw [e]
      exact rjoin_yes hT w P g M x rp r k hk fr hc.1 (by simpa using hc.2.1) hc.2.2
    · have e : mjoin P M k fr = (P, M, 8) := by
        unfold mjoin
        rw [if_pos ho, Int.toNat_natCast, if_neg hc]
      rw [e]
      exact rjoin_no w P g M x rp r k hk fr (by simpa using hc)
  · have e : mjoin P M n fr = (P, M, 1) := by unfold mjoin; rw [if_neg ho]
    have ho' : onB n = false := by simpa using ho
    rw [e]
    clear ho e
    go_enter Try.func93, Try.ntmps93
    go_wp2_with (go_at_call 132; refine (ron_any _ _).mono ?_; rintro e w' ⟨rfl, rfl⟩)
    go_ret
    exact ⟨rfl, rp, r, Upd.refl _ _⟩
end

end U
end Go.Proofs.Ytnhplapcdgnaaaa
