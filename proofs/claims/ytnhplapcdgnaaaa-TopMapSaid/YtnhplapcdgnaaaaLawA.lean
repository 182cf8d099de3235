import Derived.Test.YtnhplapcdgnaaaaRPoolX
import Derived.LaidEql
import Derived.Lib.Hide
set_option linter.unusedVariables false
set_option linter.unusedSimpArgs false
namespace Go.Proofs.Ytnhplapcdgnaaaa
open Go.RowKit
namespace U

theorem ret_bool {a b : Bool} (h : a = b) : Ending.returned (.bool a) = .returned (.bool b) := by rw [h]
theorem errv_zero : errv 0 = .nilIface := rfl
theorem errv_pos {a : Nat} (h : a ≠ 0) : errv a = .iface 130 (.int .i64 a) := by unfold errv; rw [if_neg h]

set_option maxRecDepth 100000 in
set_option maxHeartbeats 400000 in
theorem same_law (w : World) (a b : Nat) :
    Calls Try.prog 29 #[errv a, .int .i64 b] w fun e w' => e = .returned (.bool (a == b)) ∧ w = w' := by
  by_cases h0 : a = 0
  · subst h0
    rw [errv_zero]
    go_enter Try.func29, Try.ntmps29
    go_wp2
    go_ret
    exact ⟨ret_bool (by rw [Bool.eq_iff_iff]; simp; omega), rfl⟩
  · rw [errv_pos h0]
    have ta : ∀ w, (Instr.typeAssert (.iface 130 (.int .i64 a)) 54 130 true).run Try.prog w = .ok (.tuple #[.int .i64 a, .bool true]) w := fun w => by kernel_rfl
    go_enter Try.func29, Try.ntmps29
    go_wp2
    all_goals go_ret
    all_goals exact ⟨ret_bool (by rw [Bool.eq_iff_iff]; simp; try omega), rfl⟩

theorem light_law (w : World) (A : Option Addr) (len cap : Nat) (k : Int) :
    Calls Try.prog 13 #[.slice A len cap, .int .i64 k] w fun e w' => e = .returned (.bool (decide ((len : Int) ≤ k))) ∧ w = w' := by
  go_enter Try.func13, Try.ntmps13
  go_wp2
  go_ret
  exact ⟨rfl, rfl⟩

theorem natAbs_same (w : World) {a b : Nat} (x y : Value) (hx : x = errv a) (hy : y = .int .i64 b) :
    Calls Try.prog 29 #[x, y] w fun e w' => e = .returned (.bool (a == b)) ∧ w = w' := by subst hx; subst hy; exact same_law w a b

set_option maxRecDepth 100000 in
set_option maxHeartbeats 1000000 in
theorem asPool_law (w : World) (L : PoolAt) (m : Nat) (P : PoolM) (r : PoolRep w L P) (s : RPoolRep w m P) (hpos : ∀ i, 0 ≤ P.refs i) :
    Calls Try.prog 44 #[.pointer (some ⟨L.p, 0, none⟩), .pointer (some ⟨m, 0, none⟩)] w fun e w' => e = .returned (.bool true) ∧ Upd Non w w' := by
  have c0 := s.c0
  have n64 := r.n64
  go_enter Try.func44, Try.ntmps44
  go_wp2_with fail
  go_quiet (first | exact quiet_same (size_any _ _ _ (r.drewN _)) | exact quiet_same (left_any _ _ _ (r.drewN _)) | exact quiet_same (rleft_any _ _ _ (s.drewN _)))
  go_wp2_with fail
  go_loopw [5] (fun i wr => ∃ f : Int, -1 ≤ f ∧ f ≤ P.n + 1 ∧ i = .int .i64 f ∧ Hid (Upd Non w wr)) (fun i _ => ((P.n : Int) + 1 - intOf i).toNat)
  case atStart => exact ⟨-1, by omega, by omega, rfl, (Upd.refl _ _).drewN _⟩
  case round =>
    obtain ⟨f, hf0, hf1, rfl, hU⟩ := hrel
    have r1 := r.upd_ hU.out (fun h => h) (fun h => h) (fun h => h)
    have s1 := s.upd_ hU.out (fun h => h)
    have U1 := hU.out
    clear c0
    have c0 := s1.c0
    by_cases hlt : f ≤ P.n
    · go_wp2_with (first
        | (go_at_call 46; refine (of_any _ L P (by repeat (first | assumption | apply PoolRep.alloc | apply PoolRep.drew | apply PoolRep.drewN)) _).mono ?_; rintro e w1 ⟨rfl, u1⟩; unfold frameV; have rp := PoolRep.upd_ (by repeat (first | assumption | apply PoolRep.alloc | apply PoolRep.drew | apply PoolRep.drewN)) u1 (fun h => h) (fun h => h) (fun h => h); have rs := RPoolRep.upd_ (by repeat (first | assumption | apply RPoolRep.alloc | apply RPoolRep.drew | apply RPoolRep.drewN)) u1 (fun h => h); have U2 := Upd.trans (by repeat (first | assumption | apply Upd.alloc | apply Upd.drew | apply Upd.drewN | exact Upd.refl _ _)) u1; obtain ⟨hc, hfr⟩ := u1.cells; have hz := u1.size; try simp at hz; try replace hz := Nat.lt_of_succ_le hz)
        | (go_at_call 82; refine (rof_any _ m P (by repeat (first | assumption | apply RPoolRep.alloc | apply RPoolRep.drew | apply RPoolRep.drewN)) _ (hpos _)).mono ?_; rintro e w1 ⟨rfl, u1⟩; unfold frameV; have rp := PoolRep.upd_ (by repeat (first | assumption | apply PoolRep.alloc | apply PoolRep.drew | apply PoolRep.drewN)) u1 (fun h => h) (fun h => h) (fun h => h); have rs := RPoolRep.upd_ (by repeat (first | assumption | apply RPoolRep.alloc | apply RPoolRep.drew | apply RPoolRep.drewN)) u1 (fun h => h); have U2 := Upd.trans (by repeat (first | assumption | apply Upd.alloc | apply Upd.drew | apply Upd.drewN | exact Upd.refl _ _)) u1; obtain ⟨hc, hfr⟩ := u1.cells; have hz := u1.size; try simp at hz; try replace hz := Nat.lt_of_succ_le hz)
        | (go_at_call 83; refine (sum_any _ L P (by repeat (first | assumption | apply PoolRep.alloc | apply PoolRep.drew | apply PoolRep.drewN)) _).mono ?_; rintro e w1 ⟨rfl, rfl⟩)
        | (go_at_call 84; refine (rsum_any _ m P (by repeat (first | assumption | apply RPoolRep.alloc | apply RPoolRep.drew | apply RPoolRep.drewN)) _).mono ?_; rintro e w1 ⟨rfl, n, rfl⟩)
        | (go_at_call 29; refine (same_law _ _ _).mono ?_; rintro e w1 ⟨rfl, rfl⟩)
        | fail)
      have U3 : Hid (Upd Non w _) := Lib.hid (Upd.drewN (Upd.alloc (by assumption : Upd Non w w1) (.cells #[.int .i64 (P.of f).1, .int .i64 (P.of f).2.1] 81)) n)
      clear hc hfr hz U2 rp rs u1
      go_loopw [14] (fun i wr => ∃ q : Nat, q ≤ 16 ∧ i = .int .i64 q ∧ Hid (Upd Non w wr)) (fun i _ => 16 - (intOf i).toNat)
      case atStart => exact ⟨0, by omega, rfl, U3⟩
      case round =>
        obtain ⟨q, hq, rfl, hV⟩ := hrel
        rename_i wq _ _
        by_cases hlq : q < 16
        · go_wp2_with (first
            | (go_at_call 35; refine (get_any _ L P (r.upd_ hV.out (fun h => h) (fun h => h) (fun h => h)) _ _).mono ?_; rintro e w1 ⟨rfl, rfl⟩)
            | (go_at_call 36; refine (rget_any _ m P (s.upd_ hV.out (fun h => h)) _ _).mono ?_; rintro e w1 ⟨rfl, rfl⟩)
            | (go_at_call 29; refine (same_law _ _ _).mono ?_; rintro e w1 ⟨rfl, rfl⟩))
          go_roundw
          case rel => exact ⟨q + 1, by omega, by go_num, hV⟩
          case measure => simp [intOf]; omega
        · go_wp2
          go_roundw
          case rel => exact ⟨f + 1, by omega, by omega, rfl, hV.out⟩
          case measure => simp [intOf]; omega
    · go_wp2
      go_ret
      exact ⟨rfl, U1⟩

end U
end Go.Proofs.Ytnhplapcdgnaaaa
