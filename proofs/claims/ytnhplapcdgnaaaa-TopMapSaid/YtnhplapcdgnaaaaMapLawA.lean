import Derived.Test.YtnhplapcdgnaaaaRMapD
import Derived.Test.YtnhplapcdgnaaaaLawB
import Derived.Deep.RegionHeld3
import Derived.Outline
set_option linter.unusedVariables false
set_option linter.unusedSimpArgs false
namespace Go.Proofs.Ytnhplapcdgnaaaa
open Go.RowKit
namespace U

theorem leaf_val (l : LeafM) : l.val = .agg #[.bool l.there, .bool l.write, .int .i64 l.frame] := rfl
set_option maxRecDepth 100000 in
set_option maxHeartbeats 2000000 in
theorem asMap_law (w : World) (g p r m N : Nat) (M : MapM) (x : Nat → Value) (hg : MRep w g 146 N p M) (hr : RMRep w r 93 65 m M x) :
    Calls Try.prog 53 #[.pointer (some ⟨g, 0, none⟩), .pointer (some ⟨r, 0, none⟩)] w fun e w' => e = .returned (.bool true) ∧ Upd Non w w' := by
  go_enter Try.func53, Try.ntmps53
  go_wp2_with fail
  go_loopw [5] (fun i wr => ∃ n : Int, -1 ≤ n ∧ n ≤ 17 ∧ i = .int .i64 n ∧ Hid (Upd Non w wr)) (fun i _ => (17 - intOf i).toNat)
  case atStart => exact ⟨-1, by omega, by omega, rfl, Upd.refl _ _⟩
  case round =>
    obtain ⟨n, hn0, hn1, rfl, hU⟩ := hrel
    have g1 := hg.upd_ hU.out (fun h => h)
    have r1 := hr.upd_ hU.out (fun h => h)
    by_cases hlt : n ≤ 16
    · by_cases hon : onB n = true
      · have hn := onB_iff.1 hon
        obtain ⟨k, rfl⟩ := Int.eq_ofNat_of_zero_le hn.1
        have hk : k < 16 := by omega
        have F1 := Lib.hid (show mstate M k = (M.state k, 0) by unfold mstate; rw [if_pos hon]; rfl)
        have F2 := Lib.hid (show mleaf M k = (M.leaf k, 0) by unfold mleaf; rw [if_pos hon]; rfl)
        have hk' : (k : Int) < 16 := by omega
        have hk2 : ¬ ((k : Int) < 0) := by omega
        have hk3 : ¬ (15 < (k : Int)) := by omega
        clear hon hn
        go_wp2_with (first
          | (go_at_call 95; refine (mstate_any _ g N p M g1 _).mono ?_; rw [F1.out]; rintro e w1 ⟨rfl, rfl⟩; unfold errv)
          | (go_at_call 55; refine (mleaf_any _ g N p M g1 _).mono ?_; rw [F2.out]; rintro e w1 ⟨rfl, u1⟩; unfold errv LeafM.val; have r2 := r1.upd_ u1 (fun h => h); have c0 := r2.st hk; have c1 := r2.l0 hk; have c2 := r2.l1 hk; have c3 := r2.l2 hk; have lr := r2.lt)
          | fail)
        go_quiet (fail)
        go_wp2
        go_roundw
        case rel => exact ⟨k + 1, by omega, by omega, by go_num, ((hU.out.trans u1).alloc _).drewN _⟩
        case measure => simp [intOf]; omega
      · have F1 := Lib.hid (show mstate M n = (0, 1) by unfold mstate; rw [if_neg hon])
        have F2 := Lib.hid (show mleaf M n = (LeafM.none, 1) by unfold mleaf; rw [if_neg hon])
        have hon' : n < 0 ∨ 15 < n := by by_cases h : 0 ≤ n; right; by_cases h2 : n < 16; exact absurd (onB_iff.2 ⟨h, h2⟩) hon; omega; left; omega
        rcases hon' with h | h
        · clear hon
          go_wp2_with (first
            | (go_at_call 95; refine (mstate_any _ g N p M g1 _).mono ?_; rw [F1.out]; rintro e w1 ⟨rfl, rfl⟩)
            | (go_at_call 55; refine (mleaf_any _ g N p M g1 _).mono ?_; rw [F2.out]; rintro e w1 ⟨rfl, u1⟩; unfold LeafM.val)
            | (go_at_call 29; refine (same_law _ 1 1).mono ?_; rintro e w9 ⟨rfl, rfl⟩)
            | fail)
          go_roundw
          case rel => exact ⟨n + 1, by omega, by omega, by go_num, (hU.out.trans u1).alloc _⟩
          case measure => simp [intOf]; omega
        · have h' : ¬ n < 0 := by omega
          clear hon
          go_wp2_with (first
            | (go_at_call 95; refine (mstate_any _ g N p M g1 _).mono ?_; rw [F1.out]; rintro e w1 ⟨rfl, rfl⟩)
            | (go_at_call 55; refine (mleaf_any _ g N p M g1 _).mono ?_; rw [F2.out]; rintro e w1 ⟨rfl, u1⟩; unfold LeafM.val)
            | (go_at_call 29; refine (same_law _ 1 1).mono ?_; rintro e w9 ⟨rfl, rfl⟩)
            | fail)
          go_roundw
          case rel => exact ⟨n + 1, by omega, by omega, by go_num, (hU.out.trans u1).alloc _⟩
          case measure => simp [intOf]; omega
    · go_wp2
      go_ret
      exact ⟨rfl, hU.out⟩

end U
end Go.Proofs.Ytnhplapcdgnaaaa
