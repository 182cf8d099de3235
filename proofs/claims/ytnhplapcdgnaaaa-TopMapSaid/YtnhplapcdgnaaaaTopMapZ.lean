import Derived.Test.YtnhplapcdgnaaaaTopMapF
set_option linter.unusedVariables false
set_option linter.unusedSimpArgs false
namespace Go.Proofs.Ytnhplapcdgnaaaa
open Go.RowKit
namespace U

set_option maxRecDepth 100000 in
set_option maxHeartbeats 400000 in
theorem topMap_law (w : World) (n : Int) (A : Option Addr) (cap : Nat) (l : List ActM) (hl : ActsAt w A l) :
    Calls Try.prog 8 #[.int .i64 n, .slice A l.length cap] w fun e w' => e = .returned (.bool true) ∧ Upd Non w w' := by
  by_cases h1 : n < 1
  · go_enter Try.func8, Try.ntmps8
    go_wp2_with (first
      | (go_at_call 28; refine (new_bad _ n (.inl h1)).mono ?_; rw [show errv 1 = .iface 130 (.int .i64 1) from rfl]; rintro e w1 ⟨rfl, rfl⟩))
    go_ret
    exact ⟨rfl, Upd.refl _ _⟩
  · by_cases h2 : 64 < n
    · go_enter Try.func8, Try.ntmps8
      go_wp2_with (first
        | (go_at_call 28; refine (new_bad _ n (.inr h2)).mono ?_; rw [show errv 1 = .iface 130 (.int .i64 1) from rfl]; rintro e w1 ⟨rfl, rfl⟩))
      go_ret
      exact ⟨rfl, Upd.refl _ _⟩
    · obtain ⟨k, rfl⟩ := Int.eq_ofNat_of_zero_le (by omega : 0 ≤ n)
      by_cases h80 : (l.length : Int) ≤ 80
      · exact topMap_go w k (by omega) (by omega) A cap l hl h80
      · go_enter Try.func8, Try.ntmps8
        go_wp2_with (first
          | (go_at_call 28; refine (new_ok _ k (by omega) (by omega)).mono ?_; rintro e w1 ⟨L, rfl, r, u, l1, l2, l3⟩)
          | (go_at_call 13; refine (light_law _ _ _ _ _).mono ?_; rw [show decide ((l.length : Int) ≤ 80) = false from decide_eq_false (by omega)]; rintro e w2 ⟨rfl, rfl⟩))
        go_ret
        exact ⟨rfl, u⟩

end U
end Go.Proofs.Ytnhplapcdgnaaaa
