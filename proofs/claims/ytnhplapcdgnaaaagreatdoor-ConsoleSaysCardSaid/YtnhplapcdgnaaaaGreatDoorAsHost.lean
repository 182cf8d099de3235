import Derived.Test.YtnhplapcdgnaaaaGreatDoorRHostEX
import Derived.Test.YtnhplapcdgnaaaaGreatDoorAsX
import Derived.Test.YtnhplapcdgnaaaaGreatDoorHostGx
import Derived.Test.YtnhplapcdgnaaaaGreatDoorRGuestEX
import Derived.Test.YtnhplapcdgnaaaaGreatDoorMapLawX
import Derived.Test.YtnhplapcdgnaaaaGreatDoorLawX
import Derived.Deep.RegionHeld3
set_option linter.unusedVariables false
set_option linter.unusedSimpArgs false
namespace Go.Proofs.YtnhplapcdgnaaaaGreatDoor
open Go.RowKit
namespace U

/-! The law asHost. -/
theorem NRow.toI {w : World} {v : Value} {L : List Int} (h : NRow w v L) : IAt w v L := by
  rcases h with h | ⟨g, o, cap, C, rfl, h1, h2, h3, h4, h5⟩
  · exact .inl h
  · exact .inr ⟨g, o, cap, rfl, (Array.getElem?_eq_some_iff.1 h3).1, h5⟩
theorem of_norm (P : PoolM) (f : Int) : P.norm.of f = P.of f := by
  unfold PoolM.of
  by_cases h : f < 0 ∨ (P.n : Int) ≤ f
  · rw [if_pos h, if_pos (show f < 0 ∨ (P.norm.n : Int) ≤ f from h)]
  · rw [if_neg h, if_neg (show ¬ (f < 0 ∨ (P.norm.n : Int) ≤ f) from h)]
    have : f.toNat < P.n := by omega
    unfold PoolM.norm
    dsimp only
    rw [if_pos this]
theorem HInv.pos {H : HostM} (h : HInv H) : ∀ i, 0 ≤ H.p.norm.refs i := norm_pos fun i hi => by rw [h.cnt i hi]; exact Int.natCast_nonneg _
theorem gl_len4' (H : HostM) : (ints_of (gl H)).length ≤ 1000 := by
  have := glK_length H 4
  unfold ints_of
  rw [List.length_map, ← glK_four]
  omega
section
variable {w : World} {h : Nat} {L : PoolAt} {K : Nat → GAt} {H : HostM}
set_option maxRecDepth 100000 in
theorem hleafC_off (r : HRep w h L K H) (n a : Int) (hn : n < 0 ∨ 3 < n) : Calls Tryz.prog 108 #[.pointer (some ⟨h, 0, none⟩), .int .i64 n, .int .i64 a] w fun e w' => e = .returned (.tuple #[LeafM.none.val, errv 1]) ∧ Upd Non w w' := by
  have hc := Lib.hid (fun W (r' : HRep W h L K H) => hguest_off r' n hn)
  have r2 := Lib.hid (r.non ((Upd.refl Non w).alloc (.cells #[.bool false, .bool false, .int .i64 0] 88)))
  rw [errv1] at hc ⊢
  go_enter Tryz.func108, Tryz.ntmps108
  go_wp2_with (first | (go_at_call 87; refine (hc.out _ r2.out).mono ?_; rintro e w2 ⟨rfl, rfl⟩) | fail)
  exact bodyPost_ret (v := .tuple #[LeafM.val ⟨false, false, 0⟩, errv 1]) (by simp [results, Tryz.results108, go_sem, LeafM.val, errv1]) rfl ⟨rfl, (Upd.refl _ _).alloc _⟩
set_option maxRecDepth 100000 in
theorem hleafC_none (r : HRep w h L K H) {k : Nat} (hk : k < 4) (hg : H.g k = none) (a : Int) : Calls Tryz.prog 108 #[.pointer (some ⟨h, 0, none⟩), .int .i64 k, .int .i64 a] w fun e w' => e = .returned (.tuple #[LeafM.none.val, errv 2]) ∧ Upd Non w w' := by
  have hc := Lib.hid (fun W (r' : HRep W h L K H) => hguest_none r' hk hg)
  have r2 := Lib.hid (r.non ((Upd.refl Non w).alloc (.cells #[.bool false, .bool false, .int .i64 0] 88)))
  rw [errv2] at hc ⊢
  go_enter Tryz.func108, Tryz.ntmps108
  go_wp2_with (first | (go_at_call 87; refine (hc.out _ r2.out).mono ?_; rintro e w2 ⟨rfl, rfl⟩) | fail)
  exact bodyPost_ret (v := .tuple #[LeafM.val ⟨false, false, 0⟩, errv 2]) (by simp [results, Tryz.results108, go_sem, LeafM.val, errv2]) rfl ⟨rfl, (Upd.refl _ _).alloc _⟩
end
section
variable {w0 w : World} {h o m : Nat} {L : PoolAt} {K : Nat → GAt} {R : Nat → Nat × Value} {H : HostM}
end

end U
end Go.Proofs.YtnhplapcdgnaaaaGreatDoor
