import Derived.Test.YtnhplapcdgnaaaaDoorMem
import Derived.Test.YtnhplapcdgnaaaaDoorChecked
import Derived.WalkKit
import Derived.Lib.Hide
set_option linter.unusedVariables false
set_option linter.unusedSimpArgs false
namespace Go.Proofs.YtnhplapcdgnaaaaDoor
open Go.RowKit
namespace U

/-! Slices of ints; the reference's SameNumbers. -/
def IAt (w : World) (v : Value) (l : List Int) : Prop :=
  (v = .slice none 0 0 ∧ l = []) ∨ ∃ g o cap, v = .slice (some ⟨g, o, none⟩) l.length cap ∧ g < w.heap.size ∧ ∀ i x, l[i]? = some x → w.cell? ⟨g, o + i, none⟩ = some (.int .i64 x)
theorem IAt.upd_ {S : Nat → Prop} {w w' : World} {v : Value} {l : List Int} (h : IAt w v l) (u : Upd S w w') (hS : ∀ g, v.ownBlock = some g → ¬ S g) : IAt w' v l := by
  rcases h with h | ⟨g, o, cap, rfl, hg, h⟩
  · exact .inl h
  · exact .inr ⟨g, o, cap, rfl, Nat.lt_of_lt_of_le hg u.size, fun i x hx => u.cell (h i x hx) (hS g rfl)⟩
theorem IAt.form {w : World} {v : Value} {l : List Int} (h : IAt w v l) : ∃ A cap, v = .slice A l.length cap := by
  rcases h with ⟨rfl, rfl⟩ | ⟨g, o, cap, rfl, _⟩
  · exact ⟨_, _, rfl⟩
  · exact ⟨_, _, rfl⟩
theorem IAt.at_ {w : World} {v : Value} {l : List Int} (h : IAt w v l) {i : Nat} (hi : i < l.length) : ∃ g o cap, v = .slice (some ⟨g, o, none⟩) l.length cap ∧ g < w.heap.size ∧ w.cell? ⟨g, o + i, none⟩ = some (.int .i64 l[i]) := by
  rcases h with ⟨rfl, rfl⟩ | ⟨g, o, cap, rfl, hg, h⟩
  · simp at hi
  · exact ⟨g, o, cap, rfl, hg, h i _ (List.getElem?_eq_getElem hi)⟩

set_option maxRecDepth 100000 in
set_option maxHeartbeats 400000 in
theorem sameNumbers_law (w : World) (v1 v2 : Value) (L : List Int) (h1 : IAt w v1 L) (h2 : IAt w v2 L) (hl : L.length ≤ 1000) :
    Calls Tryd.prog 5 #[v1, v2] w fun e w' => e = .returned (.bool true) ∧ Upd Non w w' := by
  obtain ⟨A1, cap1, rfl⟩ := h1.form
  obtain ⟨A2, cap2, rfl⟩ := h2.form
  go_enter Tryd.func5, Tryd.ntmps5
  go_wp2
  go_loopw [5] (fun i wr => ∃ k : Nat, k ≤ L.length ∧ i = .int .i64 k ∧ Hid (Upd Non w wr)) (fun i _ => L.length - (intOf i).toNat)
  case atStart => exact ⟨0, Nat.zero_le _, rfl, Upd.refl _ _⟩
  case round =>
    obtain ⟨k, hk, rfl, hU⟩ := hrel
    by_cases hlt : k < L.length
    · obtain ⟨g, o, cap', hv, hg, hE⟩ := (h1.upd_ hU.out (fun _ _ => (fun h => h))).at_ hlt
      obtain ⟨rfl, rfl⟩ : A1 = some ⟨g, o, none⟩ ∧ cap1 = cap' := by simpa using hv
      obtain ⟨g2, o2, cap2', hv2, hg2, hE2⟩ := (h2.upd_ hU.out (fun _ _ => (fun h => h))).at_ hlt
      obtain ⟨rfl, rfl⟩ : A2 = some ⟨g2, o2, none⟩ ∧ cap2 = cap2' := by simpa using hv2
      obtain ⟨x, hx⟩ : ∃ x, L[k] = x := ⟨_, rfl⟩
      rw [hx] at hE hE2
      clear hx hv hv2
      have k0 : (0 : Int) ≤ k := by omega
      have k1 : (k : Int) < L.length := by omega
      go_wp2
      go_quiet (fail)
      go_wp2
      go_roundw
      case rel => exact ⟨k + 1, by omega, by go_num, hU.out.drewN _⟩
      case measure => simp [intOf]; omega
    · go_wp2
      go_ret
      exact ⟨rfl, hU.out⟩

end U
end Go.Proofs.YtnhplapcdgnaaaaDoor
