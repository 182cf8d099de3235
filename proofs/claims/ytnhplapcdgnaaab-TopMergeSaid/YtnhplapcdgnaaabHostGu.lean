import Derived.Test.YtnhplapcdgnaaabNumB
import Derived.Test.YtnhplapcdgnaaabHostPr
import Derived.Test.YtnhplapcdgnaaabHostN
import Derived.Test.YtnhplapcdgnaaabHostCz
import Derived.Test.YtnhplapcdgnaaabGuestJ
set_option linter.unusedVariables false
set_option linter.unusedSimpArgs false
namespace Go.Proofs.Ytnhplapcdgnaaab
open Go.RowKit
namespace U

/-! The program's host: Guests, Frame, Left, Cached. -/
def glK (H : HostM) (q : Nat) : List Nat := (List.range q).filter fun n => (H.g n).isSome
def ints_of (l : List Nat) : List Int := l.map fun (n : Nat) => (n : Int)
theorem glK_four (H : HostM) : glK H 4 = gl H := rfl
theorem glK_none {H : HostM} {q : Nat} (h : H.g q = none) : glK H (q + 1) = glK H q := by
  unfold glK
  rw [List.range_succ, List.filter_append, List.filter_cons, h]
  simp
theorem glK_some {H : HostM} {q : Nat} {G : GuestM} (h : H.g q = some G) : glK H (q + 1) = glK H q ++ [q] := by
  unfold glK
  rw [List.range_succ, List.filter_append, List.filter_cons, h]
  simp
theorem glK_length (H : HostM) (q : Nat) : (glK H q).length ≤ q := by
  unfold glK
  have := List.length_filter_le (fun n => (H.g n).isSome) (List.range q)
  rwa [List.length_range] at this
section
variable {w W : World} {h : Nat} {L : PoolAt} {K : Nat → GAt} {H : HostM}
set_option maxRecDepth 100000 in
set_option maxHeartbeats 1000000 in
theorem hguests_any (r : HRep w h L K H) : Calls Try.prog 10 #[.pointer (some ⟨h, 0, none⟩)] w fun e w' => ∃ v, e = .returned v ∧ NRow w' v (ints_of (gl H)) ∧ Fresh w v ∧ Upd Non w w' := by
  have ld := r.loadG
  have lh := r.hlt
  go_enter Try.func10, Try.ntmps10
  go_wp2_with (first | (refine wpl_load rfl 49 _ rfl _ _ rfl ld ?_) | fail)
  clear ld
  go_loopw [3, 10] (fun l i wr => ∃ (j : Nat) (v' : Value), j ≤ 4 ∧ i = .int .i64 j ∧ l = v' ∧ Hid (NRow wr v' (ints_of (glK H j)) ∧ Fresh w v' ∧ Upd Non w wr)) (fun _ i _ => 4 - (intOf i).toNat)
  case atStart => exact ⟨0, _, Nat.zero_le _, rfl, rfl, NRow.nil, (fun g hg => by cases hg), Upd.refl _ _⟩
  case round =>
    obtain ⟨j, v', hj, rfl, rfl, hI⟩ := hrel
    by_cases hlt : j < 4
    · have hj2 : (j : Int) < 4 := by omega
      cases hG : H.g j with
      | none =>
        have hx := garr_none (K := K) hlt hG
        have hs := Lib.hid (glK_none hG)
        clear hG
        go_wp2_with fail
        go_roundw
        case rel => exact ⟨j + 1, _, by omega, by go_num, rfl, by rw [hs.out]; exact hI.out⟩
        case measure => simp [intOf]; omega
      | some G =>
        have hx := garr_some (K := K) hlt hG
        have hs := Lib.hid (show ints_of (glK H (j + 1)) = ints_of (glK H j) ++ [(j : Int)] by rw [glK_some hG]; unfold ints_of; simp)
        have hlen : Hid ((ints_of (glK H j)).length ≤ 100000) := by
          show _ ≤ _
          have := glK_length H j
          unfold ints_of
          rw [List.length_map]
          omega
        clear hG
        go_wp2_with (first | (at_builtin; refine wpl_append_n rfl _ _ rfl _ _ rfl rfl _ (j : Int) (hI.out.1.alloc _) hlen.out (nbox _ _) ?_; intro v2 w3 hv2 u3 hb2) | fail)
        go_roundw
        case rel => exact ⟨j + 1, _, by omega, by go_num, rfl, by rw [hs.out]; exact hv2, fresh_ofN (hI.out.2.2.alloc _) hI.out.2.1 hb2, ((hI.out.2.2.alloc _).over u3 hI.out.2.1)⟩
        case measure => simp [intOf]; omega
    · have hj3 : ¬ (j : Int) < 4 := by omega
      obtain rfl : j = 4 := by omega
      have hX := Lib.hid hI.out
      clear hI
      go_wp2_with fail
      go_ret
      exact ⟨_, rfl, hX.out⟩
set_option maxRecDepth 100000 in
theorem hframe_any (r : HRep w h L K H) (f : Int) : Calls Try.prog 32 #[.pointer (some ⟨h, 0, none⟩), .int .i64 f] w fun e w' => e = .returned (.tuple #[frameV (H.p.of f), errv (H.p.of f).2.2]) ∧ Upd Non w w' := by
  have c0 := r.h0
  have lh := r.hlt
  generalize hm : H.p.of f = y
  have hm := Lib.hid hm
  obtain ⟨cl, rf, er⟩ := y
  go_enter Try.func32, Try.ntmps32
  go_wp2_with (go_at_call 52; refine (of_any _ L H.p (r.rp.alloc _) f).mono ?_; rw [hm.out]; rintro e w2 ⟨rfl, u2⟩; unfold frameV; obtain ⟨hcc, hff⟩ := u2.cells; have hz := u2.size; simp at hz)
  exact bodyPost_ret (v := .tuple #[frameV (cl, rf, er), errv er]) (by simp [results, Try.results32, go_sem, hcc, frameV]) rfl ⟨rfl, ((((Upd.refl _ _).alloc _).trans u2).setCell (p := ⟨w.heap.size, 0, none⟩) (fun h => absurd h (Nat.lt_irrefl _)) _).setCell (p := ⟨w.heap.size, 1, none⟩) (fun h => absurd h (Nat.lt_irrefl _)) _⟩
set_option maxRecDepth 100000 in
theorem hleft_any (r : HRep w h L K H) : Calls Try.prog 8 #[.pointer (some ⟨h, 0, none⟩)] w fun e w' => e = .returned (.int .i64 H.p.left) ∧ w = w' := by
  have c0 := r.h0
  have lh := r.hlt
  go_enter Try.func8, Try.ntmps8
  go_wp2_with (first | (go_at_call 27; refine (left_any _ L H.p r.rp).mono ?_; rintro e w2 ⟨rfl, rfl⟩) | fail)
  go_ret
  exact ⟨rfl, rfl⟩
set_option maxRecDepth 100000 in
theorem hcached_any (r : HRep w h L K H) {k : Nat} (hk : k < 4) {G : GuestM} (hg : H.g k = some G) (hC : G.c.length ≤ 4) : Calls Try.prog 34 #[.pointer (some ⟨h, 0, none⟩), .int .i64 k] w fun e w' =>
    ∃ v', e = .returned (.tuple #[v', .nilIface]) ∧ ERow w' v' (withLeaf G.m G.c) ∧ Fresh w v' ∧ Upd Non w w' := by
  have hc := Lib.hid (hguest_some r hk hg)
  have hact := Lib.hid (gcached_any (r.pg hk hg) (by rw [withLeaf_length]; omega))
  go_enter Try.func34, Try.ntmps34
  go_wp2_with (first | (go_at_call 28; refine hc.out.mono ?_; rintro e w2 ⟨rfl, rfl⟩) | (go_at_call 54; refine hact.out.mono ?_; rintro e w3 ⟨v3, rfl, e3, f3, u3⟩) | fail)
  go_ret2
  exact ⟨_, rfl, e3, f3, u3⟩
end

end U
end Go.Proofs.Ytnhplapcdgnaaab
