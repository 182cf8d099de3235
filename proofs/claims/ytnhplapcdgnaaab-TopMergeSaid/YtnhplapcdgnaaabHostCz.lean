import Derived.Test.YtnhplapcdgnaaabHostPr
set_option linter.unusedVariables false
set_option linter.unusedSimpArgs false
namespace Go.Proofs.Ytnhplapcdgnaaab
open Go.RowKit
namespace U

/-! The program's host: State, Leaf (written by gen_hostc.py). -/
section
variable {w : World} {h : Nat} {L : PoolAt} {K : Nat → GAt} {H : HostM}

def hstate (H : HostM) (n a : Int) : Int × Nat := if n < 0 ∨ 3 < n then (0, 1) else match H.g n.toNat with | none => (0, 2) | some G => mstate G.m a
def hleafOf (H : HostM) (n a : Int) : LeafM × Nat := if n < 0 ∨ 3 < n then (LeafM.none, 1) else match H.g n.toNat with | none => (LeafM.none, 2) | some G => mleaf G.m a
set_option maxRecDepth 100000 in
theorem hstate_any (r : HRep w h L K H) (n a : Int) : Calls Try.prog 31 #[.pointer (some ⟨h, 0, none⟩), .int .i64 n, .int .i64 a] w fun e w' => e = .returned (.tuple #[.int .i64 (hstate H n a).1, errv (hstate H n a).2]) ∧ w = w' := by
  rcases who_ways H n with h0 | ⟨k, hk, rfl, hg⟩ | ⟨k, G, hk, rfl, hg⟩
  · have hc := Lib.hid (hguest_off r n h0)
    rw [errv1] at hc
    have hF := Lib.hid (show hstate H n a = (0, 1) by unfold hstate; rw [if_pos h0])
    go_enter Try.func31, Try.ntmps31
    go_wp2_with (first | (go_at_call 28; refine hc.out.mono ?_; rintro e w2 ⟨rfl, rfl⟩) | fail)
    go_ret2
    rw [hF.out]
    exact ⟨rfl, rfl⟩
  · have hc := Lib.hid (hguest_none r hk hg)
    rw [errv2] at hc
    have hF := Lib.hid (show hstate H k a = (0, 2) by unfold hstate; rw [if_neg (by omega), Int.toNat_natCast, hg])
    go_enter Try.func31, Try.ntmps31
    go_wp2_with (first | (go_at_call 28; refine hc.out.mono ?_; rintro e w2 ⟨rfl, rfl⟩) | fail)
    go_ret2
    rw [hF.out]
    exact ⟨rfl, rfl⟩
  · have hc := Lib.hid (hguest_some r hk hg)
    have hact := Lib.hid (gstate_any (r.pg hk hg) a)
    have hF := Lib.hid (show hstate H k a = mstate G.m a by unfold hstate; rw [if_neg (by omega), Int.toNat_natCast, hg])
    rw [hF.out]
    generalize mstate G.m a = X at hact ⊢
    go_enter Try.func31, Try.ntmps31
    go_wp2_with (first | (go_at_call 28; refine hc.out.mono ?_; rintro e w2 ⟨rfl, rfl⟩) | (go_at_call 37; refine hact.out.mono ?_; rintro e w3 ⟨rfl, rfl⟩) | fail)
    go_ret2
    exact ⟨rfl, rfl⟩
set_option maxRecDepth 100000 in
theorem hleafC_some (r : HRep w h L K H) {k : Nat} (hk : k < 4) {G : GuestM} (hg : H.g k = some G) (a : Int) : Calls Try.prog 11 #[.pointer (some ⟨h, 0, none⟩), .int .i64 k, .int .i64 a] w fun e w' => e = .returned (.tuple #[(mleaf G.m a).1.val, errv (mleaf G.m a).2]) ∧ Upd Non w w' := by
  have hc := Lib.hid (fun W (r' : HRep W h L K H) => hguest_some r' hk hg)
  have hact := Lib.hid (fun W (r' : HRep W h L K H) => gleaf_any (r'.pg hk hg) a)
  have r2 := Lib.hid (r.non ((Upd.refl Non w).alloc (.cells #[.bool false, .bool false, .int .i64 0] 38)))
  generalize hm : mleaf G.m a = y
  have hm := Lib.hid hm
  obtain ⟨⟨there, write, fr⟩, er⟩ := y
  go_enter Try.func11, Try.ntmps11
  go_wp2_with (first
    | (go_at_call 28; refine (hc.out _ r2.out).mono ?_; rintro e w2 ⟨rfl, rfl⟩)
    | (go_at_call 29; refine (hact.out _ r2.out).mono ?_; rw [hm.out]; rintro e w3 ⟨rfl, u3⟩; unfold LeafM.val; obtain ⟨hcc, hff⟩ := u3.cells; have hz := u3.size; simp at hz)
    | fail)
  exact bodyPost_ret (v := .tuple #[LeafM.val ⟨there, write, fr⟩, errv er]) (by simp [results, Try.results11, go_sem, hcc, LeafM.val]) rfl ⟨rfl, Upd.box3 (((Upd.refl _ _).alloc _).trans u3) (Nat.le_refl _) _ _ _⟩
end

end U
end Go.Proofs.Ytnhplapcdgnaaab
