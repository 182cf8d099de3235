import Derived.Test.YtnhplapcdgnaaaaGreatAsHost
import Derived.Test.YtnhplapcdgnaaaaGreatHostQm
set_option linter.unusedVariables false
set_option linter.unusedSimpArgs false
namespace Go.Proofs.YtnhplapcdgnaaaaGreat
open Go.RowKit
namespace U

/-! The law hosted (written by gen_hosted.py). -/
def HostedPost (w0 : World) (h : Nat) (L : PoolAt) (o m : Nat) (n : Nat) (e : Ending) (w' : World) : Prop :=
  e = .returned (.bool true) ∧ ∃ K' R' H', HB w0 w' h L K' H' o m R' H' ∧ HInv H' ∧ H'.p.n = n
section
variable {w0 w : World} {h o m : Nat} {L : PoolAt} {K : Nat → GAt} {R : Nat → Nat × Value} {H : HostM}
set_option maxRecDepth 100000 in
set_option maxHeartbeats 16000000 in
theorem hosted_law (t : HB w0 w h L K H o m R H) (hI : HInv H) (x : ActM) :
    Calls Tryz.prog 14 #[.pointer (some ⟨h, 0, none⟩), .pointer (some ⟨o, 0, none⟩), .agg #[.string x.kind, .int .i64 x.n, .int .i64 x.a, .int .i64 x.b, .int .u8 x.v.toNat, .bool x.on]] w
      (HostedPost w0 h L o m H.p.n) := by
  have T : HBX w0 (w.alloc (.cells #[.string x.kind, .int .i64 x.n, .int .i64 x.a, .int .i64 x.b, .int .u8 x.v.toNat, .bool x.on] 34)) h L K H o m R H w.heap.size x := HBX.new t x
  have HI := Lib.hid hI
  clear hI t
  go_enter Tryz.func14, Tryz.ntmps14
  go_wp2_with fail
  · -- add
    go_wp2_with (first
      | (go_at_call 12; refine Calls.mono (hadd_any (HB.a (HBX.toHB (bx := w.heap.size) (x := x) (by repeat (first | assumption | apply HBX.drew | apply HBX.drewN | apply HBX.alloc)))).r) ?_; unfold HAddPost; rintro e w2 ⟨rfl, K2, s2⟩; have T2 := HBX.actA (bx := w.heap.size) (x := x) (by repeat (first | assumption | apply HBX.drew | apply HBX.drewN | apply HBX.alloc)) s2)
      | (go_at_call 27; refine Calls.mono (radd_any (HB.b (HBX.toHB (bx := w.heap.size) (x := x) (by repeat (first | assumption | apply HBX.drew | apply HBX.drewN | apply HBX.alloc))))) ?_; unfold RHAddPost; rintro e w2 ⟨rfl, R2, s2⟩; have T3 := HBX.actB (bx := w.heap.size) (x := x) (by repeat (first | assumption | apply HBX.drew | apply HBX.drewN | apply HBX.alloc)) s2)
      | (go_at_call 7; refine (same_law _ _ _).mono ?_; rintro e w9 ⟨rfl, rfl⟩))
    all_goals go_ret
    all_goals exact ⟨rfl, _, _, _, HBX.toHB (bx := w.heap.size) (x := x) (by repeat (first | assumption | apply HBX.drew | apply HBX.drewN | apply HBX.alloc)), HI.out.add, hadd_n _⟩
  · -- remove
    go_region_held3 (fun w' => w'.cell? ⟨w.heap.size, 1, none⟩ = some (.int .i64 x.n)) (first | exact T2.ax.a1 | simp) (first
      | (go_at_call 11; refine Calls.mono (hremove_any (HB.a (HBX.toHB (bx := w.heap.size) (x := x) (by repeat (first | assumption | apply HBX.drew | apply HBX.drewN | apply HBX.alloc)))).r HI.out _) ?_; unfold HPost; rintro e w2 ⟨rfl, K2, s2⟩; have T2 := HBX.actA (bx := w.heap.size) (x := x) (by repeat (first | assumption | apply HBX.drew | apply HBX.drewN | apply HBX.alloc)) s2; have a1' := T2.ax.a1)
      | (go_at_call 28; refine Calls.mono (rremove_any (HB.b (HBX.toHB (bx := w.heap.size) (x := x) (by repeat (first | assumption | apply HBX.drew | apply HBX.drewN | apply HBX.alloc)))) HI.out _) ?_; unfold RHActPost; rintro e w2 ⟨rfl, R2, s2⟩; have T2 := HBX.actB (bx := w.heap.size) (x := x) (by repeat (first | assumption | apply HBX.drew | apply HBX.drewN | apply HBX.alloc)) s2; have a1' := T2.ax.a1)
      | (go_at_call 7; refine (same_law _ _ _).mono ?_; rintro e w9 ⟨rfl, rfl⟩))
    all_goals go_wp2
    all_goals go_ret
    all_goals exact ⟨rfl, _, _, _, HBX.toHB (bx := w.heap.size) (x := x) (by repeat (first | assumption | apply HBX.drew | apply HBX.drewN | apply HBX.alloc)), HI.out.remove _, hremove_n HI.out _⟩
  · -- plug
    go_region_held3 (fun w' => w'.cell? ⟨w.heap.size, 1, none⟩ = some (.int .i64 x.n) ∧ w'.cell? ⟨w.heap.size, 2, none⟩ = some (.int .i64 x.a)) (first | exact ⟨T2.ax.a1, T2.ax.a2⟩ | simp) (first
      | (go_at_call 16; refine Calls.mono (hplug_any (HB.a (HBX.toHB (bx := w.heap.size) (x := x) (by repeat (first | assumption | apply HBX.drew | apply HBX.drewN | apply HBX.alloc)))).r HI.out _ _) ?_; unfold HPost; rintro e w2 ⟨rfl, K2, s2⟩; have T2 := HBX.actA (bx := w.heap.size) (x := x) (by repeat (first | assumption | apply HBX.drew | apply HBX.drewN | apply HBX.alloc)) s2; have a1' := T2.ax.a1; have a2' := T2.ax.a2)
      | (go_at_call 29; refine Calls.mono (rplug_h_any (HB.b (HBX.toHB (bx := w.heap.size) (x := x) (by repeat (first | assumption | apply HBX.drew | apply HBX.drewN | apply HBX.alloc)))) HI.out _ _) ?_; unfold RHActPost; rintro e w2 ⟨rfl, R2, s2⟩; have T2 := HBX.actB (bx := w.heap.size) (x := x) (by repeat (first | assumption | apply HBX.drew | apply HBX.drewN | apply HBX.alloc)) s2; have a1' := T2.ax.a1; have a2' := T2.ax.a2)
      | (go_at_call 7; refine (same_law _ _ _).mono ?_; rintro e w9 ⟨rfl, rfl⟩))
    all_goals go_wp2
    all_goals go_ret
    all_goals exact ⟨rfl, _, _, _, HBX.toHB (bx := w.heap.size) (x := x) (by repeat (first | assumption | apply HBX.drew | apply HBX.drewN | apply HBX.alloc)), HI.out.plug _ _, hplug_n HI.out _ _⟩
  · -- unplug
    go_region_held3 (fun w' => w'.cell? ⟨w.heap.size, 1, none⟩ = some (.int .i64 x.n) ∧ w'.cell? ⟨w.heap.size, 2, none⟩ = some (.int .i64 x.a)) (first | exact ⟨T2.ax.a1, T2.ax.a2⟩ | simp) (first
      | (go_at_call 30; refine Calls.mono (hunplug_any (HB.a (HBX.toHB (bx := w.heap.size) (x := x) (by repeat (first | assumption | apply HBX.drew | apply HBX.drewN | apply HBX.alloc)))).r HI.out _ _) ?_; unfold HPost; rintro e w2 ⟨rfl, K2, s2⟩; have T2 := HBX.actA (bx := w.heap.size) (x := x) (by repeat (first | assumption | apply HBX.drew | apply HBX.drewN | apply HBX.alloc)) s2; have a1' := T2.ax.a1; have a2' := T2.ax.a2)
      | (go_at_call 31; refine Calls.mono (runplug_h_any (HB.b (HBX.toHB (bx := w.heap.size) (x := x) (by repeat (first | assumption | apply HBX.drew | apply HBX.drewN | apply HBX.alloc)))) HI.out _ _) ?_; unfold RHActPost; rintro e w2 ⟨rfl, R2, s2⟩; have T2 := HBX.actB (bx := w.heap.size) (x := x) (by repeat (first | assumption | apply HBX.drew | apply HBX.drewN | apply HBX.alloc)) s2; have a1' := T2.ax.a1; have a2' := T2.ax.a2)
      | (go_at_call 7; refine (same_law _ _ _).mono ?_; rintro e w9 ⟨rfl, rfl⟩))
    all_goals go_wp2
    all_goals go_ret
    all_goals exact ⟨rfl, _, _, _, HBX.toHB (bx := w.heap.size) (x := x) (by repeat (first | assumption | apply HBX.drew | apply HBX.drewN | apply HBX.alloc)), HI.out.unplug _ _, hunplug_n HI.out _ _⟩
  · -- give
    go_region_held3 (fun w' => w'.cell? ⟨w.heap.size, 1, none⟩ = some (.int .i64 x.n) ∧ w'.cell? ⟨w.heap.size, 2, none⟩ = some (.int .i64 x.a)) (first | exact ⟨T2.ax.a1, T2.ax.a2⟩ | simp) (first
      | (go_at_call 32; refine Calls.mono (hgive_any (HB.a (HBX.toHB (bx := w.heap.size) (x := x) (by repeat (first | assumption | apply HBX.drew | apply HBX.drewN | apply HBX.alloc)))).r HI.out _ _) ?_; unfold HPost; rintro e w2 ⟨rfl, K2, s2⟩; have T2 := HBX.actA (bx := w.heap.size) (x := x) (by repeat (first | assumption | apply HBX.drew | apply HBX.drewN | apply HBX.alloc)) s2; have a1' := T2.ax.a1; have a2' := T2.ax.a2)
      | (go_at_call 33; refine Calls.mono (rgive_h_any (HB.b (HBX.toHB (bx := w.heap.size) (x := x) (by repeat (first | assumption | apply HBX.drew | apply HBX.drewN | apply HBX.alloc)))) HI.out _ _) ?_; unfold RHActPost; rintro e w2 ⟨rfl, R2, s2⟩; have T2 := HBX.actB (bx := w.heap.size) (x := x) (by repeat (first | assumption | apply HBX.drew | apply HBX.drewN | apply HBX.alloc)) s2; have a1' := T2.ax.a1; have a2' := T2.ax.a2)
      | (go_at_call 7; refine (same_law _ _ _).mono ?_; rintro e w9 ⟨rfl, rfl⟩))
    all_goals go_wp2
    all_goals go_ret
    all_goals exact ⟨rfl, _, _, _, HBX.toHB (bx := w.heap.size) (x := x) (by repeat (first | assumption | apply HBX.drew | apply HBX.drewN | apply HBX.alloc)), HI.out.give _ _, hgive_n HI.out _ _⟩
  · -- back
    go_region_held3 (fun w' => w'.cell? ⟨w.heap.size, 1, none⟩ = some (.int .i64 x.n) ∧ w'.cell? ⟨w.heap.size, 2, none⟩ = some (.int .i64 x.a)) (first | exact ⟨T2.ax.a1, T2.ax.a2⟩ | simp) (first
      | (go_at_call 34; refine Calls.mono (hback_any (HB.a (HBX.toHB (bx := w.heap.size) (x := x) (by repeat (first | assumption | apply HBX.drew | apply HBX.drewN | apply HBX.alloc)))).r HI.out _ _) ?_; unfold HPost; rintro e w2 ⟨rfl, K2, s2⟩; have T2 := HBX.actA (bx := w.heap.size) (x := x) (by repeat (first | assumption | apply HBX.drew | apply HBX.drewN | apply HBX.alloc)) s2; have a1' := T2.ax.a1; have a2' := T2.ax.a2)
      | (go_at_call 33; refine Calls.mono (rback_h_any (HB.b (HBX.toHB (bx := w.heap.size) (x := x) (by repeat (first | assumption | apply HBX.drew | apply HBX.drewN | apply HBX.alloc)))) HI.out _ _) ?_; unfold RHActPost; rintro e w2 ⟨rfl, R2, s2⟩; have T2 := HBX.actB (bx := w.heap.size) (x := x) (by repeat (first | assumption | apply HBX.drew | apply HBX.drewN | apply HBX.alloc)) s2; have a1' := T2.ax.a1; have a2' := T2.ax.a2)
      | (go_at_call 7; refine (same_law _ _ _).mono ?_; rintro e w9 ⟨rfl, rfl⟩))
    all_goals go_wp2
    all_goals go_ret
    all_goals exact ⟨rfl, _, _, _, HBX.toHB (bx := w.heap.size) (x := x) (by repeat (first | assumption | apply HBX.drew | apply HBX.drewN | apply HBX.alloc)), HI.out.back _ _, hback_n HI.out _ _⟩
  · -- scan
    go_wp2_with (first
      | (go_at_call 26; refine Calls.mono (hscan_any (HB.a (HBX.toHB (bx := w.heap.size) (x := x) (by repeat (first | assumption | apply HBX.drew | apply HBX.drewN | apply HBX.alloc)))).r HI.out _ _) ?_; unfold HScanPost; rintro e w2 ⟨rfl, K2, s2⟩; have T2 := HBX.actA (bx := w.heap.size) (x := x) (by repeat (first | assumption | apply HBX.drew | apply HBX.drewN | apply HBX.alloc)) s2; have a1' := T2.ax.a1; have a2' := T2.ax.a2; have lx' := T2.ax.lt)
      | (go_at_call 35; refine Calls.mono (rscan_any (HB.b (HBX.toHB (bx := w.heap.size) (x := x) (by repeat (first | assumption | apply HBX.drew | apply HBX.drewN | apply HBX.alloc)))) HI.out _ _) ?_; unfold RHScanPost; rintro e w2 ⟨rfl, R2, s2⟩; have T3 := HBX.actB (bx := w.heap.size) (x := x) (by repeat (first | assumption | apply HBX.drew | apply HBX.drewN | apply HBX.alloc)) s2)
      | (go_at_call 7; refine (same_law _ _ _).mono ?_; rintro e w9 ⟨rfl, rfl⟩))
    all_goals go_ret
    all_goals exact ⟨rfl, _, _, _, HBX.toHB (bx := w.heap.size) (x := x) (by repeat (first | assumption | apply HBX.drew | apply HBX.drewN | apply HBX.alloc)), HI.out.scan _ _, hscan_n HI.out _ _⟩
  · -- scanall
    go_wp2_with (first
      | (go_at_call 13; refine Calls.mono (hscanAll_any (HB.a (HBX.toHB (bx := w.heap.size) (x := x) (by repeat (first | assumption | apply HBX.drew | apply HBX.drewN | apply HBX.alloc)))).r HI.out) ?_; unfold HAllPost; rintro e w2 ⟨rfl, K2, s2⟩; have T2 := HBX.actA (bx := w.heap.size) (x := x) (by repeat (first | assumption | apply HBX.drew | apply HBX.drewN | apply HBX.alloc)) s2)
      | (go_at_call 36; refine Calls.mono (rscanAll_any (HB.b (HBX.toHB (bx := w.heap.size) (x := x) (by repeat (first | assumption | apply HBX.drew | apply HBX.drewN | apply HBX.alloc)))) HI.out) ?_; unfold RHAllPost; rintro e w2 ⟨rfl, R2, s2⟩; have T3 := HBX.actB (bx := w.heap.size) (x := x) (by repeat (first | assumption | apply HBX.drew | apply HBX.drewN | apply HBX.alloc)) s2)
      | fail)
    all_goals go_ret
    all_goals exact ⟨rfl, _, _, _, HBX.toHB (bx := w.heap.size) (x := x) (by repeat (first | assumption | apply HBX.drew | apply HBX.drewN | apply HBX.alloc)), HI.out.scanN 64, hscanAll_n HI.out⟩
  · -- of a guest
    obtain ⟨kind, xn, xa, xb, xv, on⟩ := x
    dsimp only at *
    rcases who_ways H xn with h0 | ⟨k, hk, rfl, hg⟩ | ⟨k, G, hk, rfl, hg⟩
    · have FL := Lib.hid (hload_off (H := H) (a := xa) h0)
      have FT := Lib.hid (show hstore H xn xa xv = (H, 1) from hon_off h0)
      have FR := Lib.hid (show hroot H xn xa = (H, 1) from hon_off h0)
      have FF := Lib.hid (show hforget H xn xa = (H, 1) from hon_off h0)
      have FA := Lib.hid (show hforgetAll H xn xa = (H, 1) from hon_off h0)
      have FX := Lib.hid (show hstate H xn xa = (0, 1) by unfold hstate; rw [if_pos h0])
      have h0 := Lib.hid h0
      go_wp2_with (first | (go_at_call 37; refine Calls.mono (rwho_off (HB.b (HBX.toHB (bx := w.heap.size) (by repeat (first | assumption | apply HBX.drew | apply HBX.drewN | apply HBX.alloc)))) _ h0.out) ?_; rintro e w2 ⟨rfl, rfl⟩) | fail)
      · -- load
        go_wp2_with (first
          | (go_at_call 38; refine Calls.mono (hload_any (HB.a (HBX.toHB (bx := w.heap.size) (by repeat (first | assumption | apply HBX.drew | apply HBX.drewN | apply HBX.alloc)))).r HI.out _ _) ?_; rw [FL.out]; unfold HLoadPost; dsimp only; rintro e w2 ⟨rfl, K2, s2⟩; have T2 := HBX.actA (bx := w.heap.size) (by repeat (first | assumption | apply HBX.drew | apply HBX.drewN | apply HBX.alloc)) s2)
          | (go_at_call 7; refine (same_law _ 1 1).mono ?_; rintro e w9 ⟨rfl, rfl⟩)
          | fail)
        go_ret
        exact ⟨rfl, _, _, _, (HBX.toHB (bx := w.heap.size) (by repeat (first | assumption | apply HBX.drew | apply HBX.drewN | apply HBX.alloc))), HI.out, rfl⟩
      · -- store
        go_wp2_with (first
          | (go_at_call 10; refine Calls.mono (hstore_any (HB.a (HBX.toHB (bx := w.heap.size) (by repeat (first | assumption | apply HBX.drew | apply HBX.drewN | apply HBX.alloc)))).r HI.out _ _ xv) ?_; rw [FT.out]; unfold HPost; dsimp only; rintro e w2 ⟨rfl, K2, s2⟩; have T2 := HBX.actA (bx := w.heap.size) (by repeat (first | assumption | apply HBX.drew | apply HBX.drewN | apply HBX.alloc)) s2)
          | (go_at_call 7; refine (same_law _ 1 1).mono ?_; rintro e w9 ⟨rfl, rfl⟩)
          | fail)
        go_ret
        exact ⟨rfl, _, _, _, (HBX.toHB (bx := w.heap.size) (by repeat (first | assumption | apply HBX.drew | apply HBX.drewN | apply HBX.alloc))), HI.out, rfl⟩
      · -- root
        go_wp2_with (first
          | (go_at_call 41; refine Calls.mono (hroot_any (HB.a (HBX.toHB (bx := w.heap.size) (by repeat (first | assumption | apply HBX.drew | apply HBX.drewN | apply HBX.alloc)))).r HI.out _ _) ?_; rw [FR.out]; unfold HPost; dsimp only; rintro e w2 ⟨rfl, K2, s2⟩; have T2 := HBX.actA (bx := w.heap.size) (by repeat (first | assumption | apply HBX.drew | apply HBX.drewN | apply HBX.alloc)) s2)
          | (go_at_call 7; refine (same_law _ 1 1).mono ?_; rintro e w9 ⟨rfl, rfl⟩)
          | fail)
        go_ret
        exact ⟨rfl, _, _, _, (HBX.toHB (bx := w.heap.size) (by repeat (first | assumption | apply HBX.drew | apply HBX.drewN | apply HBX.alloc))), HI.out, rfl⟩
      · -- forget
        go_wp2_with (first
          | (go_at_call 43; refine Calls.mono (hforget_any (HB.a (HBX.toHB (bx := w.heap.size) (by repeat (first | assumption | apply HBX.drew | apply HBX.drewN | apply HBX.alloc)))).r HI.out _ _) ?_; rw [FF.out]; unfold HPost; dsimp only; rintro e w2 ⟨rfl, K2, s2⟩; have T2 := HBX.actA (bx := w.heap.size) (by repeat (first | assumption | apply HBX.drew | apply HBX.drewN | apply HBX.alloc)) s2)
          | (go_at_call 7; refine (same_law _ 1 1).mono ?_; rintro e w9 ⟨rfl, rfl⟩)
          | fail)
        go_ret
        exact ⟨rfl, _, _, _, (HBX.toHB (bx := w.heap.size) (by repeat (first | assumption | apply HBX.drew | apply HBX.drewN | apply HBX.alloc))), HI.out, rfl⟩
      · -- drop
        go_wp2_with (first
          | (go_at_call 45; refine Calls.mono (hforgetAll_any (HB.a (HBX.toHB (bx := w.heap.size) (by repeat (first | assumption | apply HBX.drew | apply HBX.drewN | apply HBX.alloc)))).r HI.out _ _) ?_; rw [FA.out]; unfold HPost; dsimp only; rintro e w2 ⟨rfl, K2, s2⟩; have T2 := HBX.actA (bx := w.heap.size) (by repeat (first | assumption | apply HBX.drew | apply HBX.drewN | apply HBX.alloc)) s2)
          | (go_at_call 7; refine (same_law _ 1 1).mono ?_; rintro e w9 ⟨rfl, rfl⟩)
          | fail)
        go_ret
        exact ⟨rfl, _, _, _, (HBX.toHB (bx := w.heap.size) (by repeat (first | assumption | apply HBX.drew | apply HBX.drewN | apply HBX.alloc))), HI.out, rfl⟩
      · -- page
        go_wp2_with (first
          | (go_at_call 47; refine Calls.mono (hstate_any (HB.a (HBX.toHB (bx := w.heap.size) (by repeat (first | assumption | apply HBX.drew | apply HBX.drewN | apply HBX.alloc)))).r _ _) ?_; rw [FX.out]; rintro e w2 ⟨rfl, rfl⟩)
          | (go_at_call 48; refine Calls.mono (hleafC_off (HB.a (HBX.toHB (bx := w.heap.size) (by repeat (first | assumption | apply HBX.drew | apply HBX.drewN | apply HBX.alloc)))).r _ _ h0.out) ?_; unfold LeafM.val LeafM.none; rintro e w2 ⟨rfl, u2⟩; have T2 := HBX.non (bx := w.heap.size) (by repeat (first | assumption | apply HBX.drew | apply HBX.drewN | apply HBX.alloc)) u2)
          | (go_at_call 7; refine (same_law _ 1 1).mono ?_; rintro e w9 ⟨rfl, rfl⟩)
          | fail)
        go_ret
        exact ⟨rfl, _, _, _, (HBX.toHB (bx := w.heap.size) (by repeat (first | assumption | apply HBX.drew | apply HBX.drewN | apply HBX.alloc))), HI.out, rfl⟩
    · have FL := Lib.hid (hload_none (a := xa) hk hg)
      have FT := Lib.hid (show hstore H k xa xv = (H, 2) from hon_none hk hg)
      have FR := Lib.hid (show hroot H k xa = (H, 2) from hon_none hk hg)
      have FF := Lib.hid (show hforget H k xa = (H, 2) from hon_none hk hg)
      have FA := Lib.hid (show hforgetAll H k xa = (H, 2) from hon_none hk hg)
      have FX := Lib.hid (show hstate H k xa = (0, 2) by unfold hstate; rw [if_neg (by omega), Int.toNat_natCast, hg])
      have hg := Lib.hid hg
      go_wp2_with (first | (go_at_call 37; refine Calls.mono (rwho_none (HB.b (HBX.toHB (bx := w.heap.size) (by repeat (first | assumption | apply HBX.drew | apply HBX.drewN | apply HBX.alloc)))) hk hg.out) ?_; rintro e w2 ⟨rfl, rfl⟩) | fail)
      · -- load
        go_wp2_with (first
          | (go_at_call 38; refine Calls.mono (hload_any (HB.a (HBX.toHB (bx := w.heap.size) (by repeat (first | assumption | apply HBX.drew | apply HBX.drewN | apply HBX.alloc)))).r HI.out _ _) ?_; rw [FL.out]; unfold HLoadPost; dsimp only; rintro e w2 ⟨rfl, K2, s2⟩; have T2 := HBX.actA (bx := w.heap.size) (by repeat (first | assumption | apply HBX.drew | apply HBX.drewN | apply HBX.alloc)) s2)
          | (go_at_call 7; refine (same_law _ 2 2).mono ?_; rintro e w9 ⟨rfl, rfl⟩)
          | fail)
        go_ret
        exact ⟨rfl, _, _, _, (HBX.toHB (bx := w.heap.size) (by repeat (first | assumption | apply HBX.drew | apply HBX.drewN | apply HBX.alloc))), HI.out, rfl⟩
      · -- store
        go_wp2_with (first
          | (go_at_call 10; refine Calls.mono (hstore_any (HB.a (HBX.toHB (bx := w.heap.size) (by repeat (first | assumption | apply HBX.drew | apply HBX.drewN | apply HBX.alloc)))).r HI.out _ _ xv) ?_; rw [FT.out]; unfold HPost; dsimp only; rintro e w2 ⟨rfl, K2, s2⟩; have T2 := HBX.actA (bx := w.heap.size) (by repeat (first | assumption | apply HBX.drew | apply HBX.drewN | apply HBX.alloc)) s2)
          | (go_at_call 7; refine (same_law _ 2 2).mono ?_; rintro e w9 ⟨rfl, rfl⟩)
          | fail)
        go_ret
        exact ⟨rfl, _, _, _, (HBX.toHB (bx := w.heap.size) (by repeat (first | assumption | apply HBX.drew | apply HBX.drewN | apply HBX.alloc))), HI.out, rfl⟩
      · -- root
        go_wp2_with (first
          | (go_at_call 41; refine Calls.mono (hroot_any (HB.a (HBX.toHB (bx := w.heap.size) (by repeat (first | assumption | apply HBX.drew | apply HBX.drewN | apply HBX.alloc)))).r HI.out _ _) ?_; rw [FR.out]; unfold HPost; dsimp only; rintro e w2 ⟨rfl, K2, s2⟩; have T2 := HBX.actA (bx := w.heap.size) (by repeat (first | assumption | apply HBX.drew | apply HBX.drewN | apply HBX.alloc)) s2)
          | (go_at_call 7; refine (same_law _ 2 2).mono ?_; rintro e w9 ⟨rfl, rfl⟩)
          | fail)
        go_ret
        exact ⟨rfl, _, _, _, (HBX.toHB (bx := w.heap.size) (by repeat (first | assumption | apply HBX.drew | apply HBX.drewN | apply HBX.alloc))), HI.out, rfl⟩
      · -- forget
        go_wp2_with (first
          | (go_at_call 43; refine Calls.mono (hforget_any (HB.a (HBX.toHB (bx := w.heap.size) (by repeat (first | assumption | apply HBX.drew | apply HBX.drewN | apply HBX.alloc)))).r HI.out _ _) ?_; rw [FF.out]; unfold HPost; dsimp only; rintro e w2 ⟨rfl, K2, s2⟩; have T2 := HBX.actA (bx := w.heap.size) (by repeat (first | assumption | apply HBX.drew | apply HBX.drewN | apply HBX.alloc)) s2)
          | (go_at_call 7; refine (same_law _ 2 2).mono ?_; rintro e w9 ⟨rfl, rfl⟩)
          | fail)
        go_ret
        exact ⟨rfl, _, _, _, (HBX.toHB (bx := w.heap.size) (by repeat (first | assumption | apply HBX.drew | apply HBX.drewN | apply HBX.alloc))), HI.out, rfl⟩
      · -- drop
        go_wp2_with (first
          | (go_at_call 45; refine Calls.mono (hforgetAll_any (HB.a (HBX.toHB (bx := w.heap.size) (by repeat (first | assumption | apply HBX.drew | apply HBX.drewN | apply HBX.alloc)))).r HI.out _ _) ?_; rw [FA.out]; unfold HPost; dsimp only; rintro e w2 ⟨rfl, K2, s2⟩; have T2 := HBX.actA (bx := w.heap.size) (by repeat (first | assumption | apply HBX.drew | apply HBX.drewN | apply HBX.alloc)) s2)
          | (go_at_call 7; refine (same_law _ 2 2).mono ?_; rintro e w9 ⟨rfl, rfl⟩)
          | fail)
        go_ret
        exact ⟨rfl, _, _, _, (HBX.toHB (bx := w.heap.size) (by repeat (first | assumption | apply HBX.drew | apply HBX.drewN | apply HBX.alloc))), HI.out, rfl⟩
      · -- page
        go_wp2_with (first
          | (go_at_call 47; refine Calls.mono (hstate_any (HB.a (HBX.toHB (bx := w.heap.size) (by repeat (first | assumption | apply HBX.drew | apply HBX.drewN | apply HBX.alloc)))).r _ _) ?_; rw [FX.out]; rintro e w2 ⟨rfl, rfl⟩)
          | (go_at_call 48; refine Calls.mono (hleafC_none (HB.a (HBX.toHB (bx := w.heap.size) (by repeat (first | assumption | apply HBX.drew | apply HBX.drewN | apply HBX.alloc)))).r hk hg.out _) ?_; unfold LeafM.val LeafM.none; rintro e w2 ⟨rfl, u2⟩; have T2 := HBX.non (bx := w.heap.size) (by repeat (first | assumption | apply HBX.drew | apply HBX.drewN | apply HBX.alloc)) u2)
          | (go_at_call 7; refine (same_law _ 2 2).mono ?_; rintro e w9 ⟨rfl, rfl⟩)
          | fail)
        go_ret
        exact ⟨rfl, _, _, _, (HBX.toHB (bx := w.heap.size) (by repeat (first | assumption | apply HBX.drew | apply HBX.drewN | apply HBX.alloc))), HI.out, rfl⟩
    · have FL := Lib.hid (hload_some (a := xa) hk hg)
      have FT := Lib.hid (show hstore H k xa xv = _ from hon_some hk hg)
      have FR := Lib.hid (show hroot H k xa = _ from hon_some hk hg)
      have FF := Lib.hid (show hforget H k xa = _ from hon_some hk hg)
      have FA := Lib.hid (show hforgetAll H k xa = _ from hon_some hk hg)
      have FX := Lib.hid (show hstate H k xa = mstate G.m xa by unfold hstate; rw [if_neg (by omega), Int.toNat_natCast, hg])
      have gi := Lib.hid (HI.out.gi hk hg)
      have hg := Lib.hid hg
      go_wp2_with (first | (go_at_call 37; refine Calls.mono (rwho_some (HB.b (HBX.toHB (bx := w.heap.size) (by repeat (first | assumption | apply HBX.drew | apply HBX.drewN | apply HBX.alloc)))) hk hg.out) ?_; rintro e w2 ⟨rfl, rfl⟩) | fail)
      · -- load
        go_wp2_with (first
          | (go_at_call 38; refine Calls.mono (hload_any (HB.a (HBX.toHB (bx := w.heap.size) (by repeat (first | assumption | apply HBX.drew | apply HBX.drewN | apply HBX.alloc)))).r HI.out _ _) ?_; rw [FL.out]; unfold HLoadPost; dsimp only; rintro e w2 ⟨rfl, K2, s2⟩; have T2 := HBX.actA (bx := w.heap.size) (by repeat (first | assumption | apply HBX.drew | apply HBX.drewN | apply HBX.alloc)) s2; have a2' := T2.ax.a2; have lx' := T2.ax.lt; dsimp only at a2')
          | (go_at_call 39; refine Calls.mono (rgload_any ((HB.b (HBX.toHB (bx := w.heap.size) (by repeat (first | assumption | apply HBX.drew | apply HBX.drewN | apply HBX.alloc)))).rg hk hg.out) gi.out _) ?_; unfold RLoadPost; (try dsimp only); rintro e w3 ⟨rfl, v3, s3⟩; have T3 := HBX.actB (bx := w.heap.size) T2 (T2.b.guest hk hg.out s3))
          | (go_at_call 7; refine (same_law _ _ _).mono ?_; rintro e w9 ⟨rfl, rfl⟩)
          | fail)
        go_ret
        exact ⟨rfl, _, _, _, T3.toHB, (by have := HI.out.load (k : Int) xa; rw [FL.out] at this; exact this), (gi.out.load xa).n⟩
      · -- store
        go_wp2_with (first
          | (go_at_call 10; refine Calls.mono (hstore_any (HB.a (HBX.toHB (bx := w.heap.size) (by repeat (first | assumption | apply HBX.drew | apply HBX.drewN | apply HBX.alloc)))).r HI.out _ _ xv) ?_; rw [FT.out]; unfold HPost; dsimp only; rintro e w2 ⟨rfl, K2, s2⟩; have T2 := HBX.actA (bx := w.heap.size) (by repeat (first | assumption | apply HBX.drew | apply HBX.drewN | apply HBX.alloc)) s2; have a2' := T2.ax.a2; have a4' := T2.ax.a4; have lx' := T2.ax.lt; dsimp only at a2' a4')
          | (go_at_call 40; refine Calls.mono (rgstore_any ((HB.b (HBX.toHB (bx := w.heap.size) (by repeat (first | assumption | apply HBX.drew | apply HBX.drewN | apply HBX.alloc)))).rg hk hg.out) gi.out _ xv) ?_; unfold RActPost; (try dsimp only); rintro e w3 ⟨rfl, v3, s3⟩; have T3 := HBX.actB (bx := w.heap.size) T2 (T2.b.guest hk hg.out s3))
          | (go_at_call 7; refine (same_law _ _ _).mono ?_; rintro e w9 ⟨rfl, rfl⟩)
          | fail)
        go_ret
        exact ⟨rfl, _, _, _, T3.toHB, (by have := HI.out.store (k : Int) xa xv; rw [FT.out] at this; exact this), (gi.out.store xa xv).n⟩
      · -- root
        go_wp2_with (first
          | (go_at_call 41; refine Calls.mono (hroot_any (HB.a (HBX.toHB (bx := w.heap.size) (by repeat (first | assumption | apply HBX.drew | apply HBX.drewN | apply HBX.alloc)))).r HI.out _ _) ?_; rw [FR.out]; unfold HPost; dsimp only; rintro e w2 ⟨rfl, K2, s2⟩; have T2 := HBX.actA (bx := w.heap.size) (by repeat (first | assumption | apply HBX.drew | apply HBX.drewN | apply HBX.alloc)) s2; have a2' := T2.ax.a2; have lx' := T2.ax.lt; dsimp only at a2')
          | (go_at_call 42; refine Calls.mono (rgsetRoot_any ((HB.b (HBX.toHB (bx := w.heap.size) (by repeat (first | assumption | apply HBX.drew | apply HBX.drewN | apply HBX.alloc)))).rg hk hg.out) _) ?_; unfold RActPost; (try dsimp only); rintro e w3 ⟨rfl, v3, s3⟩; have T3 := HBX.actB (bx := w.heap.size) T2 (T2.b.guest hk hg.out s3))
          | (go_at_call 7; refine (same_law _ _ _).mono ?_; rintro e w9 ⟨rfl, rfl⟩)
          | fail)
        go_ret
        exact ⟨rfl, _, _, _, T3.toHB, (by have := HI.out.root (k : Int) xa; rw [FR.out] at this; exact this), rfl⟩
      · -- forget
        go_wp2_with (first
          | (go_at_call 43; refine Calls.mono (hforget_any (HB.a (HBX.toHB (bx := w.heap.size) (by repeat (first | assumption | apply HBX.drew | apply HBX.drewN | apply HBX.alloc)))).r HI.out _ _) ?_; rw [FF.out]; unfold HPost; dsimp only; rintro e w2 ⟨rfl, K2, s2⟩; have T2 := HBX.actA (bx := w.heap.size) (by repeat (first | assumption | apply HBX.drew | apply HBX.drewN | apply HBX.alloc)) s2; have a2' := T2.ax.a2; have lx' := T2.ax.lt; dsimp only at a2')
          | (go_at_call 44; refine Calls.mono (rgforget_any ((HB.b (HBX.toHB (bx := w.heap.size) (by repeat (first | assumption | apply HBX.drew | apply HBX.drewN | apply HBX.alloc)))).rg hk hg.out) gi.out _) ?_; unfold RActPost; (try dsimp only); rintro e w3 ⟨rfl, v3, s3⟩; have T3 := HBX.actB (bx := w.heap.size) T2 (T2.b.guest hk hg.out s3))
          | (go_at_call 7; refine (same_law _ _ _).mono ?_; rintro e w9 ⟨rfl, rfl⟩)
          | fail)
        go_ret
        exact ⟨rfl, _, _, _, T3.toHB, (by have := HI.out.forget (k : Int) xa; rw [FF.out] at this; exact this), rfl⟩
      · -- drop
        go_wp2_with (first
          | (go_at_call 45; refine Calls.mono (hforgetAll_any (HB.a (HBX.toHB (bx := w.heap.size) (by repeat (first | assumption | apply HBX.drew | apply HBX.drewN | apply HBX.alloc)))).r HI.out _ _) ?_; rw [FA.out]; unfold HPost; dsimp only; rintro e w2 ⟨rfl, K2, s2⟩; have T2 := HBX.actA (bx := w.heap.size) (by repeat (first | assumption | apply HBX.drew | apply HBX.drewN | apply HBX.alloc)) s2; have a2' := T2.ax.a2; have lx' := T2.ax.lt; dsimp only at a2')
          | (go_at_call 46; refine Calls.mono (rgforgetAll_any ((HB.b (HBX.toHB (bx := w.heap.size) (by repeat (first | assumption | apply HBX.drew | apply HBX.drewN | apply HBX.alloc)))).rg hk hg.out) gi.out _) ?_; unfold RActPost; (try dsimp only); rintro e w3 ⟨rfl, v3, s3⟩; have T3 := HBX.actB (bx := w.heap.size) T2 (T2.b.guest hk hg.out s3))
          | (go_at_call 7; refine (same_law _ _ _).mono ?_; rintro e w9 ⟨rfl, rfl⟩)
          | fail)
        go_ret
        exact ⟨rfl, _, _, _, T3.toHB, (by have := HI.out.forgetAll (k : Int) xa; rw [FA.out] at this; exact this), rfl⟩
      · -- page
        by_cases ho : onB xa = true
        · obtain ⟨a0, a1⟩ := onB_iff.1 ho
          obtain ⟨p, rfl⟩ := Int.eq_ofNat_of_zero_le a0
          have hp : p < 16 := by omega
          have hon := Lib.hid ho
          have FX2 := Lib.hid (FX.out.trans (mstate_at hp))
          have FL2 := Lib.hid (mleaf_in (M := G.m) hp)
          clear FX ho
          go_wp2_with (first
            | (go_at_call 47; refine Calls.mono (hstate_any (HB.a (HBX.toHB (bx := w.heap.size) (by repeat (first | assumption | apply HBX.drew | apply HBX.drewN | apply HBX.alloc)))).r _ _) ?_; rw [FX2.out]; rintro e w2 ⟨rfl, rfl⟩; unfold errv)
            | (go_at_call 48; refine Calls.mono (hleafC_some (HB.a (HBX.toHB (bx := w.heap.size) (by repeat (first | assumption | apply HBX.drew | apply HBX.drewN | apply HBX.alloc)))).r hk hg.out _) ?_; rw [FL2.out]; unfold errv LeafM.val; rintro e w2 ⟨rfl, u2⟩; have T2 := HBX.non (bx := w.heap.size) (by repeat (first | assumption | apply HBX.drew | apply HBX.drewN | apply HBX.alloc)) u2; have a2' := T2.ax.a2; have lx' := T2.ax.lt; have t2 := T2.b.rg hk hg.out; have c0 := t2.mr.st hp; have c1 := t2.mr.l0 hp; have c2 := t2.mr.l1 hp; have c3 := t2.mr.l2 hp; have lr2 := t2.lt; dsimp only at a2')
            | (go_at_call 49; refine (ron_any _ _).mono ?_; rw [hon.out]; rintro e w1 ⟨rfl, rfl⟩)
            | fail)
          go_quiet (exact quiet_same (natAbs_same _ (a := 0) (b := 0) _ _ rfl rfl))
          go_wp2_with fail
          go_ret
          exact ⟨rfl, _, _, _, (HBX.toHB (bx := w.heap.size) (by repeat (first | assumption | apply HBX.drew | apply HBX.drewN | apply HBX.alloc))), HI.out, rfl⟩
        · have hon : Hid (onB xa = false) := by show _ = _; simpa using ho
          have FX2 := Lib.hid (FX.out.trans (show mstate G.m xa = (0, 1) by unfold mstate; rw [if_neg ho]))
          have FL2 := Lib.hid (show mleaf G.m xa = (LeafM.none, 1) by unfold mleaf; rw [if_neg ho])
          clear FX ho
          go_wp2_with (first
            | (go_at_call 47; refine Calls.mono (hstate_any (HB.a (HBX.toHB (bx := w.heap.size) (by repeat (first | assumption | apply HBX.drew | apply HBX.drewN | apply HBX.alloc)))).r _ _) ?_; rw [FX2.out]; rintro e w2 ⟨rfl, rfl⟩)
            | (go_at_call 48; refine Calls.mono (hleafC_some (HB.a (HBX.toHB (bx := w.heap.size) (by repeat (first | assumption | apply HBX.drew | apply HBX.drewN | apply HBX.alloc)))).r hk hg.out _) ?_; rw [FL2.out]; unfold LeafM.val LeafM.none; rintro e w2 ⟨rfl, u2⟩; have T2 := HBX.non (bx := w.heap.size) (by repeat (first | assumption | apply HBX.drew | apply HBX.drewN | apply HBX.alloc)) u2; have a2' := T2.ax.a2; have lx' := T2.ax.lt; dsimp only at a2')
            | (go_at_call 49; refine (ron_any _ _).mono ?_; rw [hon.out]; rintro e w1 ⟨rfl, rfl⟩)
            | (go_at_call 7; refine (same_law _ 1 1).mono ?_; rintro e w9 ⟨rfl, rfl⟩)
            | fail)
          go_ret
          exact ⟨rfl, _, _, _, (HBX.toHB (bx := w.heap.size) (by repeat (first | assumption | apply HBX.drew | apply HBX.drewN | apply HBX.alloc))), HI.out, rfl⟩
end

end U
end Go.Proofs.YtnhplapcdgnaaaaGreat
