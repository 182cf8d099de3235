import Derived.Test.YtnhplapcdgnaaaaGuestLaw
set_option linter.unusedVariables false
set_option linter.unusedSimpArgs false
namespace Go.Proofs.Ytnhplapcdgnaaaa
open Go.RowKit
namespace U

/-! The laws runs and guested (written by gen_guested.py). -/
set_option maxRecDepth 100000 in
set_option maxHeartbeats 8000000 in
theorem guested_law (w : World) (L : PoolAt) (K : GAt) (m r : Nat) (vr0 v vr : Value) (P : PoolM) (G : GuestM) {E : Nat → Nat} (hI : GInv P G E) (t : GD w w L K m r vr0 v vr P P G G) (x : ActM) :
    Calls Try.prog 67 #[.pointer (some ⟨K.g, 0, none⟩), .pointer (some ⟨r, 0, none⟩), .agg #[.string x.kind, .int .i64 x.n, .int .i64 x.a, .int .i64 x.b, .int .u8 x.v.toNat, .bool x.on]] w
      (GuestedPost w L K m r vr0 P.n E) := by
  have T : GDX w (w.alloc (.cells #[.string x.kind, .int .i64 x.n, .int .i64 x.a, .int .i64 x.b, .int .u8 x.v.toNat, .bool x.on] 31)) L K m r vr0 v vr P P G G w.heap.size x := GDX.new t x
  have HI := Lib.hid hI
  clear hI t
  go_enter Try.func67, Try.ntmps67
  go_wp2_with fail
  · -- load
    go_wp2_with (first
      | (go_at_call 97; refine Calls.mono (GD.cLoad (GDX.toGD (bx := w.heap.size) (x := x) (by repeat (first | assumption | apply GDX.drew | apply GDX.drewN))) HI.out _) ?_; unfold LoadPost; rintro e w2 ⟨rfl, v2, s2⟩; have T2 := GDX.stepP (bx := w.heap.size) (x := x) (by repeat (first | assumption | apply GDX.drew | apply GDX.drewN)) s2; have a2' := T2.a2)
      | (go_at_call 101; refine Calls.mono (GD.rLoad (GDX.toGD (bx := w.heap.size) (x := x) (by repeat (first | assumption | apply GDX.drew | apply GDX.drewN))) HI.out _) ?_; unfold RLoadPost; rintro e w3 ⟨rfl, v3, s3⟩; have T3 := GDX.stepR (bx := w.heap.size) (x := x) (by repeat (first | assumption | apply GDX.drew | apply GDX.drewN)) s3)
      | (go_at_call 29; refine (same_law _ _ _).mono ?_; rintro e w9 ⟨rfl, rfl⟩))
    all_goals go_ret
    all_goals exact ⟨rfl, _, _, _, _, GDX.toGD (bx := w.heap.size) (x := x) (by repeat (first | assumption | apply GDX.drew | apply GDX.drewN)), (HI.out.load _).n, (HI.out.load _).inv⟩
  · -- store
    go_region_held3 (fun w' => w'.cell? ⟨w.heap.size, 2, none⟩ = some (.int .i64 x.a) ∧ w'.cell? ⟨w.heap.size, 4, none⟩ = some (.int .u8 x.v.toNat)) (first | exact ⟨T2.a2, T2.a4⟩ | simp) (first
      | (go_at_call 63; refine Calls.mono (GD.cStore (GDX.toGD (bx := w.heap.size) (x := x) (by repeat (first | assumption | apply GDX.drew | apply GDX.drewN))) HI.out _ x.v) ?_; unfold ActPost; rintro e w2 ⟨rfl, v2, s2⟩; have T2 := GDX.stepP (bx := w.heap.size) (x := x) (by repeat (first | assumption | apply GDX.drew | apply GDX.drewN)) s2; have a2' := T2.a2; have a4' := T2.a4)
      | (go_at_call 102; refine Calls.mono (GD.rStore (GDX.toGD (bx := w.heap.size) (x := x) (by repeat (first | assumption | apply GDX.drew | apply GDX.drewN))) HI.out _ x.v) ?_; unfold RActPost; rintro e w2 ⟨rfl, v2, s2⟩; have T2 := GDX.stepR (bx := w.heap.size) (x := x) (by repeat (first | assumption | apply GDX.drew | apply GDX.drewN)) s2; have a2' := T2.a2; have a4' := T2.a4)
      | (go_at_call 29; refine (same_law _ _ _).mono ?_; rintro e w9 ⟨rfl, rfl⟩))
    all_goals go_wp2
    all_goals go_ret
    all_goals exact ⟨rfl, _, _, _, _, GDX.toGD (bx := w.heap.size) (x := x) (by repeat (first | assumption | apply GDX.drew | apply GDX.drewN)), (HI.out.store _ _).n, (HI.out.store _ _).inv⟩
  · -- root
    go_region_held3 (fun w' => w'.cell? ⟨w.heap.size, 2, none⟩ = some (.int .i64 x.a)) (first | exact T2.a2 | simp) (first
      | (go_at_call 65; refine Calls.mono (GD.cSetRoot (GDX.toGD (bx := w.heap.size) (x := x) (by repeat (first | assumption | apply GDX.drew | apply GDX.drewN))) _) ?_; unfold ActPost; rintro e w2 ⟨rfl, v2, s2⟩; have T2 := GDX.stepP (bx := w.heap.size) (x := x) (by repeat (first | assumption | apply GDX.drew | apply GDX.drewN)) s2; have a2' := T2.a2)
      | (go_at_call 103; refine Calls.mono (GD.rSetRoot (GDX.toGD (bx := w.heap.size) (x := x) (by repeat (first | assumption | apply GDX.drew | apply GDX.drewN))) _) ?_; unfold RActPost; rintro e w2 ⟨rfl, v2, s2⟩; have T2 := GDX.stepR (bx := w.heap.size) (x := x) (by repeat (first | assumption | apply GDX.drew | apply GDX.drewN)) s2; have a2' := T2.a2)
      | (go_at_call 29; refine (same_law _ _ _).mono ?_; rintro e w9 ⟨rfl, rfl⟩))
    all_goals go_wp2
    all_goals go_ret
    all_goals exact ⟨rfl, _, _, _, _, GDX.toGD (bx := w.heap.size) (x := x) (by repeat (first | assumption | apply GDX.drew | apply GDX.drewN)), rfl, HI.out.setRoot _⟩
  · -- forget
    go_region_held3 (fun w' => w'.cell? ⟨w.heap.size, 2, none⟩ = some (.int .i64 x.a)) (first | exact T2.a2 | simp) (first
      | (go_at_call 104; refine Calls.mono (GD.cForget (GDX.toGD (bx := w.heap.size) (x := x) (by repeat (first | assumption | apply GDX.drew | apply GDX.drewN))) HI.out _) ?_; unfold ActPost; rintro e w2 ⟨rfl, v2, s2⟩; have T2 := GDX.stepP (bx := w.heap.size) (x := x) (by repeat (first | assumption | apply GDX.drew | apply GDX.drewN)) s2; have a2' := T2.a2)
      | (go_at_call 105; refine Calls.mono (GD.rForget (GDX.toGD (bx := w.heap.size) (x := x) (by repeat (first | assumption | apply GDX.drew | apply GDX.drewN))) HI.out _) ?_; unfold RActPost; rintro e w2 ⟨rfl, v2, s2⟩; have T2 := GDX.stepR (bx := w.heap.size) (x := x) (by repeat (first | assumption | apply GDX.drew | apply GDX.drewN)) s2; have a2' := T2.a2)
      | (go_at_call 29; refine (same_law _ _ _).mono ?_; rintro e w9 ⟨rfl, rfl⟩))
    all_goals go_wp2
    all_goals go_ret
    all_goals exact ⟨rfl, _, _, _, _, GDX.toGD (bx := w.heap.size) (x := x) (by repeat (first | assumption | apply GDX.drew | apply GDX.drewN)), rfl, HI.out.forget _⟩
  · -- drop
    go_region_held3 (fun w' => w'.cell? ⟨w.heap.size, 2, none⟩ = some (.int .i64 x.a)) (first | exact T2.a2 | simp) (first
      | (go_at_call 66; refine Calls.mono (GD.cForgetAll (GDX.toGD (bx := w.heap.size) (x := x) (by repeat (first | assumption | apply GDX.drew | apply GDX.drewN))) HI.out _) ?_; unfold ActPost; rintro e w2 ⟨rfl, v2, s2⟩; have T2 := GDX.stepP (bx := w.heap.size) (x := x) (by repeat (first | assumption | apply GDX.drew | apply GDX.drewN)) s2; have a2' := T2.a2)
      | (go_at_call 106; refine Calls.mono (GD.rForgetAll (GDX.toGD (bx := w.heap.size) (x := x) (by repeat (first | assumption | apply GDX.drew | apply GDX.drewN))) HI.out _) ?_; unfold RActPost; rintro e w2 ⟨rfl, v2, s2⟩; have T2 := GDX.stepR (bx := w.heap.size) (x := x) (by repeat (first | assumption | apply GDX.drew | apply GDX.drewN)) s2; have a2' := T2.a2)
      | (go_at_call 29; refine (same_law _ _ _).mono ?_; rintro e w9 ⟨rfl, rfl⟩))
    all_goals go_wp2
    all_goals go_ret
    all_goals exact ⟨rfl, _, _, _, _, GDX.toGD (bx := w.heap.size) (x := x) (by repeat (first | assumption | apply GDX.drew | apply GDX.drewN)), rfl, HI.out.forgetAll _⟩
  · -- plug
    go_region_held3 (fun w' => w'.cell? ⟨w.heap.size, 2, none⟩ = some (.int .i64 x.a)) (first | exact T2.a2 | simp) (first
      | (go_at_call 96; refine Calls.mono (GD.cPlug (GDX.toGD (bx := w.heap.size) (x := x) (by repeat (first | assumption | apply GDX.drew | apply GDX.drewN))) HI.out _) ?_; unfold ActPost; rintro e w2 ⟨rfl, v2, s2⟩; have T2 := GDX.stepP (bx := w.heap.size) (x := x) (by repeat (first | assumption | apply GDX.drew | apply GDX.drewN)) s2; have a2' := T2.a2)
      | (go_at_call 87; refine Calls.mono (GD.rPlug (GDX.toGD (bx := w.heap.size) (x := x) (by repeat (first | assumption | apply GDX.drew | apply GDX.drewN))) HI.out _) ?_; unfold RActPost; rintro e w2 ⟨rfl, v2, s2⟩; have T2 := GDX.stepR (bx := w.heap.size) (x := x) (by repeat (first | assumption | apply GDX.drew | apply GDX.drewN)) s2; have a2' := T2.a2)
      | (go_at_call 29; refine (same_law _ _ _).mono ?_; rintro e w9 ⟨rfl, rfl⟩))
    all_goals go_wp2
    all_goals go_ret
    all_goals exact ⟨rfl, _, _, _, _, GDX.toGD (bx := w.heap.size) (x := x) (by repeat (first | assumption | apply GDX.drew | apply GDX.drewN)), rfl, (HI.out.map ⟨rfl, HI.out.m.plug _, fun _ _ _ => rfl⟩).inv⟩
  · -- unplug
    go_region_held3 (fun w' => w'.cell? ⟨w.heap.size, 2, none⟩ = some (.int .i64 x.a)) (first | exact T2.a2 | simp) (first
      | (go_at_call 64; refine Calls.mono (GD.cUnplug (GDX.toGD (bx := w.heap.size) (x := x) (by repeat (first | assumption | apply GDX.drew | apply GDX.drewN))) HI.out _) ?_; unfold ActPost; rintro e w2 ⟨rfl, v2, s2⟩; have T2 := GDX.stepP (bx := w.heap.size) (x := x) (by repeat (first | assumption | apply GDX.drew | apply GDX.drewN)) s2; have a2' := T2.a2)
      | (go_at_call 88; refine Calls.mono (GD.rUnplug (GDX.toGD (bx := w.heap.size) (x := x) (by repeat (first | assumption | apply GDX.drew | apply GDX.drewN))) HI.out _) ?_; unfold RActPost; rintro e w2 ⟨rfl, v2, s2⟩; have T2 := GDX.stepR (bx := w.heap.size) (x := x) (by repeat (first | assumption | apply GDX.drew | apply GDX.drewN)) s2; have a2' := T2.a2)
      | (go_at_call 29; refine (same_law _ _ _).mono ?_; rintro e w9 ⟨rfl, rfl⟩))
    all_goals go_wp2
    all_goals go_ret
    all_goals exact ⟨rfl, _, _, _, _, GDX.toGD (bx := w.heap.size) (x := x) (by repeat (first | assumption | apply GDX.drew | apply GDX.drewN)), (HI.out.map (HI.out.m.unplug _)).n, (HI.out.map (HI.out.m.unplug _)).inv⟩
  · -- give
    go_region_held3 (fun w' => w'.cell? ⟨w.heap.size, 2, none⟩ = some (.int .i64 x.a)) (first | exact T2.a2 | simp) (first
      | (go_at_call 107; refine Calls.mono (GD.cGive (GDX.toGD (bx := w.heap.size) (x := x) (by repeat (first | assumption | apply GDX.drew | apply GDX.drewN))) HI.out _) ?_; unfold ActPost; rintro e w2 ⟨rfl, v2, s2⟩; have T2 := GDX.stepP (bx := w.heap.size) (x := x) (by repeat (first | assumption | apply GDX.drew | apply GDX.drewN)) s2; have a2' := T2.a2)
      | (go_at_call 90; refine Calls.mono (GD.rGive (GDX.toGD (bx := w.heap.size) (x := x) (by repeat (first | assumption | apply GDX.drew | apply GDX.drewN))) HI.out _) ?_; unfold RActPost; rintro e w2 ⟨rfl, v2, s2⟩; have T2 := GDX.stepR (bx := w.heap.size) (x := x) (by repeat (first | assumption | apply GDX.drew | apply GDX.drewN)) s2; have a2' := T2.a2)
      | (go_at_call 29; refine (same_law _ _ _).mono ?_; rintro e w9 ⟨rfl, rfl⟩))
    all_goals go_wp2
    all_goals go_ret
    all_goals exact ⟨rfl, _, _, _, _, GDX.toGD (bx := w.heap.size) (x := x) (by repeat (first | assumption | apply GDX.drew | apply GDX.drewN)), (HI.out.map (HI.out.m.give _)).n, (HI.out.map (HI.out.m.give _)).inv⟩
  · -- back
    go_region_held3 (fun w' => w'.cell? ⟨w.heap.size, 2, none⟩ = some (.int .i64 x.a)) (first | exact T2.a2 | simp) (first
      | (go_at_call 108; refine Calls.mono (GD.cBack (GDX.toGD (bx := w.heap.size) (x := x) (by repeat (first | assumption | apply GDX.drew | apply GDX.drewN))) HI.out _) ?_; unfold ActPost; rintro e w2 ⟨rfl, v2, s2⟩; have T2 := GDX.stepP (bx := w.heap.size) (x := x) (by repeat (first | assumption | apply GDX.drew | apply GDX.drewN)) s2; have a2' := T2.a2)
      | (go_at_call 90; refine Calls.mono (GD.rBack (GDX.toGD (bx := w.heap.size) (x := x) (by repeat (first | assumption | apply GDX.drew | apply GDX.drewN))) HI.out _) ?_; unfold RActPost; rintro e w2 ⟨rfl, v2, s2⟩; have T2 := GDX.stepR (bx := w.heap.size) (x := x) (by repeat (first | assumption | apply GDX.drew | apply GDX.drewN)) s2; have a2' := T2.a2)
      | (go_at_call 29; refine (same_law _ _ _).mono ?_; rintro e w9 ⟨rfl, rfl⟩))
    all_goals go_wp2
    all_goals go_ret
    all_goals exact ⟨rfl, _, _, _, _, GDX.toGD (bx := w.heap.size) (x := x) (by repeat (first | assumption | apply GDX.drew | apply GDX.drewN)), rfl, (HI.out.map ⟨rfl, HI.out.m.back _, fun _ _ _ => rfl⟩).inv⟩
  · -- join
    go_region_held3 (fun w' => w'.cell? ⟨w.heap.size, 2, none⟩ = some (.int .i64 x.a) ∧ w'.cell? ⟨w.heap.size, 3, none⟩ = some (.int .i64 x.b)) (first | exact ⟨T2.a2, T2.a3⟩ | simp) (first
      | (go_at_call 109; refine Calls.mono (GD.cJoin (GDX.toGD (bx := w.heap.size) (x := x) (by repeat (first | assumption | apply GDX.drew | apply GDX.drewN))) HI.out _ _) ?_; unfold ActPost; rintro e w2 ⟨rfl, v2, s2⟩; have T2 := GDX.stepP (bx := w.heap.size) (x := x) (by repeat (first | assumption | apply GDX.drew | apply GDX.drewN)) s2; have a2' := T2.a2; have a3' := T2.a3)
      | (go_at_call 93; refine Calls.mono (GD.rJoin (GDX.toGD (bx := w.heap.size) (x := x) (by repeat (first | assumption | apply GDX.drew | apply GDX.drewN))) HI.out _ _) ?_; unfold RActPost; rintro e w2 ⟨rfl, v2, s2⟩; have T2 := GDX.stepR (bx := w.heap.size) (x := x) (by repeat (first | assumption | apply GDX.drew | apply GDX.drewN)) s2; have a2' := T2.a2; have a3' := T2.a3)
      | (go_at_call 29; refine (same_law _ _ _).mono ?_; rintro e w9 ⟨rfl, rfl⟩))
    all_goals go_wp2
    all_goals go_ret
    all_goals exact ⟨rfl, _, _, _, _, GDX.toGD (bx := w.heap.size) (x := x) (by repeat (first | assumption | apply GDX.drew | apply GDX.drewN)), (HI.out.map (HI.out.m.join _ _).1).n, (HI.out.map (HI.out.m.join _ _).1).inv⟩
  · -- seal
    go_region_held3 (fun w' => w'.cell? ⟨w.heap.size, 2, none⟩ = some (.int .i64 x.a)) (first | exact T2.a2 | simp) (first
      | (go_at_call 110; refine Calls.mono (GD.cSeal (GDX.toGD (bx := w.heap.size) (x := x) (by repeat (first | assumption | apply GDX.drew | apply GDX.drewN))) HI.out _) ?_; unfold ActPost; rintro e w2 ⟨rfl, v2, s2⟩; have T2 := GDX.stepP (bx := w.heap.size) (x := x) (by repeat (first | assumption | apply GDX.drew | apply GDX.drewN)) s2; have a2' := T2.a2)
      | (go_at_call 92; refine Calls.mono (GD.rSeal (GDX.toGD (bx := w.heap.size) (x := x) (by repeat (first | assumption | apply GDX.drew | apply GDX.drewN))) HI.out _) ?_; unfold RActPost; rintro e w2 ⟨rfl, v2, s2⟩; have T2 := GDX.stepR (bx := w.heap.size) (x := x) (by repeat (first | assumption | apply GDX.drew | apply GDX.drewN)) s2; have a2' := T2.a2)
      | (go_at_call 29; refine (same_law _ _ _).mono ?_; rintro e w9 ⟨rfl, rfl⟩))
    all_goals go_wp2
    all_goals go_ret
    all_goals exact ⟨rfl, _, _, _, _, GDX.toGD (bx := w.heap.size) (x := x) (by repeat (first | assumption | apply GDX.drew | apply GDX.drewN)), rfl, (HI.out.map ⟨rfl, HI.out.m.sealed _, fun _ _ _ => rfl⟩).inv⟩

end U
end Go.Proofs.Ytnhplapcdgnaaaa
