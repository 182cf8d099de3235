import Derived.Test.YtnhplapcdgnaaaaGuestLaw
import Derived.Test.YtnhplapcdgnaaaaMapSays
set_option linter.unusedVariables false
set_option linter.unusedSimpArgs false
namespace Go.Proofs.Ytnhplapcdgnaaaa
open Go.RowKit
namespace U

set_option maxRecDepth 100000 in
set_option maxHeartbeats 4000000 in
theorem asGuest_law (w : World) (L : PoolAt) (K : GAt) (m r : Nat) (vr0 v vr : Value) (P : PoolM) (G : GuestM) {E : Nat → Nat} (hI : GInv P G E) (t : GD w w L K m r vr0 v vr P P G G) :
    Calls Try.prog 68 #[.pointer (some ⟨K.g, 0, none⟩), .pointer (some ⟨r, 0, none⟩)] w fun e w' => e = .returned (.bool true) ∧ Upd Non w w' := by
  have hc : Hid (G.c.length ≤ 100) := by show _ ≤ _; have := hI.c.len; omega
  have hto : Hid (∀ e ∈ G.c, 0 ≤ e.to ∧ e.to < 16) := fun e he => ⟨(hI.c.ent e he).1, (hI.c.ent e he).2.1⟩
  have hcl : Hid ((withLeaf G.m G.c).length ≤ 100) := by show _ ≤ _; rw [withLeaf_length]; exact hc.out
  have c66 := t.rg.c66
  have c67 := t.rg.c67
  have lr := t.rg.lt
  clear hI
  go_enter Try.func68, Try.ntmps68
  go_wp2_with fail
  go_region_held3 (fun w' => w'.cell? ⟨r, 66, none⟩ = some (.int .i64 G.root) ∧ w'.cell? ⟨r, 67, none⟩ = some (.int .i64 G.walks)) (go_keep) (first
    | (go_at_call 98; refine Calls.mono (GD.cRoot (w := w) (m := m) (r := r) (vr0 := vr0) (v := v) (vr := vr) (P := P) (Q := P) (H := G) (by repeat (first | assumption | apply GD.drew | apply GD.drewN | apply GD.alloc))) ?_; rintro e w1 ⟨rfl, rfl⟩)
    | (go_at_call 111; refine Calls.mono (GD.cWalks (w := w) (m := m) (r := r) (vr0 := vr0) (v := v) (vr := vr) (P := P) (Q := P) (H := G) (by repeat (first | assumption | apply GD.drew | apply GD.drewN | apply GD.alloc))) ?_; rintro e w1 ⟨rfl, rfl⟩)
    | (go_at_call 112; refine Calls.mono (GD.cCached (w := w) (m := m) (r := r) (vr0 := vr0) (v := v) (vr := vr) (P := P) (Q := P) (H := G) (by repeat (first | assumption | apply GD.drew | apply GD.drewN | apply GD.alloc)) hc.out) ?_; rintro e wP ⟨vP, rfl, eP, fP, uP⟩; have tP : GD w wP L K m r vr0 v vr P P G G := GD.non (by repeat (first | assumption | apply GD.drew | apply GD.drewN | apply GD.alloc)) uP; have p66 := tP.rg.c66; have p67 := tP.rg.c67; have lp := tP.rg.lt)
    | (go_at_call 113; refine Calls.mono (GD.rCached (w := w) (L := L) (K := K) (vr0 := vr0) (v := v) (vr := vr) (P := P) (Q := P) (G := G) (by repeat (first | assumption | apply GD.drew | apply GD.drewN | apply GD.alloc)) hc.out hto.out) ?_; rintro e wR ⟨vR, rfl, eR, fR, uR⟩; have tR : GD w wR L K m r vr0 v vr P P G G := GD.non (by repeat (first | assumption | apply GD.drew | apply GD.drewN | apply GD.alloc)) uR; have q66 := tR.rg.c66; have q67 := tR.rg.c67; have lq := tR.rg.lt)
    | (go_at_call 26; refine Calls.mono (sameEntries_law _ _ _ (withLeaf G.m G.c) (by first | exact eP | exact eP.upd_ uR (fun _ _ => (fun h => h))) (by first | exact eR | exact eR.upd_ uP (fun _ _ => (fun h => h))) hcl.out) ?_; rintro e wS ⟨rfl, uS⟩; have tS : GD w wS L K m r vr0 v vr P P G G := GD.non (by repeat (first | assumption | apply GD.drew | apply GD.drewN | apply GD.alloc)) uS; have s66 := tS.rg.c66; have s67 := tS.rg.c67))
  have U0 : Upd Non w wS := by
    first
      | exact (((Upd.refl _ _).drew.trans uP).trans uR).trans uS
      | exact ((uP.trans uR).trans uS)
      | exact (((Upd.refl _ _).drew.trans uR).trans uP).trans uS
  have HU := Lib.hid U0
  clear c66 c67 lr tP tR tS p66 p67 q66 q67 s66 s67 lp lq uP uR uS eP eR fP fR U0
  go_wp2_with fail
  go_loopw [5] (fun i wr => ∃ n : Nat, n ≤ 16 ∧ i = .int .i64 n ∧ Hid (Upd Non w wr)) (fun i _ => 16 - (intOf i).toNat)
  case atStart => exact ⟨0, Nat.zero_le _, rfl, HU.out⟩
  case round =>
    obtain ⟨k, hk, rfl, hU⟩ := hrel
    clear HU
    have tw := t.non hU.out
    have lr := tw.rg.lt
    by_cases hlt : k < 16
    · have hon : onB (k : Int) = true := onB_iff.2 ⟨by omega, by omega⟩
      have F1 := Lib.hid (show mstate G.m k = (G.m.state k, 0) by unfold mstate; rw [if_pos hon]; rfl)
      have F2 := Lib.hid (show mleaf G.m k = (G.m.leaf k, 0) by unfold mleaf; rw [if_pos hon]; rfl)
      have hk' : (k : Int) < 16 := by omega
      clear hon
      go_wp2_with (first
        | (go_at_call 114; refine Calls.mono (GD.cState tw _) ?_; rw [F1.out]; rintro e w1 ⟨rfl, rfl⟩; unfold errv)
        | (go_at_call 115; refine Calls.mono (GD.cLeaf tw _) ?_; rw [F2.out]; rintro e w1 ⟨rfl, u1⟩; unfold errv LeafM.val; have t2 := tw.non u1; have c0 := t2.rg.mr.st hlt; have c1 := t2.rg.mr.l0 hlt; have c2 := t2.rg.mr.l1 hlt; have c3 := t2.rg.mr.l2 hlt; have lr2 := t2.rg.lt)
        | fail)
      go_quiet (fail)
      go_wp2
      go_roundw
      case rel => exact ⟨k + 1, by omega, by go_num, ((hU.out.trans u1).alloc _).drewN _⟩
      case measure => simp [intOf]; omega
    · go_wp2
      go_ret
      exact ⟨rfl, hU.out⟩

theorem fresh3_free : (PoolM.fresh 3).free = some 0 := fresh_free (by omega)
def runsG : GuestM := { GuestM.fresh with m := MapM.fresh.setState 1 1 }
theorem runs_store : gstore (PoolM.fresh 3) runsG 17 5 = ((((PoolM.fresh 3).take.1).setByte 0 1 5), { runsG with m := runsG.m.setLeaf 1 ⟨true, true, 0⟩ }, 0) := by
  have e : mtouch (PoolM.fresh 3) (MapM.fresh.setState 1 1) 1 true = ((PoolM.fresh 3).take.1, (MapM.fresh.setState 1 1).setLeaf 1 ⟨true, true, 0⟩, 0, false, 0) := by
    unfold mtouch
    rw [if_pos (by decide), if_neg (by decide), if_neg (by decide), if_neg (by decide), if_neg (by decide), fresh3_free]
    rfl
  have ef : gframe (PoolM.fresh 3) runsG 17 true = ((PoolM.fresh 3).take.1, { runsG with m := runsG.m.setLeaf 1 ⟨true, true, 0⟩ }, 0, 0) := by
    unfold gframe gtouch
    rw [if_neg (by decide), if_pos (by decide)]
    show ((mtouch (PoolM.fresh 3) (MapM.fresh.setState 1 1) 1 true).1, _, (mtouch (PoolM.fresh 3) (MapM.fresh.setState 1 1) 1 true).2.2.1, (mtouch (PoolM.fresh 3) (MapM.fresh.setState 1 1) 1 true).2.2.2.2) = _
    show (_, ({ runsG with m := (mtouch (PoolM.fresh 3) (MapM.fresh.setState 1 1) 1 true).2.1 } : GuestM), _, _) = _
    rw [e]
    rfl
  unfold gstore
  rw [ef]
  simp only [ne_eq, not_true_eq_false, if_false]
  have es : (PoolM.fresh 3).take.1.set 0 (17 % 16) 5 = ((PoolM.fresh 3).take.1.setByte 0 1 5, 0) := by
    have ht : (PoolM.fresh 3).take.1 = ((PoolM.fresh 3).setRef 0 1).setRow 0 fun _ => 0 := by unfold PoolM.take; rw [fresh3_free]
    rw [ht]
    rfl
  rw [es]

end U
end Go.Proofs.Ytnhplapcdgnaaaa
