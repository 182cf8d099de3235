import Derived.Test.YtnhplapcdgnaaaaGreatDoorRGuestD
import Derived.Test.YtnhplapcdgnaaaaGreatDoorGuestHX
import Derived.Deep.RegionWith
set_option linter.unusedVariables false
set_option linter.unusedSimpArgs false
namespace Go.Proofs.YtnhplapcdgnaaaaGreatDoor
open Go.RowKit
namespace U

/-! The reference's guest: loads, stores, what it forgets, its map's acts. -/
section
variable {w W : World} {m r : Nat} {v0 v : Value} {P : PoolM} {E : Nat → Nat} {G : GuestM}

def RLoadPost (w : World) (m r : Nat) (v0 : Value) (x : PoolM × GuestM × UInt8 × Nat) (e : Ending) (w' : World) : Prop :=
  e = .returned (.tuple #[.int .u8 x.2.2.1.toNat, .int .i64 x.2.2.2]) ∧ ∃ v', RG w w' m r v0 v' x.1 x.2.1.m x.2.1.c x.2.1.root x.2.1.walks
def RActPost (w : World) (m r : Nat) (v0 : Value) (x : PoolM × GuestM × Nat) (e : Ending) (w' : World) : Prop :=
  e = .returned (.int .i64 x.2.2) ∧ ∃ v', RG w w' m r v0 v' x.1 x.2.1.m x.2.1.c x.2.1.root x.2.1.walks

theorem gframe_err {addr : Int} {wr : Bool} : 0 ≤ (gframe P G addr wr).2.2.2 := Nat.zero_le _

set_option maxRecDepth 100000 in
set_option maxHeartbeats 1000000 in
theorem rgload_any (t : RG w W m r v0 v P G.m G.c G.root G.walks) (hI : GInv P G E) (addr : Int) :
    Calls Tryz.prog 45 #[.pointer (some ⟨r, 0, none⟩), .int .i64 addr] W (RLoadPost w m r v0 (gload P G addr)) := by
  have hframe := Lib.hid (rframe_any t hI addr false)
  have hF : Hid (gload P G addr = if (gframe P G addr false).2.2.2 ≠ 0 then ((gframe P G addr false).1, (gframe P G addr false).2.1, 0, (gframe P G addr false).2.2.2) else ((gframe P G addr false).1, (gframe P G addr false).2.1, gbyte (gframe P G addr false).1 (gframe P G addr false).2.2.1 (addr % 16), 0)) := rfl
  by_cases he : (gframe P G addr false).2.2.2 = 0
  · have hu := used_cast.1 (hI.frame_used he)
    obtain ⟨h0, h1⟩ := gframe_range he
    rw [if_neg (by simpa using he)] at hF
    have hgb : gbyte (gframe P G addr false).1 (gframe P G addr false).2.2.1 (addr % 16) = (gframe P G addr false).1.b (gframe P G addr false).2.2.1.toNat (addr % 16).toNat := rfl
    rw [hgb] at hF
    clear hgb
    generalize gframe P G addr false = X at hframe hF he hu
    obtain ⟨P1, G1, f, er⟩ := X
    dsimp only at he hF hu
    subst he
    obtain ⟨hu0, hu1, _⟩ := hu
    have p0 : 0 ≤ addr % 16 := by omega
    have p1 : addr % 16 < 16 := by omega
    go_enter Tryz.func45, Tryz.ntmps45
    go_wp2_with (first
      | (go_at_call 77; refine hframe.out.mono ?_; unfold RFramePost; dsimp only; rintro e w2 ⟨rfl, v2, t2⟩; have d0 := t2.c0; have lg2 := t2.lt; have lm2 := t2.rp.lt; have hn := t2.rp.n64; have hf2 : f < 64 := (by omega); have cb := t2.rp.byte hu1 (j := (addr % 16).toNat) (by omega))
      | fail)
    go_ret2
    exact ⟨by rw [hF.out]; rfl, v2, by rw [hF.out]; exact t2⟩
  · rw [if_pos he] at hF
    generalize gframe P G addr false = X at hframe hF he
    obtain ⟨P1, G1, f, er⟩ := X
    dsimp only at he hF
    have hp : (0 : Int) < er := by omega
    clear he
    go_enter Tryz.func45, Tryz.ntmps45
    go_wp2_with (first
      | (go_at_call 77; refine hframe.out.mono ?_; unfold RFramePost; dsimp only; rintro e w2 ⟨rfl, v2, t2⟩)
      | fail)
    go_ret2
    exact ⟨by rw [hF.out]; rfl, v2, by rw [hF.out]; exact t2⟩

set_option maxRecDepth 100000 in
set_option maxHeartbeats 1000000 in
theorem rgstore_any (t : RG w W m r v0 v P G.m G.c G.root G.walks) (hI : GInv P G E) (addr : Int) (b : UInt8) :
    Calls Tryz.prog 46 #[.pointer (some ⟨r, 0, none⟩), .int .i64 addr, .int .u8 b.toNat] W (RActPost w m r v0 (gstore P G addr b)) := by
  have hframe := Lib.hid (rframe_any t hI addr true)
  have hF : Hid (gstore P G addr b = if (gframe P G addr true).2.2.2 ≠ 0 then ((gframe P G addr true).1, (gframe P G addr true).2.1, (gframe P G addr true).2.2.2) else (((gframe P G addr true).1.set (gframe P G addr true).2.2.1 (addr % 16) b).1, (gframe P G addr true).2.1, ((gframe P G addr true).1.set (gframe P G addr true).2.2.1 (addr % 16) b).2)) := rfl
  by_cases he : (gframe P G addr true).2.2.2 = 0
  · obtain ⟨h0, h1⟩ := gframe_range he
    rw [if_neg (by simpa using he)] at hF
    generalize gframe P G addr true = X at hframe hF he
    obtain ⟨P1, G1, f, er⟩ := X
    dsimp only at he hF
    subst he
    go_enter Tryz.func46, Tryz.ntmps46
    go_wp2_with (first
      | (go_at_call 77; refine hframe.out.mono ?_; unfold RFramePost; dsimp only; rintro e w2 ⟨rfl, v2, t2⟩; have d0 := t2.c0; have lg2 := t2.lt)
      | (go_at_call 78; refine (rset_any _ m P1 t2.rp f (addr % 16) b).mono ?_; rintro e w3 ⟨rfl, r3, u3⟩; have t3 := t2.pool r3 u3)
      | fail)
    go_ret
    exact ⟨by rw [hF.out]; rfl, v2, by rw [hF.out]; exact t3⟩
  · rw [if_pos he] at hF
    generalize gframe P G addr true = X at hframe hF he
    obtain ⟨P1, G1, f, er⟩ := X
    dsimp only at he hF
    have hp : (0 : Int) < er := by omega
    clear he
    go_enter Tryz.func46, Tryz.ntmps46
    go_wp2_with (first
      | (go_at_call 77; refine hframe.out.mono ?_; unfold RFramePost; dsimp only; rintro e w2 ⟨rfl, v2, t2⟩)
      | fail)
    go_ret
    exact ⟨by rw [hF.out]; rfl, v2, by rw [hF.out]; exact t2⟩

set_option maxRecDepth 100000 in
set_option maxHeartbeats 400000 in
theorem rgsetRoot_any (t : RG w W m r v0 v P G.m G.c G.root G.walks) (n : Int) :
    Calls Tryz.prog 47 #[.pointer (some ⟨r, 0, none⟩), .int .i64 n] W (RActPost w m r v0 (P, groot G n)) := by
  have c3 := t.c66
  have f3 := t.fr 66
  have lg := t.lt
  by_cases h : n < -1 ∨ 15 < n
  · have hF : Hid (groot G n = (G, 1)) := by show _ = _; unfold groot; rw [if_pos h]
    go_enter Tryz.func47, Tryz.ntmps47
    go_wp2_with fail
    all_goals first | (exfalso; simp_all; omega) | go_ret
    all_goals exact ⟨by rw [hF.out]; rfl, v, by rw [hF.out]; exact t⟩
  · have hF : Hid (groot G n = ({ G with root := n }, 0)) := by show _ = _; unfold groot; rw [if_neg h]
    have h0 : -1 ≤ n := by omega
    have h1 : n ≤ 15 := by omega
    clear h
    go_enter Tryz.func47, Tryz.ntmps47
    go_wp2_with fail
    all_goals first | (exfalso; simp_all; omega) | go_ret
    all_goals exact ⟨by rw [hF.out]; rfl, v, by rw [hF.out]; exact t.setRoot n⟩

set_option maxRecDepth 100000 in
set_option maxHeartbeats 1000000 in
theorem rgforgetAll_any (t : RG w W m r v0 v P G.m G.c G.root G.walks) (hI : GInv P G E) (n : Int) :
    Calls Tryz.prog 49 #[.pointer (some ⟨r, 0, none⟩), .int .i64 n] W (RActPost w m r v0 (P, gforgetAll G n)) := by
  have c65 := t.c65
  have lg := t.lt
  have hlen := hI.c.len
  by_cases h : onB n = true
  · have hF : Hid (gforgetAll G n = ({ G with c := keep1 n G.c }, 0)) := by show _ = _; unfold gforgetAll; rw [if_pos h]
    have ho := Lib.hid h
    clear h hI
    go_enter Tryz.func49, Tryz.ntmps49
    go_wp2_with (first
      | (go_at_call 40; refine (ron_any _ n).mono ?_; rw [ho.out]; rintro e w1 ⟨rfl, rfl⟩)
      | (go_at_call 81; refine (rforget_any _ v G.c t.ev (by omega) n).mono ?_; rintro e w3 ⟨v3, rfl, e3, k3, u3⟩; have t3 := t.non u3; have lg3 := t3.lt; have f65 := t3.fr 65; have d65 := t3.c65; obtain ⟨A3, cap3, rfl⟩ := e3.form)
      | fail)
    go_ret
    exact ⟨by rw [hF.out]; rfl, _, by rw [hF.out]; exact t3.setC e3 (fun g hg => Nat.le_trans t.up.size (k3 g hg))⟩
  · have hF : Hid (gforgetAll G n = (G, 1)) := by show _ = _; unfold gforgetAll; rw [if_neg h]
    have ho : Hid (onB n = false) := by show _ = _; simpa using h
    clear h hI
    go_enter Tryz.func49, Tryz.ntmps49
    go_wp2_with (first
      | (go_at_call 40; refine (ron_any _ n).mono ?_; rw [ho.out]; rintro e w1 ⟨rfl, rfl⟩)
      | fail)
    go_ret
    exact ⟨by rw [hF.out]; rfl, v, by rw [hF.out]; exact t⟩

set_option maxRecDepth 100000 in
set_option maxHeartbeats 2000000 in
theorem rgforget_any (t : RG w W m r v0 v P G.m G.c G.root G.walks) (hI : GInv P G E) (addr : Int) :
    Calls Tryz.prog 48 #[.pointer (some ⟨r, 0, none⟩), .int .i64 addr] W (RActPost w m r v0 (P, gforget G addr)) := by
  have c65 := t.c65
  have c66 := t.c66
  have lg := t.lt
  have hlen := hI.c.len
  by_cases h : addr < 0 ∨ 255 < addr
  · have hF : Hid (gforget G addr = (G, 1)) := by show _ = _; unfold gforget; rw [if_pos h]
    go_enter Tryz.func48, Tryz.ntmps48
    go_wp2_with fail
    all_goals first | (exfalso; simp_all; done) | go_ret
    all_goals exact ⟨by rw [hF.out]; rfl, v, by rw [hF.out]; exact t⟩
  · have hF : Hid (gforget G addr = ({ G with c := keep2 G.root (addr / 16) G.c }, 0)) := by show _ = _; unfold gforget; rw [if_neg h]
    have hk := Lib.hid (rwithout_find G.c G.root (addr / 16) hI.c.keys)
    have h0 : 0 ≤ addr := by omega
    have h1 : addr ≤ 255 := by omega
    have f65 := t.fr 65
    have hq := Lib.hid (IntWalk.i64_quo addr 16 ⟨h0, by omega, by omega⟩)
    clear h hI
    obtain ⟨A, cap, rfl⟩ := t.ev.form
    go_enter Tryz.func48, Tryz.ntmps48
    go_wp2_with fail
    go_region_with (first
      | (go_at_call 80; rw [hq.out]; refine (rfind_any _ _ G.c (RG.ev (w := w) (m := m) (r := r) (v0 := v0) (P := P) (M := G.m) (root := G.root) (walks := G.walks) (by repeat (first | assumption | apply RG.alloc | apply RG.drew | apply RG.drewN))) (by omega) G.root (addr / 16)).mono ?_; rintro e w2 ⟨rfl, rfl⟩)
      | (go_at_call 79; refine (rwithout_any _ _ G.c (RG.ev (w := w) (m := m) (r := r) (v0 := v0) (P := P) (M := G.m) (root := G.root) (walks := G.walks) (by repeat (first | assumption | apply RG.alloc | apply RG.drew | apply RG.drewN))) (by omega) _).mono ?_; rw [hk.out]; rintro e w3 ⟨v3, rfl, e3, k3, u3⟩; have t3 : RG w w3 m r v0 (.slice A G.c.length cap) P G.m G.c G.root G.walks := RG.non (by repeat (first | assumption | apply RG.alloc | apply RG.drew | apply RG.drewN)) u3; have lg3 := t3.lt; have g65 := t3.fr 65; have d65 := t3.c65; obtain ⟨A3, cap3, rfl⟩ := e3.form))
    all_goals go_wp2_with fail
    all_goals go_ret
    all_goals exact ⟨by rw [hF.out]; rfl, _, by rw [hF.out]; exact t3.setC e3 (fun g hg => Nat.le_trans t.up.size (k3 g hg))⟩

theorem rgplug_any (t : RG w W m r v0 v P G.m G.c G.root G.walks) (hI : GInv P G E) (n : Int) :
    Calls Tryz.prog 39 #[.pointer (some ⟨r, 0, none⟩), .int .i64 n] W (RActPost w m r v0 ((P, { G with m := (mplug G.m n).1 }, (mplug G.m n).2))) :=
  (rplug_any (by decide) W P r G.m _ t.rp t.mr n).mono (by rintro e w2 ⟨rfl, r2, q2, u2⟩; exact ⟨rfl, v, t.mapP r2 q2 u2⟩)
theorem rgunplug_any (t : RG w W m r v0 v P G.m G.c G.root G.walks) (hI : GInv P G E) (n : Int) :
    Calls Tryz.prog 38 #[.pointer (some ⟨r, 0, none⟩), .int .i64 n] W (RActPost w m r v0 (((munplug P G.m n).1, { G with m := (munplug P G.m n).2.1 }, (munplug P G.m n).2.2))) :=
  (runplug_any (by decide) W P r G.m _ t.rp t.mr hI.m.none n).mono (by rintro e w2 ⟨rfl, r2, q2, u2⟩; exact ⟨rfl, v, t.mapP r2 q2 u2⟩)
theorem rggive_any (t : RG w W m r v0 v P G.m G.c G.root G.walks) (hI : GInv P G E) (n : Int) :
    Calls Tryz.prog 41 #[.pointer (some ⟨r, 0, none⟩), .int .i64 n, .bool false] W (RActPost w m r v0 (((mgive P G.m n).1, { G with m := (mgive P G.m n).2.1 }, (mgive P G.m n).2.2))) :=
  (rgive_any (by decide) W P r G.m _ t.rp t.mr hI.m.none n).mono (by rintro e w2 ⟨rfl, r2, q2, u2⟩; exact ⟨rfl, v, t.mapP r2 q2 u2⟩)
theorem rgback_any (t : RG w W m r v0 v P G.m G.c G.root G.walks) (hI : GInv P G E) (n : Int) :
    Calls Tryz.prog 41 #[.pointer (some ⟨r, 0, none⟩), .int .i64 n, .bool true] W (RActPost w m r v0 ((P, { G with m := (mback G.m n).1 }, (mback G.m n).2))) :=
  (rback_any (by decide) W P r G.m _ t.rp t.mr n).mono (by rintro e w2 ⟨rfl, r2, q2, u2⟩; exact ⟨rfl, v, t.mapP r2 q2 u2⟩)
theorem rgseal_any (t : RG w W m r v0 v P G.m G.c G.root G.walks) (hI : GInv P G E) (n : Int) :
    Calls Tryz.prog 43 #[.pointer (some ⟨r, 0, none⟩), .int .i64 n] W (RActPost w m r v0 ((P, { G with m := (mseal G.m n).1 }, (mseal G.m n).2))) :=
  (rseal_any (by decide) W P r G.m _ t.rp t.mr n).mono (by rintro e w2 ⟨rfl, r2, q2, u2⟩; exact ⟨rfl, v, t.mapP r2 q2 u2⟩)
theorem rgjoin_any (t : RG w W m r v0 v P G.m G.c G.root G.walks) (hI : GInv P G E) (n fr : Int) :
    Calls Tryz.prog 44 #[.pointer (some ⟨r, 0, none⟩), .int .i64 n, .int .i64 fr] W (RActPost w m r v0 (((mjoin P G.m n fr).1, { G with m := (mjoin P G.m n fr).2.1 }, (mjoin P G.m n fr).2.2))) :=
  (rjoin_any (by decide) W P r G.m _ t.rp t.mr n fr).mono (by rintro e w2 ⟨rfl, r2, q2, u2⟩; exact ⟨rfl, v, t.mapP r2 q2 u2⟩)
end

end U
end Go.Proofs.YtnhplapcdgnaaaaGreatDoor

set_option linter.unusedVariables false
set_option linter.unusedSimpArgs false
namespace Go.Proofs.YtnhplapcdgnaaaaGreatDoor
open Go.RowKit
namespace U

/-! The reference's guest: Cached. -/
section
variable {w W : World} {m r : Nat} {v0 v : Value} {P : PoolM} {M : MapM} {C : List EntryM} {root walks : Int}

theorem box_get {X : World} {B : Nat} {v0 v1 v2 v3 v4 v5 v6 : Value} {c : Nat → Value} (r : Row X B 144 7 c) (h : ∀ i, i < 7 → c i = [v0, v1, v2, v3, v4, v5, v6].getD i undef) :
    Row X B 144 7 (fun i => [v0, v1, v2, v3, v4, v5, v6].getD i undef) := r.congr h

end

end U
end Go.Proofs.YtnhplapcdgnaaaaGreatDoor
