import Derived.Test.YtnhplapcdgnaaaaGreatDoorGuestJX
import Derived.Test.YtnhplapcdgnaaaaGreatDoorRGuestEX
import Derived.Test.YtnhplapcdgnaaaaGreatDoorRCacheX
import Derived.Test.YtnhplapcdgnaaaaGreatDoorLawX
import Derived.Deep.RegionHeld3
import Derived.Test.YtnhplapcdgnaaaaGreatDoorMapLawX
import Derived.Test.YtnhplapcdgnaaaaGreatDoorRPoolX
set_option linter.unusedVariables false
set_option linter.unusedSimpArgs false
namespace Go.Proofs.YtnhplapcdgnaaaaGreatDoor
open Go.RowKit
namespace U

/-! A guest of the program beside the reference's. -/
def both (L : PoolAt) (K : GAt) (m r : Nat) : Nat → Prop := fun k => ownG L K k ∨ ownR m r k
structure GD (w W : World) (L : PoolAt) (K : GAt) (m r : Nat) (vr0 v vr : Value) (P Q : PoolM) (G H : GuestM) : Prop where
  rp : PoolRep W L P
  gr : GRep W L.p (K.vv v) G
  rm : RPoolRep W m Q
  mr : RMRep W r 95 68 m H.m (xg vr H.root H.walks)
  ev : ERow W vr H.c
  fv : v = K.v ∨ Fresh w v
  fr : vr = vr0 ∨ Fresh w vr
  sep : ∀ g, v.ownBlock = some g → ¬ vr.ownBlock = some g
  up : Upd (both L K m r) w W
section
variable {w W W' : World} {L : PoolAt} {K : GAt} {m r : Nat} {vr0 v vr v' vr' : Value} {P Q P' Q' : PoolM} {G H G' H' : GuestM}
theorem GD.non (t : GD w W L K m r vr0 v vr P Q G H) (u : Upd Non W W') : GD w W' L K m r vr0 v vr P Q G H :=
  ⟨t.rp.upd_ u (fun h => h) (fun h => h) (fun h => h), GRw.upd_ t.gr u (fun _ _ => (fun h => h)), t.rm.upd_ u (fun h => h), t.mr.upd_ u (fun h => h), t.ev.upd_ u (fun _ _ => (fun h => h)), t.fv, t.fr, t.sep, t.up.over' u (fun _ h => h.elim)⟩
theorem GD.pg (t : GD w W L K m r vr0 v vr P Q G H) : PG W W L (K.vv v) v P G.m (withLeaf G.m G.c) G.root G.walks := ⟨t.rp, t.gr, .inl rfl, Upd.refl _ _⟩
theorem GD.rg (t : GD w W L K m r vr0 v vr P Q G H) : RG W W m r vr vr Q H.m H.c H.root H.walks := ⟨t.rm, t.mr, t.ev, .inl rfl, Upd.refl _ _⟩
theorem GD.stepP (t : GD w W L K m r vr0 v vr P Q G H) (s : PG W W' L (K.vv v) v' P' G'.m (withLeaf G'.m G'.c) G'.root G'.walks) : GD w W' L K m r vr0 v' vr P' Q G' H := by
  obtain ⟨_, hm, _⟩ := t.rm.row
  obtain ⟨_, hr, _⟩ := t.mr.row
  obtain ⟨_, _, hB, _⟩ := t.rp.bytes
  obtain ⟨_, _, hR, _⟩ := t.rp.counts
  have offT : ∀ {k T N : Nat} {f : Nat → Value}, Row W k T N f → T ≠ 41 → T ≠ 3 → T ≠ 158 → T ≠ 175 → T ≠ 156 → T ≠ 144 → ¬ ownG L (K.vv v) k := by
    intro k T N f h e1 e2 e3 e4 e5 e6
    rintro ((h' | h') | h')
    · exact h.ne_ hB e1 h'
    · exact h.ne_ hR e2 h'
    · exact GRw.off t.gr h e3 e4 e5 e6 h'
  have u := s.up
  refine ⟨s.rp, s.gr, t.rm.upd_ u (offT hm (by decide) (by decide) (by decide) (by decide) (by decide) (by decide)), t.mr.upd_ u (offT hr (by decide) (by decide) (by decide) (by decide) (by decide) (by decide)), t.ev.upd_ u ?_, ?_, t.fr, ?_, t.up.over' u ?_⟩
  · rintro g hg ((h' | h') | ((h' | h') | (h' | h')))
    · exact t.ev.ne_row hB (by decide) (by rw [hg, h'])
    · exact t.ev.ne_row hR (by decide) (by rw [hg, h'])
    · exact t.ev.ne_row t.gr.row (by decide) (by rw [hg, h'])
    · obtain ⟨_, hmm, _⟩ := t.gr.m.row
      exact t.ev.ne_row hmm (by decide) (by rw [hg, h'])
    · exact t.ev.ne_row t.gr.cr (by decide) (by rw [hg, h'])
    · exact t.sep g h' hg
  · rcases s.fv with e | e
    · have : v' = v := e
      rw [this]; exact t.fv
    · exact .inr fun g hg => Nat.le_trans t.up.size (e g hg)
  · intro g hg h
    rcases s.fv with e | e
    · have : v' = v := e
      rw [this] at hg
      exact t.sep g hg h
    · have := e g hg
      have := t.ev.lt h
      omega
  · rintro k (h' | ((h' | h') | (h' | h')))
    · exact .inl (.inl (.inl h'))
    · exact .inl (.inl (.inr (.inl (.inl h'))))
    · exact .inl (.inl (.inr (.inl (.inr h'))))
    · exact .inl (.inl (.inr (.inr (.inl h'))))
    · rcases t.fv with e | e
      · exact .inl (.inl (.inr (.inr (.inr (by rw [← e]; exact h')))))
      · exact .inr (e k h')
theorem GD.stepR (t : GD w W L K m r vr0 v vr P Q G H) (s : RG W W' m r vr vr' Q' H'.m H'.c H'.root H'.walks) : GD w W' L K m r vr0 v vr' P Q' G H' := by
  obtain ⟨_, hm, _⟩ := t.rm.row
  obtain ⟨_, hr, _⟩ := t.mr.row
  obtain ⟨_, _, hB, _⟩ := t.rp.bytes
  obtain ⟨_, _, hR, _⟩ := t.rp.counts
  have offT : ∀ {k T N : Nat} {f : Nat → Value}, Row W k T N f → T ≠ 45 → T ≠ 95 → ¬ ownR m r k := by
    intro k T N f h e1 e2
    rintro (h' | h')
    · exact h.ne_ hm e1 h'
    · exact h.ne_ hr e2 h'
  have u := s.up
  obtain ⟨_, hmm, _⟩ := t.gr.m.row
  refine ⟨t.rp.upd_ u (offT t.rp.st (by decide) (by decide)) (offT hB (by decide) (by decide)) (offT hR (by decide) (by decide)), GRw.upd_ t.gr u ?_, s.rp, s.mr, s.ev, t.fv, ?_, ?_, t.up.over' u (fun k h => .inl (.inr h))⟩
  · rintro k ((rfl | rfl) | (rfl | h))
    · exact offT t.gr.row (by decide) (by decide)
    · exact offT hmm (by decide) (by decide)
    · exact offT t.gr.cr (by decide) (by decide)
    · rintro (h' | h')
      · exact t.gr.ev.ne_row hm (by decide) (by rw [← h']; exact h)
      · exact t.gr.ev.ne_row hr (by decide) (by rw [← h']; exact h)
  · rcases s.fv with e | e
    · rw [e]; exact t.fr
    · exact .inr fun g hg => Nat.le_trans t.up.size (e g hg)
  · intro g hg h
    rcases s.fv with e | e
    · rw [e] at h
      exact t.sep g hg h
    · have := e g h
      have := t.gr.ev.lt hg
      omega
end
theorem GD.drewN {w W : World} {L : PoolAt} {K : GAt} {m r : Nat} {vr0 v vr : Value} {P Q : PoolM} {G H : GuestM} (t : GD w W L K m r vr0 v vr P Q G H) (n : Nat) : GD w (W.drewN n) L K m r vr0 v vr P Q G H := t.non ((Upd.refl _ _).drewN n)
theorem GD.drew {w W : World} {L : PoolAt} {K : GAt} {m r : Nat} {vr0 v vr : Value} {P Q : PoolM} {G H : GuestM} (t : GD w W L K m r vr0 v vr P Q G H) : GD w W.drew L K m r vr0 v vr P Q G H := t.non (Upd.refl _ _).drew
theorem GD.alloc {w W : World} {L : PoolAt} {K : GAt} {m r : Nat} {vr0 v vr : Value} {P Q : PoolM} {G H : GuestM} (t : GD w W L K m r vr0 v vr P Q G H) (o : Obj) : GD w (W.alloc o) L K m r vr0 v vr P Q G H := t.non ((Upd.refl _ _).alloc o)
section
variable {w W W' : World} {L : PoolAt} {K : GAt} {m r bx : Nat} {vr0 v vr v' vr' : Value} {P Q P' Q' : PoolM} {G H G' H' : GuestM} {x : ActM}
end
section
variable {w W : World} {L : PoolAt} {K : GAt} {m r : Nat} {vr0 v vr : Value} {P Q : PoolM} {G H : GuestM} {E : Nat → Nat}
theorem GD.cLoad (t : GD w W L K m r vr0 v vr P Q G H) (hI : GInv P G E) (n : Int) : Calls Tryz.prog 94 #[.pointer (some ⟨K.g, 0, none⟩), .int .i64 n] W (LoadPost W L (K.vv v) (gload P G n)) := gload_any t.pg hI n
theorem GD.cStore (t : GD w W L K m r vr0 v vr P Q G H) (hI : GInv P G E) (n : Int) (b : UInt8) : Calls Tryz.prog 95 #[.pointer (some ⟨K.g, 0, none⟩), .int .i64 n, .int .u8 b.toNat] W (ActPost W L (K.vv v) (gstore P G n b)) := gstore_any t.pg hI n b
theorem GD.cSetRoot (t : GD w W L K m r vr0 v vr P Q G H) (n : Int) : Calls Tryz.prog 96 #[.pointer (some ⟨K.g, 0, none⟩), .int .i64 n] W (ActPost W L (K.vv v) (P, groot G n)) := gsetRoot_any t.pg n
theorem GD.cForget (t : GD w W L K m r vr0 v vr P Q G H) (hI : GInv P G E) (n : Int) : Calls Tryz.prog 97 #[.pointer (some ⟨K.g, 0, none⟩), .int .i64 n] W (ActPost W L (K.vv v) (P, gforget G n)) := gforget_any t.pg hI n
theorem GD.cForgetAll (t : GD w W L K m r vr0 v vr P Q G H) (hI : GInv P G E) (n : Int) : Calls Tryz.prog 98 #[.pointer (some ⟨K.g, 0, none⟩), .int .i64 n] W (ActPost W L (K.vv v) (P, gforgetAll G n)) := gforgetAll_any t.pg hI n
theorem GD.cPlug (t : GD w W L K m r vr0 v vr P Q G H) (hI : GInv P G E) (n : Int) : Calls Tryz.prog 91 #[.pointer (some ⟨K.g, 0, none⟩), .int .i64 n] W (ActPost W L (K.vv v) (gact G (P, (mplug G.m n).1, (mplug G.m n).2))) := gplug_any t.pg hI n
theorem GD.cUnplug (t : GD w W L K m r vr0 v vr P Q G H) (hI : GInv P G E) (n : Int) : Calls Tryz.prog 88 #[.pointer (some ⟨K.g, 0, none⟩), .int .i64 n] W (ActPost W L (K.vv v) (gact G (munplug P G.m n))) := gunplug_any t.pg hI n
theorem GD.cGive (t : GD w W L K m r vr0 v vr P Q G H) (hI : GInv P G E) (n : Int) : Calls Tryz.prog 92 #[.pointer (some ⟨K.g, 0, none⟩), .int .i64 n] W (ActPost W L (K.vv v) (gact G (mgive P G.m n))) := ggive_any t.pg hI n
theorem GD.cBack (t : GD w W L K m r vr0 v vr P Q G H) (hI : GInv P G E) (n : Int) : Calls Tryz.prog 93 #[.pointer (some ⟨K.g, 0, none⟩), .int .i64 n] W (ActPost W L (K.vv v) (gact G (P, (mback G.m n).1, (mback G.m n).2))) := gback_any t.pg hI n
theorem GD.cSeal (t : GD w W L K m r vr0 v vr P Q G H) (hI : GInv P G E) (n : Int) : Calls Tryz.prog 131 #[.pointer (some ⟨K.g, 0, none⟩), .int .i64 n] W (ActPost W L (K.vv v) (gact G (P, (mseal G.m n).1, (mseal G.m n).2))) := gseal_any t.pg hI n
theorem GD.cJoin (t : GD w W L K m r vr0 v vr P Q G H) (hI : GInv P G E) (n f : Int) : Calls Tryz.prog 132 #[.pointer (some ⟨K.g, 0, none⟩), .int .i64 n, .int .i64 f] W (ActPost W L (K.vv v) (gact G (mjoin P G.m n f))) := gjoin_any t.pg hI n f
theorem GD.rLoad (t : GD w W L K m r vr0 v vr P Q G H) (hI : GInv Q H E) (n : Int) : Calls Tryz.prog 45 #[.pointer (some ⟨r, 0, none⟩), .int .i64 n] W (RLoadPost W m r vr (gload Q H n)) := rgload_any t.rg hI n
theorem GD.rStore (t : GD w W L K m r vr0 v vr P Q G H) (hI : GInv Q H E) (n : Int) (b : UInt8) : Calls Tryz.prog 46 #[.pointer (some ⟨r, 0, none⟩), .int .i64 n, .int .u8 b.toNat] W (RActPost W m r vr (gstore Q H n b)) := rgstore_any t.rg hI n b
theorem GD.rSetRoot (t : GD w W L K m r vr0 v vr P Q G H) (n : Int) : Calls Tryz.prog 47 #[.pointer (some ⟨r, 0, none⟩), .int .i64 n] W (RActPost W m r vr (Q, groot H n)) := rgsetRoot_any t.rg n
theorem GD.rForget (t : GD w W L K m r vr0 v vr P Q G H) (hI : GInv Q H E) (n : Int) : Calls Tryz.prog 48 #[.pointer (some ⟨r, 0, none⟩), .int .i64 n] W (RActPost W m r vr (Q, gforget H n)) := rgforget_any t.rg hI n
theorem GD.rForgetAll (t : GD w W L K m r vr0 v vr P Q G H) (hI : GInv Q H E) (n : Int) : Calls Tryz.prog 49 #[.pointer (some ⟨r, 0, none⟩), .int .i64 n] W (RActPost W m r vr (Q, gforgetAll H n)) := rgforgetAll_any t.rg hI n
theorem GD.rPlug (t : GD w W L K m r vr0 v vr P Q G H) (hI : GInv Q H E) (n : Int) : Calls Tryz.prog 39 #[.pointer (some ⟨r, 0, none⟩), .int .i64 n] W (RActPost W m r vr (gact H (Q, (mplug H.m n).1, (mplug H.m n).2))) := rgplug_any t.rg hI n
theorem GD.rUnplug (t : GD w W L K m r vr0 v vr P Q G H) (hI : GInv Q H E) (n : Int) : Calls Tryz.prog 38 #[.pointer (some ⟨r, 0, none⟩), .int .i64 n] W (RActPost W m r vr (gact H (munplug Q H.m n))) := rgunplug_any t.rg hI n
theorem GD.rGive (t : GD w W L K m r vr0 v vr P Q G H) (hI : GInv Q H E) (n : Int) : Calls Tryz.prog 41 #[.pointer (some ⟨r, 0, none⟩), .int .i64 n, .bool false] W (RActPost W m r vr (gact H (mgive Q H.m n))) := rggive_any t.rg hI n
theorem GD.rBack (t : GD w W L K m r vr0 v vr P Q G H) (hI : GInv Q H E) (n : Int) : Calls Tryz.prog 41 #[.pointer (some ⟨r, 0, none⟩), .int .i64 n, .bool true] W (RActPost W m r vr (gact H (Q, (mback H.m n).1, (mback H.m n).2))) := rgback_any t.rg hI n
theorem GD.rSeal (t : GD w W L K m r vr0 v vr P Q G H) (hI : GInv Q H E) (n : Int) : Calls Tryz.prog 43 #[.pointer (some ⟨r, 0, none⟩), .int .i64 n] W (RActPost W m r vr (gact H (Q, (mseal H.m n).1, (mseal H.m n).2))) := rgseal_any t.rg hI n
theorem GD.rJoin (t : GD w W L K m r vr0 v vr P Q G H) (hI : GInv Q H E) (n f : Int) : Calls Tryz.prog 44 #[.pointer (some ⟨r, 0, none⟩), .int .i64 n, .int .i64 f] W (RActPost W m r vr (gact H (mjoin Q H.m n f))) := rgjoin_any t.rg hI n f
end
section
variable {w W : World} {L : PoolAt} {K : GAt} {m r : Nat} {vr0 v vr : Value} {P Q : PoolM} {G H : GuestM}
theorem GD.cState (t : GD w W L K m r vr0 v vr P Q G H) (n : Int) : Calls Tryz.prog 89 #[.pointer (some ⟨K.g, 0, none⟩), .int .i64 n] W fun e w' => e = .returned (.tuple #[.int .i64 (mstate G.m n).1, errv (mstate G.m n).2]) ∧ W = w' := gstate_any (G := G) (K := K.vv v) t.pg n
theorem GD.cLeaf (t : GD w W L K m r vr0 v vr P Q G H) (n : Int) : Calls Tryz.prog 99 #[.pointer (some ⟨K.g, 0, none⟩), .int .i64 n] W fun e w' => e = .returned (.tuple #[(mleaf G.m n).1.val, errv (mleaf G.m n).2]) ∧ Upd Non W w' := gleaf_any (G := G) (K := K.vv v) t.pg n
end
/-- An act answered the same. -/
def GuestedPost (w : World) (L : PoolAt) (K : GAt) (m r : Nat) (vr0 : Value) (n : Nat) (E : Nat → Nat) (e : Ending) (w' : World) : Prop :=
  e = .returned (.bool true) ∧ ∃ v' vr' P' G', GD w w' L K m r vr0 v' vr' P' P' G' G' ∧ P'.n = n ∧ GInv P' G' E

end U
end Go.Proofs.YtnhplapcdgnaaaaGreatDoor

set_option linter.unusedVariables false
set_option linter.unusedSimpArgs false
namespace Go.Proofs.YtnhplapcdgnaaaaGreatDoor
open Go.RowKit
namespace U

/-! The laws runs and guested (written by gen_guested.py). -/
end U
end Go.Proofs.YtnhplapcdgnaaaaGreatDoor

set_option linter.unusedVariables false
set_option linter.unusedSimpArgs false
namespace Go.Proofs.YtnhplapcdgnaaaaGreatDoor
open Go.RowKit
namespace U

theorem fresh3_free : (PoolM.fresh 3).free = some 0 := fresh_free (by omega)
def runsG : GuestM := { GuestM.fresh with m := MapM.fresh.setState 1 1 }
theorem runs_store : gstore (PoolM.fresh 3) runsG 17 5 = ((((PoolM.fresh 3).take.1).setByte 0 1 5), { runsG with m := runsG.m.setLeaf 1 ⟨true, true, 0⟩ }, 0) := by
  have e : mtouch (PoolM.fresh 3) (MapM.fresh.setState 1 1) 1 true = ((PoolM.fresh 3).take.1, (MapM.fresh.setState 1 1).setLeaf 1 ⟨true, true, 0⟩, 0, false, 0) := by
    unfold mtouch
    rw [if_pos (by decide), if_neg (by decide), if_neg (by decide), if_neg (by decide), if_neg (by decide), fresh3_free]
    rfl
  have ef : gframe (PoolM.fresh 3) runsG 17 true = ((PoolM.fresh 3).take.1, { runsG with m := runsG.m.setLeaf 1 ⟨true, true, 0⟩ }, 0, 0) := by
    unfold gframe gtouch
    rw [if_neg (by decide), if_pos (by decide)]
    show ((mtouch (PoolM.fresh 3) (MapM.fresh.setState 1 1) 1 true).1, _, (mtouch (PoolM.fresh 3) (MapM.fresh.setState 1 1) 1 true).2.2.1, (mtouch (PoolM.fresh 3) (MapM.fresh.setState 1 1) 1 true).2.2.2.2) = _
    show (_, ({ runsG with m := (mtouch (PoolM.fresh 3) (MapM.fresh.setState 1 1) 1 true).2.1 } : GuestM), _, _) = _
    rw [e]
    rfl
  unfold gstore
  rw [ef]
  simp only [ne_eq, not_true_eq_false, if_false]
  have es : (PoolM.fresh 3).take.1.set 0 (17 % 16) 5 = ((PoolM.fresh 3).take.1.setByte 0 1 5, 0) := by
    have ht : (PoolM.fresh 3).take.1 = ((PoolM.fresh 3).setRef 0 1).setRow 0 fun _ => 0 := by unfold PoolM.take; rw [fresh3_free]
    rw [ht]
    rfl
  rw [es]

end U
end Go.Proofs.YtnhplapcdgnaaaaGreatDoor

set_option linter.unusedVariables false
set_option linter.unusedSimpArgs false
namespace Go.Proofs.YtnhplapcdgnaaaaGreatDoor
open Go.RowKit
namespace U

theorem runs_load : gload (((PoolM.fresh 3).take.1).setByte 0 1 5) { runsG with m := runsG.m.setLeaf 1 ⟨true, true, 0⟩ } 17 = ((((PoolM.fresh 3).take.1).setByte 0 1 5), { runsG with m := runsG.m.setLeaf 1 ⟨true, true, 0⟩ }, 5, 0) := rfl
theorem mcnt_fresh (f : Nat) : mcnt MapM.fresh f = 0 := by
  unfold mcnt
  rw [List.countP_eq_zero]
  intro i _ h
  cases h
theorem GInv.fresh (n : Nat) : GInv (PoolM.fresh n) GuestM.fresh (fun _ => 0) := by
  refine ⟨⟨fun i _ => .inl rfl, (fun i _ h => by cases h), fun i _ _ => rfl, fun f _ => ?_, fun f => by omega⟩, CInv.nil, by show (-1 : Int) ≤ -1; omega, by show (-1 : Int) ≤ 15; omega⟩
  show (PoolM.fresh n).refs f = (mcnt MapM.fresh f + 0 : Nat)
  rw [mcnt_fresh]; rfl

/-- A guest of the program and the reference's, beside what was there at first. -/
structure GS (w W : World) (L : PoolAt) (K : GAt) (m r : Nat) (vr : Value) (P : PoolM) (G : GuestM) : Prop where
  rp : PoolRep W L P
  gr : GRep W L.p K G
  rm : RPoolRep W m P
  mr : RMRep W r 95 68 m G.m (xg vr G.root G.walks)
  ev : ERow W vr G.c
  sep : ∀ g, K.v.ownBlock = some g → ¬ vr.ownBlock = some g
  up : Upd Non w W
  lp : w.heap.size ≤ L.p
  lb : w.heap.size ≤ L.bb
  lr : w.heap.size ≤ L.rb
  lk : ∀ k, K.own k → w.heap.size ≤ k
  lm : w.heap.size ≤ m
  lg : w.heap.size ≤ r
  lv : Fresh w vr
section
variable {w W W' wc : World} {L L' : PoolAt} {K K' : GAt} {m r : Nat} {vr v' vr' : Value} {P P' : PoolM} {G G' : GuestM}
theorem GS.d (t : GS w W L K m r vr P G) : GD W W L K m r vr K.v vr P P G G := ⟨t.rp, t.gr, t.rm, t.mr, t.ev, .inl rfl, .inl rfl, t.sep, Upd.refl _ _⟩
theorem GS.pg (t : GS w W L K m r vr P G) : PG W W L K K.v P G.m (withLeaf G.m G.c) G.root G.walks := PG.start t.rp t.gr
theorem GS.step (t : GS w W L K m r vr P G) (d : GD W W' L K m r vr v' vr' P' P' G' G') : GS w W' L (K.vv v') m r vr' P' G' := by
  have hz := t.up.size
  refine ⟨d.rp, d.gr, d.rm, d.mr, d.ev, d.sep, t.up.over d.up ?_, t.lp, t.lb, t.lr, ?_, t.lm, t.lg, ?_⟩
  · rintro k (((rfl | rfl) | h) | (rfl | rfl))
    · exact t.lb
    · exact t.lr
    · exact t.lk k h
    · exact t.lm
    · exact t.lg
  · rintro k ((h | h) | (h | h))
    · exact t.lk k (.inl (.inl h))
    · exact t.lk k (.inl (.inr h))
    · exact t.lk k (.inr (.inl h))
    · rcases d.fv with e | e
      · exact t.lk k (.inr (.inr (by rw [← e]; exact h)))
      · exact Nat.le_trans hz (e k h)
  · rcases d.fr with e | e
    · rw [e]; exact t.lv
    · exact fun g hg => Nat.le_trans hz (e g hg)
theorem GS.non (t : GS w W L K m r vr P G) (u : Upd Non W W') : GS w W' L K m r vr P G :=
  ⟨t.rp.upd_ u (fun h => h) (fun h => h) (fun h => h), GRw.upd_ t.gr u (fun _ _ => (fun h => h)), t.rm.upd_ u (fun h => h), t.mr.upd_ u (fun h => h), t.ev.upd_ u (fun _ _ => (fun h => h)), t.sep, t.up.trans u, t.lp, t.lb, t.lr, t.lk, t.lm, t.lg, t.lv⟩
theorem GS.drewN (t : GS w W L K m r vr P G) (n : Nat) : GS w (W.drewN n) L K m r vr P G := t.non ((Upd.refl _ _).drewN n)
theorem GS.drew (t : GS w W L K m r vr P G) : GS w W.drew L K m r vr P G := t.non (Upd.refl _ _).drew
/-- Copies go on; the old ones' blocks may have changed. -/
theorem GS.copy (t : GS w W L K m r vr P G) (u : Upd Non W wc) (rp : PoolRep wc L' P) (gr : GRep wc L'.p K' G) (n1 : W.heap.size ≤ L'.p) (n2 : W.heap.size ≤ L'.bb) (n3 : W.heap.size ≤ L'.rb) (nk : ∀ k, K'.own k → W.heap.size ≤ k) (up : Upd (ownG L K) wc W') :
    GS w W' L' K' m r vr P G := by
  have hz := t.up.size
  have hl := t.rp.lts
  have old : ∀ k, ownG L K k → k < W.heap.size := by
    rintro k ((rfl | rfl) | h)
    · exact hl.2.1
    · exact hl.2.2
    · exact GRw.lts t.gr k h
  have new : ∀ k, W.heap.size ≤ k → ¬ ownG L K k := fun k hk h => by have := old k h; omega
  have d := t.d
  have s : PG W wc L K K.v P G.m (withLeaf G.m G.c) G.root G.walks := t.pg.non u
  have c := t.non u
  obtain ⟨_, hm, _⟩ := c.rm.row
  obtain ⟨_, hr, _⟩ := c.mr.row
  obtain ⟨_, _, hB, _⟩ := c.rp.bytes
  obtain ⟨_, _, hR, _⟩ := c.rp.counts
  have offT : ∀ {k T N : Nat} {f : Nat → Value}, Row wc k T N f → T ≠ 41 → T ≠ 3 → T ≠ 158 → T ≠ 175 → T ≠ 156 → T ≠ 144 → ¬ ownG L K k := by
    intro k T N f h e1 e2 e3 e4 e5 e6
    rintro ((h' | h') | h')
    · exact h.ne_ hB e1 h'
    · exact h.ne_ hR e2 h'
    · exact GRw.off c.gr h e3 e4 e5 e6 h'
  refine ⟨rp.upd_ up (new _ n1) (new _ n2) (new _ n3), GRw.upd_ gr up (fun k hk => new k (nk k hk)), c.rm.upd_ up (offT hm (by decide) (by decide) (by decide) (by decide) (by decide) (by decide)), c.mr.upd_ up (offT hr (by decide) (by decide) (by decide) (by decide) (by decide) (by decide)), c.ev.upd_ up ?_, ?_, c.up.over up ?_, by omega, by omega, by omega, fun k hk => Nat.le_trans hz (nk k hk), t.lm, t.lg, t.lv⟩
  · obtain ⟨_, hmm, _⟩ := c.gr.m.row
    rintro g hg ((h' | h') | ((h' | h') | (h' | h')))
    · exact c.ev.ne_row hB (by decide) (by rw [hg, h'])
    · exact c.ev.ne_row hR (by decide) (by rw [hg, h'])
    · exact c.ev.ne_row c.gr.row (by decide) (by rw [hg, h'])
    · exact c.ev.ne_row hmm (by decide) (by rw [hg, h'])
    · exact c.ev.ne_row c.gr.cr (by decide) (by rw [hg, h'])
    · exact t.sep g h' hg
  · intro g hg h
    have := nk g (.inr (.inr hg))
    have := t.ev.lt h
    omega
  · rintro k ((rfl | rfl) | h)
    · exact t.lb
    · exact t.lr
    · exact t.lk k h
end

end U
end Go.Proofs.YtnhplapcdgnaaaaGreatDoor

set_option linter.unusedVariables false
set_option linter.unusedSimpArgs false
namespace Go.Proofs.YtnhplapcdgnaaaaGreatDoor
open Go.RowKit
namespace U

theorem wpl_buildP {P : Program} {ops : Array Oper} {rest : List Oper} {o : Oper} {a : Act} {w : World} {Q : Exit → Act → World → Prop} (hg : o.guard = none) (ty : TypeId) (parts : Array (Nat × Operand))
    (ho : o.op = .build ty parts) (vals : Array (Nat × Value)) (hv : (parts.map fun (i, x) => (i, a.eval x)) = vals) (v : Value) (hl : (Instr.build ty vals).run P w = .ok v w) (h : wpList P ops Q rest (a.put o.dst v) w) : wpList P ops Q (o :: rest) a w := by
  refine wpList_plain hg fun K hK => ?_
  unfold Oper.wp execOp
  simp only [ho, hv, Sem.run_bind, hl, Result.andThen_ok, Sem.run_pure, Oper.upon_value]
  exact hK _ _ h
theorem wpl_move {P : Program} {ops : Array Oper} {rest : List Oper} {o : Oper} {a : Act} {w : World} {Q : Exit → Act → World → Prop} (hg : o.guard = none) (x : Operand) (ho : o.op = .move x) (v : Value) (hx : a.eval x = v)
    (h : wpList P ops Q rest (a.put o.dst v) w) : wpList P ops Q (o :: rest) a w := by
  refine wpList_plain hg fun K hK => ?_
  unfold Oper.wp execOp
  simp only [ho, hx, Sem.run_bind, Result.andThen_ok, Sem.run_pure, Oper.upon_value]
  exact hK _ _ h
/-- A new map, a new guest of the reference's: their cells. -/
def rmapC (m : Nat) : List Value := Value.pointer (some ⟨m, 0, none⟩) :: (List.replicate 16 (Value.int .i64 0) ++ (List.replicate 16 [Value.bool false, Value.bool false, Value.int .i64 0]).flatten)
def rguestC (m : Nat) : List Value := rmapC m ++ [.slice none 0 0, .int .i64 (-1), .int .i64 0]
theorem build_map (w : World) (m : Nat) : (Instr.build 91 #[(0, .pointer (some ⟨m, 0, none⟩))]).run Tryz.prog w = .ok (.agg (rmapC m).toArray) w := by kernel_rfl
theorem build_guest (w : World) (m : Nat) : (Instr.build 95 #[(0, .agg (rmapC m).toArray), (2, .int .i64 (-1))]).run Tryz.prog w = .ok (.agg (rguestC m).toArray) w := by kernel_rfl
theorem rguestC_get (m i : Nat) (hi : i < 16) : (rguestC m)[1 + i]? = some (.int .i64 0) ∧ (rguestC m)[17 + i * 3]? = some (.bool false) ∧ (rguestC m)[17 + i * 3 + 1]? = some (.bool false) ∧ (rguestC m)[17 + i * 3 + 2]? = some (.int .i64 0) := by
  have : i = 0 ∨ i = 1 ∨ i = 2 ∨ i = 3 ∨ i = 4 ∨ i = 5 ∨ i = 6 ∨ i = 7 ∨ i = 8 ∨ i = 9 ∨ i = 10 ∨ i = 11 ∨ i = 12 ∨ i = 13 ∨ i = 14 ∨ i = 15 := by omega
  rcases this with rfl | rfl | rfl | rfl | rfl | rfl | rfl | rfl | rfl | rfl | rfl | rfl | rfl | rfl | rfl | rfl <;> exact ⟨rfl, rfl, rfl, rfl⟩
theorem rguest_new (w : World) (m : Nat) : RMRep (w.alloc (.cells (rguestC m).toArray 95)) w.heap.size 95 68 m MapM.fresh (xg (.slice none 0 0) (-1) 0) := by
  refine ⟨⟨fun i => (rguestC m).getD i undef, ⟨_, heap_alloc_new w _, rfl, fun i hi => ?_⟩, rfl, fun i hi => ?_, fun i h1 h2 => ?_⟩, by omega⟩
  · have hl : i < (rguestC m).length := hi
    show (rguestC m).toArray[i]? = some ((rguestC m).getD i undef)
    rw [List.getElem?_toArray]
    simp [List.getD, List.getElem?_eq_getElem hl]
  · obtain ⟨z1, z2, z3, z4⟩ := rguestC_get m i hi
    simp only [List.getD_eq_getElem?_getD, z1, z2, z3, z4]
    exact ⟨rfl, rfl, rfl, rfl⟩
  · have : i = 65 ∨ i = 66 ∨ i = 67 := by omega
    rcases this with rfl | rfl | rfl <;> rfl

theorem GS.start {w ws w1 w3 : World} {L : PoolAt} {K : GAt} {k : Nat} (u1 : Upd Non w ws) (u : Upd Non ws w1) (r3 : PoolRep w3 L (PoolM.fresh k)) (g3 : GRep w3 L.p K GuestM.fresh) (u3 : Upd Non w1 w3) (l1 : ws.heap.size ≤ L.p) (l2 : ws.heap.size ≤ L.bb) (l3 : ws.heap.size ≤ L.rb)
    (k3 : ∀ x, K.own x → w1.heap.size ≤ x) (h1 : 1 ≤ (k : Int)) (h2 : (k : Int) ≤ 64) :
    GS w ((w3.alloc (.cells (Tryz.zeroCells45.setIfInBounds 0 (.int .i64 k)) 45)).alloc (.cells (rguestC w3.heap.size).toArray 95)) L K w3.heap.size (w3.heap.size + 1) (.slice none 0 0) (PoolM.fresh k) GuestM.fresh := by
  have z1 := u1.size
  have z2 := u.size
  have z3 := u3.size
  have rg := rguest_new (w3.alloc (.cells (Tryz.zeroCells45.setIfInBounds 0 (.int .i64 k)) 45)) w3.heap.size
  rw [World.size_alloc] at rg
  refine ⟨(r3.alloc _).alloc _, GRw.alloc (GRw.alloc g3 _) _, (rpool_new w3 k (by omega) (by omega)).alloc _, rg, ERow.nil, (fun g _ h => by cases h), (((u1.trans u).trans u3).alloc _).alloc _, by omega, by omega, by omega, fun x hx => by have := k3 x hx; omega, by omega, by omega, fun g h => by cases h⟩

end U
end Go.Proofs.YtnhplapcdgnaaaaGreatDoor
