import Derived.Test.YtnhplapcdgnaaaaGuestK
import Derived.Test.YtnhplapcdgnaaaaRGuestF
import Derived.Test.YtnhplapcdgnaaaaRCacheB
import Derived.Test.YtnhplapcdgnaaaaLawB
import Derived.Deep.RegionHeld3
set_option linter.unusedVariables false
set_option linter.unusedSimpArgs false
namespace Go.Proofs.Ytnhplapcdgnaaaa
open Go.RowKit
namespace U

/-! A guest of the program beside the reference's. -/
def both (L : PoolAt) (K : GAt) (m r : Nat) : Nat → Prop := fun k => ownG L K k ∨ ownR m r k
structure GD (w W : World) (L : PoolAt) (K : GAt) (m r : Nat) (vr0 v vr : Value) (P Q : PoolM) (G H : GuestM) : Prop where
  rp : PoolRep W L P
  gr : GRep W L.p (K.vv v) G
  rm : RPoolRep W m Q
  mr : RMRep W r 109 68 m H.m (xg vr H.root H.walks)
  ev : ERow W vr H.c
  fv : v = K.v ∨ Fresh w v
  fr : vr = vr0 ∨ Fresh w vr
  sep : ∀ g, v.ownBlock = some g → ¬ vr.ownBlock = some g
  up : Upd (both L K m r) w W
section
variable {w W W' : World} {L : PoolAt} {K : GAt} {m r : Nat} {vr0 v vr v' vr' : Value} {P Q P' Q' : PoolM} {G H G' H' : GuestM}
theorem GD.non (t : GD w W L K m r vr0 v vr P Q G H) (u : Upd Non W W') : GD w W' L K m r vr0 v vr P Q G H :=
  ⟨t.rp.upd_ u (fun h => h) (fun h => h) (fun h => h), GRw.upd_ t.gr u (fun _ _ => (fun h => h)), t.rm.upd_ u (fun h => h), t.mr.upd_ u (fun h => h), t.ev.upd_ u (fun _ _ => (fun h => h)), t.fv, t.fr, t.sep, t.up.over' u (fun _ h => h.elim)⟩
theorem GD.pg (t : GD w W L K m r vr0 v vr P Q G H) : PG W W L (K.vv v) v P G.m (withLeaf G.m G.c) G.root G.walks := ⟨t.rp, t.gr, .inl rfl, Upd.refl _ _⟩
theorem GD.rg (t : GD w W L K m r vr0 v vr P Q G H) : RG W W m r vr vr Q H.m H.c H.root H.walks := ⟨t.rm, t.mr, t.ev, .inl rfl, Upd.refl _ _⟩
theorem GD.stepP (t : GD w W L K m r vr0 v vr P Q G H) (s : PG W W' L (K.vv v) v' P' G'.m (withLeaf G'.m G'.c) G'.root G'.walks) : GD w W' L K m r vr0 v' vr P' Q G' H := by
  obtain ⟨_, hm, _⟩ := t.rm.row
  obtain ⟨_, hr, _⟩ := t.mr.row
  obtain ⟨_, _, hB, _⟩ := t.rp.bytes
  obtain ⟨_, _, hR, _⟩ := t.rp.counts
  have offT : ∀ {k T N : Nat} {f : Nat → Value}, Row W k T N f → T ≠ 59 → T ≠ 3 → T ≠ 154 → T ≠ 146 → T ≠ 28 → T ≠ 35 → ¬ ownG L (K.vv v) k := by
    intro k T N f h e1 e2 e3 e4 e5 e6
    rintro ((h' | h') | h')
    · exact h.ne_ hB e1 h'
    · exact h.ne_ hR e2 h'
    · exact GRw.off t.gr h e3 e4 e5 e6 h'
  have u := s.up
  refine ⟨s.rp, s.gr, t.rm.upd_ u (offT hm (by decide) (by decide) (by decide) (by decide) (by decide) (by decide)), t.mr.upd_ u (offT hr (by decide) (by decide) (by decide) (by decide) (by decide) (by decide)), t.ev.upd_ u ?_, ?_, t.fr, ?_, t.up.over' u ?_⟩
  · rintro g hg ((h' | h') | ((h' | h') | (h' | h')))
    · exact t.ev.ne_row hB (by decide) (by rw [hg, h'])
    · exact t.ev.ne_row hR (by decide) (by rw [hg, h'])
    · exact t.ev.ne_row t.gr.row (by decide) (by rw [hg, h'])
    · obtain ⟨_, hmm, _⟩ := t.gr.m.row
      exact t.ev.ne_row hmm (by decide) (by rw [hg, h'])
    · exact t.ev.ne_row t.gr.cr (by decide) (by rw [hg, h'])
    · exact t.sep g h' hg
  · rcases s.fv with e | e
    · have : v' = v := e
      rw [this]; exact t.fv
    · exact .inr fun g hg => Nat.le_trans t.up.size (e g hg)
  · intro g hg h
    rcases s.fv with e | e
    · have : v' = v := e
      rw [this] at hg
      exact t.sep g hg h
    · have := e g hg
      have := t.ev.lt h
      omega
  · rintro k (h' | ((h' | h') | (h' | h')))
    · exact .inl (.inl (.inl h'))
    · exact .inl (.inl (.inr (.inl (.inl h'))))
    · exact .inl (.inl (.inr (.inl (.inr h'))))
    · exact .inl (.inl (.inr (.inr (.inl h'))))
    · rcases t.fv with e | e
      · exact .inl (.inl (.inr (.inr (.inr (by rw [← e]; exact h')))))
      · exact .inr (e k h')
theorem GD.stepR (t : GD w W L K m r vr0 v vr P Q G H) (s : RG W W' m r vr vr' Q' H'.m H'.c H'.root H'.walks) : GD w W' L K m r vr0 v vr' P Q' G H' := by
  obtain ⟨_, hm, _⟩ := t.rm.row
  obtain ⟨_, hr, _⟩ := t.mr.row
  obtain ⟨_, _, hB, _⟩ := t.rp.bytes
  obtain ⟨_, _, hR, _⟩ := t.rp.counts
  have offT : ∀ {k T N : Nat} {f : Nat → Value}, Row W k T N f → T ≠ 63 → T ≠ 109 → ¬ ownR m r k := by
    intro k T N f h e1 e2
    rintro (h' | h')
    · exact h.ne_ hm e1 h'
    · exact h.ne_ hr e2 h'
  have u := s.up
  obtain ⟨_, hmm, _⟩ := t.gr.m.row
  refine ⟨t.rp.upd_ u (offT t.rp.st (by decide) (by decide)) (offT hB (by decide) (by decide)) (offT hR (by decide) (by decide)), GRw.upd_ t.gr u ?_, s.rp, s.mr, s.ev, t.fv, ?_, ?_, t.up.over' u (fun k h => .inl (.inr h))⟩
  · rintro k ((rfl | rfl) | (rfl | h))
    · exact offT t.gr.row (by decide) (by decide)
    · exact offT hmm (by decide) (by decide)
    · exact offT t.gr.cr (by decide) (by decide)
    · rintro (h' | h')
      · exact t.gr.ev.ne_row hm (by decide) (by rw [← h']; exact h)
      · exact t.gr.ev.ne_row hr (by decide) (by rw [← h']; exact h)
  · rcases s.fv with e | e
    · rw [e]; exact t.fr
    · exact .inr fun g hg => Nat.le_trans t.up.size (e g hg)
  · intro g hg h
    rcases s.fv with e | e
    · rw [e] at h
      exact t.sep g hg h
    · have := e g h
      have := t.gr.ev.lt hg
      omega
end
theorem GD.drewN {w W : World} {L : PoolAt} {K : GAt} {m r : Nat} {vr0 v vr : Value} {P Q : PoolM} {G H : GuestM} (t : GD w W L K m r vr0 v vr P Q G H) (n : Nat) : GD w (W.drewN n) L K m r vr0 v vr P Q G H := t.non ((Upd.refl _ _).drewN n)
theorem GD.drew {w W : World} {L : PoolAt} {K : GAt} {m r : Nat} {vr0 v vr : Value} {P Q : PoolM} {G H : GuestM} (t : GD w W L K m r vr0 v vr P Q G H) : GD w W.drew L K m r vr0 v vr P Q G H := t.non (Upd.refl _ _).drew
theorem GD.alloc {w W : World} {L : PoolAt} {K : GAt} {m r : Nat} {vr0 v vr : Value} {P Q : PoolM} {G H : GuestM} (t : GD w W L K m r vr0 v vr P Q G H) (o : Obj) : GD w (W.alloc o) L K m r vr0 v vr P Q G H := t.non ((Upd.refl _ _).alloc o)
/-- .. and a box with an act. -/
structure GDX (w W : World) (L : PoolAt) (K : GAt) (m r : Nat) (vr0 v vr : Value) (P Q : PoolM) (G H : GuestM) (bx : Nat) (x : ActM) : Prop extends GD w W L K m r vr0 v vr P Q G H where
  ax : Row W bx 31 6 (fun i => [Value.string x.kind, .int .i64 x.n, .int .i64 x.a, .int .i64 x.b, .int .u8 x.v.toNat, .bool x.on].getD i undef)
section
variable {w W W' : World} {L : PoolAt} {K : GAt} {m r bx : Nat} {vr0 v vr v' vr' : Value} {P Q P' Q' : PoolM} {G H G' H' : GuestM} {x : ActM}
theorem GDX.non (t : GDX w W L K m r vr0 v vr P Q G H bx x) (u : Upd Non W W') : GDX w W' L K m r vr0 v vr P Q G H bx x := ⟨t.toGD.non u, t.ax.upd_ u (fun h => h)⟩
theorem GDX.drewN (t : GDX w W L K m r vr0 v vr P Q G H bx x) (n : Nat) : GDX w (W.drewN n) L K m r vr0 v vr P Q G H bx x := t.non ((Upd.refl _ _).drewN n)
theorem GDX.drew (t : GDX w W L K m r vr0 v vr P Q G H bx x) : GDX w W.drew L K m r vr0 v vr P Q G H bx x := t.non (Upd.refl _ _).drew
theorem GDX.stepP (t : GDX w W L K m r vr0 v vr P Q G H bx x) (s : PG W W' L (K.vv v) v' P' G'.m (withLeaf G'.m G'.c) G'.root G'.walks) : GDX w W' L K m r vr0 v' vr P' Q G' H bx x := by
  refine ⟨t.toGD.stepP s, t.ax.upd_ s.up ?_⟩
  obtain ⟨_, _, hB, _⟩ := t.rp.bytes
  obtain ⟨_, _, hR, _⟩ := t.rp.counts
  rintro ((h' | h') | h')
  · exact t.ax.ne_ hB (by decide) h'
  · exact t.ax.ne_ hR (by decide) h'
  · exact GRw.off t.gr t.ax (by decide) (by decide) (by decide) (by decide) h'
theorem GDX.stepR (t : GDX w W L K m r vr0 v vr P Q G H bx x) (s : RG W W' m r vr vr' Q' H'.m H'.c H'.root H'.walks) : GDX w W' L K m r vr0 v vr' P Q' G H' bx x := by
  refine ⟨t.toGD.stepR s, t.ax.upd_ s.up ?_⟩
  obtain ⟨_, hm, _⟩ := t.rm.row
  obtain ⟨_, hr, _⟩ := t.mr.row
  rintro (h' | h')
  · exact t.ax.ne_ hm (by decide) h'
  · exact t.ax.ne_ hr (by decide) h'
theorem GDX.new (t : GD w W L K m r vr0 v vr P Q G H) (x : ActM) : GDX w (W.alloc (.cells #[.string x.kind, .int .i64 x.n, .int .i64 x.a, .int .i64 x.b, .int .u8 x.v.toNat, .bool x.on] 31)) L K m r vr0 v vr P Q G H W.heap.size x :=
  ⟨t.non ((Upd.refl _ _).alloc _), ⟨_, heap_alloc_new W _, rfl, fun i hi => by
    have : i = 0 ∨ i = 1 ∨ i = 2 ∨ i = 3 ∨ i = 4 ∨ i = 5 := by omega
    rcases this with rfl | rfl | rfl | rfl | rfl | rfl <;> rfl⟩⟩
theorem GDX.a2 (t : GDX w W L K m r vr0 v vr P Q G H bx x) : W.cell? ⟨bx, 2, none⟩ = some (.int .i64 x.a) := t.ax.cell (i := 2) (by omega)
theorem GDX.a3 (t : GDX w W L K m r vr0 v vr P Q G H bx x) : W.cell? ⟨bx, 3, none⟩ = some (.int .i64 x.b) := t.ax.cell (i := 3) (by omega)
theorem GDX.a4 (t : GDX w W L K m r vr0 v vr P Q G H bx x) : W.cell? ⟨bx, 4, none⟩ = some (.int .u8 x.v.toNat) := t.ax.cell (i := 4) (by omega)
end
section
variable {w W : World} {L : PoolAt} {K : GAt} {m r : Nat} {vr0 v vr : Value} {P Q : PoolM} {G H : GuestM} {E : Nat → Nat}
theorem GD.cLoad (t : GD w W L K m r vr0 v vr P Q G H) (hI : GInv P G E) (n : Int) : Calls Try.prog 97 #[.pointer (some ⟨K.g, 0, none⟩), .int .i64 n] W (LoadPost W L (K.vv v) (gload P G n)) := gload_any t.pg hI n
theorem GD.cStore (t : GD w W L K m r vr0 v vr P Q G H) (hI : GInv P G E) (n : Int) (b : UInt8) : Calls Try.prog 63 #[.pointer (some ⟨K.g, 0, none⟩), .int .i64 n, .int .u8 b.toNat] W (ActPost W L (K.vv v) (gstore P G n b)) := gstore_any t.pg hI n b
theorem GD.cSetRoot (t : GD w W L K m r vr0 v vr P Q G H) (n : Int) : Calls Try.prog 65 #[.pointer (some ⟨K.g, 0, none⟩), .int .i64 n] W (ActPost W L (K.vv v) (P, groot G n)) := gsetRoot_any t.pg n
theorem GD.cForget (t : GD w W L K m r vr0 v vr P Q G H) (hI : GInv P G E) (n : Int) : Calls Try.prog 104 #[.pointer (some ⟨K.g, 0, none⟩), .int .i64 n] W (ActPost W L (K.vv v) (P, gforget G n)) := gforget_any t.pg hI n
theorem GD.cForgetAll (t : GD w W L K m r vr0 v vr P Q G H) (hI : GInv P G E) (n : Int) : Calls Try.prog 66 #[.pointer (some ⟨K.g, 0, none⟩), .int .i64 n] W (ActPost W L (K.vv v) (P, gforgetAll G n)) := gforgetAll_any t.pg hI n
theorem GD.cPlug (t : GD w W L K m r vr0 v vr P Q G H) (hI : GInv P G E) (n : Int) : Calls Try.prog 96 #[.pointer (some ⟨K.g, 0, none⟩), .int .i64 n] W (ActPost W L (K.vv v) (gact G (P, (mplug G.m n).1, (mplug G.m n).2))) := gplug_any t.pg hI n
theorem GD.cUnplug (t : GD w W L K m r vr0 v vr P Q G H) (hI : GInv P G E) (n : Int) : Calls Try.prog 64 #[.pointer (some ⟨K.g, 0, none⟩), .int .i64 n] W (ActPost W L (K.vv v) (gact G (munplug P G.m n))) := gunplug_any t.pg hI n
theorem GD.cGive (t : GD w W L K m r vr0 v vr P Q G H) (hI : GInv P G E) (n : Int) : Calls Try.prog 107 #[.pointer (some ⟨K.g, 0, none⟩), .int .i64 n] W (ActPost W L (K.vv v) (gact G (mgive P G.m n))) := ggive_any t.pg hI n
theorem GD.cBack (t : GD w W L K m r vr0 v vr P Q G H) (hI : GInv P G E) (n : Int) : Calls Try.prog 108 #[.pointer (some ⟨K.g, 0, none⟩), .int .i64 n] W (ActPost W L (K.vv v) (gact G (P, (mback G.m n).1, (mback G.m n).2))) := gback_any t.pg hI n
theorem GD.cSeal (t : GD w W L K m r vr0 v vr P Q G H) (hI : GInv P G E) (n : Int) : Calls Try.prog 110 #[.pointer (some ⟨K.g, 0, none⟩), .int .i64 n] W (ActPost W L (K.vv v) (gact G (P, (mseal G.m n).1, (mseal G.m n).2))) := gseal_any t.pg hI n
theorem GD.cJoin (t : GD w W L K m r vr0 v vr P Q G H) (hI : GInv P G E) (n f : Int) : Calls Try.prog 109 #[.pointer (some ⟨K.g, 0, none⟩), .int .i64 n, .int .i64 f] W (ActPost W L (K.vv v) (gact G (mjoin P G.m n f))) := gjoin_any t.pg hI n f
theorem GD.rLoad (t : GD w W L K m r vr0 v vr P Q G H) (hI : GInv Q H E) (n : Int) : Calls Try.prog 101 #[.pointer (some ⟨r, 0, none⟩), .int .i64 n] W (RLoadPost W m r vr (gload Q H n)) := rgload_any t.rg hI n
theorem GD.rStore (t : GD w W L K m r vr0 v vr P Q G H) (hI : GInv Q H E) (n : Int) (b : UInt8) : Calls Try.prog 102 #[.pointer (some ⟨r, 0, none⟩), .int .i64 n, .int .u8 b.toNat] W (RActPost W m r vr (gstore Q H n b)) := rgstore_any t.rg hI n b
theorem GD.rSetRoot (t : GD w W L K m r vr0 v vr P Q G H) (n : Int) : Calls Try.prog 103 #[.pointer (some ⟨r, 0, none⟩), .int .i64 n] W (RActPost W m r vr (Q, groot H n)) := rgsetRoot_any t.rg n
theorem GD.rForget (t : GD w W L K m r vr0 v vr P Q G H) (hI : GInv Q H E) (n : Int) : Calls Try.prog 105 #[.pointer (some ⟨r, 0, none⟩), .int .i64 n] W (RActPost W m r vr (Q, gforget H n)) := rgforget_any t.rg hI n
theorem GD.rForgetAll (t : GD w W L K m r vr0 v vr P Q G H) (hI : GInv Q H E) (n : Int) : Calls Try.prog 106 #[.pointer (some ⟨r, 0, none⟩), .int .i64 n] W (RActPost W m r vr (Q, gforgetAll H n)) := rgforgetAll_any t.rg hI n
theorem GD.rPlug (t : GD w W L K m r vr0 v vr P Q G H) (hI : GInv Q H E) (n : Int) : Calls Try.prog 87 #[.pointer (some ⟨r, 0, none⟩), .int .i64 n] W (RActPost W m r vr (gact H (Q, (mplug H.m n).1, (mplug H.m n).2))) := rgplug_any t.rg hI n
theorem GD.rUnplug (t : GD w W L K m r vr0 v vr P Q G H) (hI : GInv Q H E) (n : Int) : Calls Try.prog 88 #[.pointer (some ⟨r, 0, none⟩), .int .i64 n] W (RActPost W m r vr (gact H (munplug Q H.m n))) := rgunplug_any t.rg hI n
theorem GD.rGive (t : GD w W L K m r vr0 v vr P Q G H) (hI : GInv Q H E) (n : Int) : Calls Try.prog 90 #[.pointer (some ⟨r, 0, none⟩), .int .i64 n, .bool false] W (RActPost W m r vr (gact H (mgive Q H.m n))) := rggive_any t.rg hI n
theorem GD.rBack (t : GD w W L K m r vr0 v vr P Q G H) (hI : GInv Q H E) (n : Int) : Calls Try.prog 90 #[.pointer (some ⟨r, 0, none⟩), .int .i64 n, .bool true] W (RActPost W m r vr (gact H (Q, (mback H.m n).1, (mback H.m n).2))) := rgback_any t.rg hI n
theorem GD.rSeal (t : GD w W L K m r vr0 v vr P Q G H) (hI : GInv Q H E) (n : Int) : Calls Try.prog 92 #[.pointer (some ⟨r, 0, none⟩), .int .i64 n] W (RActPost W m r vr (gact H (Q, (mseal H.m n).1, (mseal H.m n).2))) := rgseal_any t.rg hI n
theorem GD.rJoin (t : GD w W L K m r vr0 v vr P Q G H) (hI : GInv Q H E) (n f : Int) : Calls Try.prog 93 #[.pointer (some ⟨r, 0, none⟩), .int .i64 n, .int .i64 f] W (RActPost W m r vr (gact H (mjoin Q H.m n f))) := rgjoin_any t.rg hI n f
end
section
variable {w W : World} {L : PoolAt} {K : GAt} {m r : Nat} {vr0 v vr : Value} {P Q : PoolM} {G H : GuestM}
theorem GD.cRoot (t : GD w W L K m r vr0 v vr P Q G H) : Calls Try.prog 98 #[.pointer (some ⟨K.g, 0, none⟩)] W fun e w' => e = .returned (.int .i64 G.root) ∧ W = w' := groot_any (G := G) (K := K.vv v) t.pg
theorem GD.cWalks (t : GD w W L K m r vr0 v vr P Q G H) : Calls Try.prog 111 #[.pointer (some ⟨K.g, 0, none⟩)] W fun e w' => e = .returned (.int .i64 G.walks) ∧ W = w' := gwalks_any (G := G) (K := K.vv v) t.pg
theorem GD.cState (t : GD w W L K m r vr0 v vr P Q G H) (n : Int) : Calls Try.prog 114 #[.pointer (some ⟨K.g, 0, none⟩), .int .i64 n] W fun e w' => e = .returned (.tuple #[.int .i64 (mstate G.m n).1, errv (mstate G.m n).2]) ∧ W = w' := gstate_any (G := G) (K := K.vv v) t.pg n
theorem GD.cLeaf (t : GD w W L K m r vr0 v vr P Q G H) (n : Int) : Calls Try.prog 115 #[.pointer (some ⟨K.g, 0, none⟩), .int .i64 n] W fun e w' => e = .returned (.tuple #[(mleaf G.m n).1.val, errv (mleaf G.m n).2]) ∧ Upd Non W w' := gleaf_any (G := G) (K := K.vv v) t.pg n
theorem GD.cCached (t : GD w W L K m r vr0 v vr P Q G H) (hl : G.c.length ≤ 100) : Calls Try.prog 112 #[.pointer (some ⟨K.g, 0, none⟩)] W fun e w' => ∃ v', e = .returned v' ∧ ERow w' v' (withLeaf G.m G.c) ∧ Fresh W v' ∧ Upd Non W w' := gcached_any (K := K.vv v) t.pg (by rw [withLeaf_length]; exact hl)
theorem GD.rCached (t : GD w W L K m r vr0 v vr P Q G H) (hl : H.c.length ≤ 100) (hto : ∀ e ∈ H.c, 0 ≤ e.to ∧ e.to < 16) : Calls Try.prog 113 #[.pointer (some ⟨r, 0, none⟩)] W fun e w' => ∃ v', e = .returned v' ∧ ERow w' v' (withLeaf H.m H.c) ∧ Fresh W v' ∧ Upd Non W w' := rgcached_any t.rg hl hto
end
/-- An act answered the same. -/
def GuestedPost (w : World) (L : PoolAt) (K : GAt) (m r : Nat) (vr0 : Value) (n : Nat) (E : Nat → Nat) (e : Ending) (w' : World) : Prop :=
  e = .returned (.bool true) ∧ ∃ v' vr' P' G', GD w w' L K m r vr0 v' vr' P' P' G' G' ∧ P'.n = n ∧ GInv P' G' E

end U
end Go.Proofs.Ytnhplapcdgnaaaa
